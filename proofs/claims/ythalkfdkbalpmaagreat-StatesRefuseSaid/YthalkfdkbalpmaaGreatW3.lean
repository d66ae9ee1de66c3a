/- A part of a proof that a given statement (the one of this claim: the name of its theorem ends in _holds) is true of the program, with no condition ahead of it. Printed by wip/dev/pack2.py out of the texts in wip. -/
import Derived.Test.YthalkfdkbalpmaaGreatW2
set_option linter.unusedVariables false
set_option linter.unusedSimpArgs false
namespace Go.Proofs.YthalkfdkbalpmaaGreat.Rf
open Go
noncomputable section
inductive JE where
 |val (s:Nat) (t:Ty)
 |hdr (s key:Nat) (t:Ty) (m:Md)
def JE.ty:JE->Ty
 |.val _ t=>t
 |.hdr _ _ t _=>t
def jsT:List JE->Ty
 |[]=>.unit
 |j::js=>.pair j.ty (jsT js)
def ipT:List (Nat×Ty×Md)->Ty
 |[]=>.unit
 |p::ps=>.pair p.2.1 (ipT ps)
structure Spec where
 ip:List (Nat×Ty×Md)
 js:List JE
 yj:List Nat
abbrev Spec.T(s:Spec):Type:=(ipT s.ip).T×(jsT s.js).T
def dn(t:Nat):List Nat->Bool
 |[]=>false
 |x::xs=>Nat.beq t x||dn t xs
def isKey(l:Nat):List JE->Bool
 |[]=>false
 |.hdr _ k _ _::js=>Nat.beq l k||isKey l js
 |_::js=>isKey l js
def rT(l:Nat):List (Nat×Ty×Md)->Bool
 |[]=>false
 |p::ps=>Nat.beq l p.1||rT l ps
def Ar(σ0:St)(l:Nat):Nat:=match σ0.L l with|some b=>b.v+1|none=>1
def ipL(σ0:St):(ip:List (Nat×Ty×Md))->(ipT ip).T->Nat->Option Lab
 |[],_=>λ_=>none
 |p::ps,x=>upd (ipL σ0 ps x.2) p.1 (some ⟨Ar σ0 p.1,p.2.1,p.2.2,x.1⟩)
def gl(σ0:St)(s:Spec)(x:(ipT s.ip).T):St:=
 {E:=λt=>bif dn t s.yj then σ0.E t else none,L:=ipL σ0 s.ip x,U:=λl=>(σ0.U l&&!isKey l s.js)||rT l s.ip}
def As:(js:List JE)->(jsT js).T->St->St
 |[],_,σ=>σ
 |.val s t::js,x,σ=>As js x.2 {σ with E:=upd σ.E s (some (.one (.val t x.1)))}
 |.hdr s key t m::js,x,σ=>As js x.2 {E:=upd σ.E s (some (.one (.hdr key 1 [] ⟨t,x.1⟩))),L:=upd σ.L key (some ⟨1,t,m,x.1⟩),U:=λj=>Nat.beq j key||σ.U j}
def stJ(σ0:St)(s:Spec)(x:s.T):St:=As s.js x.2 (gl σ0 s x.1)
def ipK{R:Type}:(ip:List (Nat×Ty×Md))->(Nat->Option Lab)->((ipT ip).T->(Nat->Option Lab)->Option R)->Option R
 |[],L,K=>K () L
 |p::ps,L,K=>match L p.1 with
  |some ⟨_,t,m,x⟩=>if h:t=p.2.1 then(bif decide (m=p.2.2)then ipK ps (upd L p.1 none) λxs L'=>K (h ▸ x,xs) L' else none)else none
  |none=>none
def jsK{R:Type}(σ1:St):(js:List JE)->(Nat->Option Lab)->((jsT js).T->Option R)->Option R
 |[],_,K=>K ()
 |.val s t::js,L,K=>match σ1.E s with
  |some (.one e)=>asN e t λx=>jsK σ1 js L λxs=>K (x,xs)
  |_=>none
 |.hdr s _ t m::js,L,K=>match σ1.E s with
  |some (.one e)=>nr L t m e λy L'=>jsK σ1 js L' λxs=>K (y,xs)
  |_=>none
def kz(σ0 σ1:St):List Nat->Bool
 |[]=>true
 |t::ts=>((σ0.E t).isNone||((σ1.E t).isSome&&(j8 (σ1.E t) == j8 (σ0.E t))))&&kz σ0 σ1 ts
def rU{R:Type}(σ0:St)(s:Spec)(σ1:St)(K:s.T->Option R):Option R:=
 bif kz σ0 σ1 s.yj then ipK s.ip σ1.L λxs L=>jsK σ1 s.js L λys=>K (xs,ys)else none
def ly:ag->Option Nat
 |.hdr l ..=>some l
 |.adr l ..=>some l
 |.view l ..=>some l
 |_=>none
def wB(js:List JE):Option Ent->Bool
 |some (.one e)=>(match ly e with|some l=>!isKey l js|none=>true)
 |some (.tup _)=>false
 |some (.clo _ es)=>es.all λe=>(match ly e with|some l=>!isKey l js|none=>true)
 |none=>true
def qg(σ0:St)(js:List JE)(W:Nat->Bool):List Nat->Bool
 |[]=>true
 |t::ts=>(!W t&&wB js (σ0.E t))&&qg σ0 js W ts
def Du(σ0:St)(js:List JE):List (Nat×Ty×Md)->Bool
 |[]=>true
 |p::ps=>(((σ0.L p.1).isSome||!σ0.U p.1)&&!isKey p.1 js)&&Du σ0 js ps
def ml(σ0:St)(W:Nat->Bool):List JE->Bool
 |[]=>true
 |.val s _::js=>(W s||j8 (σ0.E s))&&ml σ0 W js
 |.hdr s k _ _::js=>(W s&&(!isKey k js&&Nat.beq (k % 8) 7))&&ml σ0 W js
def iT(σ0:St)(s:Spec)(W:Nat->Bool):Bool:=qg σ0 s.js W s.yj&&(Du σ0 s.js s.ip&&ml σ0 W s.js)
section
variable {P:Program} {B:bO} {F:ae} {Sg:Nat->ae} {cg:Nat->List Value} {σ:St} {a:Act} {w:World}
theorem aw.qh(h:aw B F Sg cg σ a w){s:Nat}{e:Ent}(he:dO F w σ.L σ.U cg e (a.tmps.getD s undef)):aw B F Sg cg {σ with E:=upd σ.E s (some e)} a w:=
 {h with
  ent:=λt e' he'=>by
   rcases cZ he' with⟨rfl,e1⟩|⟨hn,e1⟩
   ·injection e1 with e1;subst e1;exact he
   ·exact h.ent t e' e1}
theorem nF{t:Nat}{l:List Nat}(h:dn t l=true):t∈l:=by
 induction l with
 |nil=>cases h
 |cons x xs ih=>
  simp only[dn,Bool.or_eq_true]at h
  rcases h with h|h
  ·rw[Nat.eq_of_beq_eq_true h];simp
  ·simp[ih h]
theorem rV{σ0 σ1:St}{l:List Nat}(h:kz σ0 σ1 l=true){t:Nat}(ht:t∈l):((σ0.E t).isNone||((σ1.E t).isSome&&(j8 (σ1.E t) == j8 (σ0.E t))))=true:=by
 induction l with
 |nil=>simp at ht
 |cons x xs ih=>
  simp only[kz,Bool.and_eq_true]at h
  rcases List.mem_cons.1 ht with rfl|ht
  ·exact h.1
  ·exact ih h.2 ht
theorem uI{σ0:St}{js:List JE}{W:Nat->Bool}{l:List Nat}(h:qg σ0 js W l=true){t:Nat}(ht:t∈l):W t=false/\wB js (σ0.E t)=true:=by
 induction l with
 |nil=>simp at ht
 |cons x xs ih=>
  simp only[qg,Bool.and_eq_true,Bool.not_eq_true']at h
  rcases List.mem_cons.1 ht with rfl|ht
  ·exact h.1
  ·exact ih h.2 ht
theorem rW{σ0:St}{js:List JE}{l:Nat}{ps:List (Nat×Ty×Md)}(h:Du σ0 js ps=true)(hl:rT l ps=true):((σ0.L l).isSome||!σ0.U l)=true/\isKey l js=false:=by
 induction ps with
 |nil=>cases hl
 |cons p ps ih=>
  simp only[Du,Bool.and_eq_true,Bool.not_eq_true']at h
  simp only[rT,Bool.or_eq_true]at hl
  rcases hl with hl|hl
  ·rw[Nat.eq_of_beq_eq_true hl];exact h.1
  ·exact ih h.2 hl
theorem GN{R:Type}{σ0:St}:∀ (ip:List (Nat×Ty×Md)) (L:Nat->Option Lab) (K:(ipT ip).T->(Nat->Option Lab)->Option R) (r:R),ipK ip L K=some r->
 ∃ xs L',K xs L'=some r/\(∀ j,L' j=none\/L' j=L j)/\∀ l b',ipL σ0 ip xs l=some b'->rT l ip=true/\L' l=none/\∃ b1,L l=some b1/\b'=⟨Ar σ0 l,b1.t,b1.m,b1.x⟩:=by
 intro ip
 induction ip with
 |nil=>intro L K r hk;exact⟨(),L,hk,λ_=>.inr rfl,λl b' h=>by cases h⟩
 |cons p ps ih=>
  intro L K r hk
  simp only[ipK]at hk
  cases hl:L p.1 with
  |none=>rw[hl]at hk;cases hk
  |some b=>
   rw[hl]at hk
   obtain⟨v,t,m,x⟩:=b
   simp only at hk
   split at hk
   ·rename_i ht
    cases hm:decide (m=p.2.2)
    ·rw[hm]at hk;cases hk
    rw[hm]at hk
    simp only[cond_true]at hk
    replace hm:=of_decide_eq_true hm
    obtain⟨xs,L',g1,g2,g3⟩:=ih _ _ r hk
    have hL':∀ j,L' j=none\/L' j=L j:=λj=>by
     rcases g2 j with e|e
     ·exact .inl e
     ·rw[e]
      by_cases hj:j=p.1
      ·subst hj;exact .inl (ap _ _ _)
      ·exact .inr (au _ _ hj)
    refine⟨_,L',g1,hL',λl b' hb=>?_⟩
    rcases cZ hb with⟨rfl,e⟩|⟨hne,e⟩
    ·refine⟨by simp[rT,Nat.beq_refl],?_,⟨v,t,m,x⟩,hl,?_⟩
     ·rcases g2 p.1 with e1|e1
      ·exact e1
      ·rw[e1];exact ap _ _ _
     ·injection e with e
      subst e
      obtain⟨p1,p2,p3⟩:=p
      simp only at ht hm
      subst ht;subst hm
      rfl
    ·obtain⟨q1,q2,b1,q3,q4⟩:=g3 l b' e
     rw[au _ _ hne]at q3
     exact⟨by simp[rT,q1],q2,b1,q3,q4⟩
   ·cases hk
theorem nG{l s key:Nat}{t:Ty}{m:Md}{js:List JE}:isKey l (.hdr s key t m::js)=(Nat.beq l key||isKey l js):=rfl
theorem GO{R:Type}{F:ae}{Sg:Nat->ae}{cg:Nat->List Value}{σ1:St}(h1:aw B F Sg cg σ1 a w){W:Nat->Bool}{σ0:St}:∀ (js:List JE) (L:Nat->Option Lab) (K:(jsT js).T->Option R) (r:R) (σp:St) (Sgp:Nat->ae) (cgp:Nat->List Value),jsK σ1 js L K=some r->ml σ0 W js=true->(∀ j,L j=none\/L j=σ1.L j)->
 aw B F Sgp cgp σp a w->(∀ l,isKey l js=true->σp.U l=false)->(∀ k bk,σp.L k=some bk->∀ l b,L l=some b->Dis (Sgp k) (Sg l))->∃ ys,K ys=some r/\Inv B (As js ys σp) a w:=by
 intro js
 induction js with
 |nil=>intro L K r σp Sgp cgp hk _ _ hp _ _;exact⟨(),hk,F,Sgp,cgp,hp⟩
 |cons j js ih=>
  intro L K r σp Sgp cgp hk ho hL hp hU hd
  cases j with
  |val s t=>
   simp only[jsK]at hk
   simp only[ml,Bool.and_eq_true]at ho
   split at hk
   ·rename_i e hE
    obtain⟨x,cs,hk,hr,hv⟩:=z6 hk (h1.ent s _ hE)
    obtain⟨ys,g1,g2⟩:=ih L _ r _ Sgp cgp hk ho.2 hL (hp.qh (s:=s) (e:=.one (.val t x)) ⟨cs,hr,hv⟩) (λl hl=>hU l hl) hd
    exact⟨(x,ys),g1,g2⟩
   ·cases hk
  |hdr s key t m=>
   simp only[jsK]at hk
   simp only[ml,Bool.and_eq_true,Bool.not_eq_true']at ho
   split at hk
   ·rename_i e hE
    obtain⟨y,L1,cs1,S1,hk,hr,hv,hL1,hS1⟩:=rE h1 hL hk (h1.ent s _ hE)
    have hUk:σp.U key=false:=hU key (by rw[nG,Nat.beq_refl];rfl)
    have i1:=hp.fh (w':=w) rfl rfl rfl (Nat.le_refl _) (l:=key) (b:=⟨1,t,m,y⟩) hUk (upd σp.L key (some ⟨1,t,m,y⟩)) (λ_ _ _=>rfl) hr (ap _ _ _) (λj hj=>.inr (au _ _ hj))
     (λk hk=>by
      obtain⟨l2,b2,e1,e2,e3,e4⟩:=hS1 k hk
      refine⟨λj bj hj hbj hs=>?_,λhf=>h1.bY l2 b2 e2 k e4 hf,h1.lt l2 b2 e2 k e4,h1.may l2 b2 e2 k e4⟩
      rw[au _ _ hj]at hbj
      exact hd j bj hbj l2 b2 e1 k hs e4)
    have i2:=i1.qh (s:=s) (e:=.one (.hdr key 1 [] ⟨t,y⟩)) (dj i1 (l:=key) (b:=⟨1,t,m,y⟩) (ap _ _ _) (by simpa using hv))
    obtain⟨ys,g1,g2⟩:=ih L1 _ r _ _ _ hk ho.2 (λj=>by
     rcases hL1 j with e|e
     ·exact .inl e
     ·rw[e];exact hL j) i2 (λl hl=>by
     have hne:Nat.beq l key=false:=by
      cases hb:Nat.beq l key
      ·rfl
      ·rw[Nat.eq_of_beq_eq_true hb,ho.1.2.1]at hl;cases hl
     simp only[hne,Bool.false_or]
     exact hU l (by rw[nG,hl];simp)) (λk bk hbk l b hl=>by
     have hlL:L l=some b:=by
      rcases hL1 l with e|e
      ·rw[e]at hl;cases hl
      ·rw[<-e];exact hl
     by_cases hkk:k=key
     ·rw[if_pos hkk]
      intro q hq1 hq2
      obtain⟨l2,b2,e1,e2,e3,e4⟩:=hS1 q hq1
      by_cases e:l2=l
      ·subst e;rw[e3]at hl;cases hl
      ·have hl1:σ1.L l=some b:=by
        rcases hL l with e'|e'
        ·rw[e']at hlL;cases hlL
        ·rw[<-e'];exact hlL
       exact h1.dis l2 l b2 b e e2 hl1 q e4 hq2
     ·rw[if_neg hkk]
      rcases cZ hbk with⟨e,_⟩|⟨_,e⟩
      ·exact absurd e hkk
      ·exact hd k bk e l b hlL)
    exact⟨(y,ys),g1,g2⟩
   ·cases hk
theorem bm.mem{L:Nat->Option Lab}{U:Nat->Bool}:∀ {es:List ag} {vs:List Value} {e:ag},bm F w L U cg es vs->e∈es->∃ v,al F w L U cg e v:=by
 intro es
 induction es with
 |nil=>intro vs e _ h;simp at h
 |cons x xs ih=>
  rintro vs e ⟨v,r,rfl,h1,h2⟩ hm
  rcases List.mem_cons.1 hm with rfl|hm
  ·exact⟨v,h1⟩
  ·exact ih h2 hm
theorem bm.Lw{F':ae}{w':World}{L L':Nat->Option Lab}{U U':Nat->Bool}{cg':Nat->List Value}:∀ {es:List ag} {vs:List Value},(∀ e∈es,∀ v,al F w L U cg e v->al F' w' L' U' cg' e v)->bm F w L U cg es vs->bm F' w' L' U' cg' es vs:=by
 intro es
 induction es with
 |nil=>intro vs _ h;exact h
 |cons x xs ih=>
  rintro vs hi ⟨v,r,rfl,h1,h2⟩
  exact⟨v,r,rfl,hi x (by simp) v h1,ih (λe he=>hi e (by simp[he])) h2⟩
def wC(σ0:St):Prop:=∀ t e,(σ0.E t=some (.one e)\/∃ f es,σ0.E t=some (.clo f es)/\e∈es)->(∀ l n π c,e=.hdr l n π c->σ0.U l=true/\∀ b,σ0.L l=some b->n<=b.v)/\(∀ l n π c,e=.adr l n π c->σ0.U l=true/\∀ b,σ0.L l=some b->n<=b.v)/\∀ l te lo hi,e=.view l te lo hi->σ0.U l=true
theorem aw.ver(h:aw B F Sg cg σ a w):wC σ:=by
 intro t e he
 have:∃ v,al F w σ.L σ.U cg e v:=by
  rcases he with he|⟨f,es,he,hm⟩
  ·exact⟨_,h.ent t _ he⟩
  ·obtain⟨vs,_,hes⟩:=h.ent t _ he
   exact hes.mem hm
 obtain⟨v,this⟩:=this
 refine⟨?_,?_,?_⟩
 ·rintro l n π c rfl;exact⟨this.1,λb hb=>(this.2 b hb).1⟩
 ·rintro l n π c rfl;exact⟨this.1,λb hb=>(this.2 b hb).1⟩
 ·rintro l te lo hi rfl;exact this.1
theorem Au{σ0:St}{W:Nat->Bool}{l:Nat}{js:List JE}(h:ml σ0 W js=true)(hl:isKey l js=true):l % 8=7:=by
 induction js with
 |nil=>cases hl
 |cons j js ih=>
  cases j with
  |val s t=>simp only[ml,Bool.and_eq_true]at h;exact ih h.2 hl
  |hdr s k t m=>
   simp only[ml,Bool.and_eq_true]at h
   simp only[isKey,Bool.or_eq_true]at hl
   rcases hl with hl|hl
   ·rw[Nat.eq_of_beq_eq_true hl];exact Nat.eq_of_beq_eq_true h.1.2.2
   ·exact ih h.2 hl
def wD(B:bO)(σ0:St):Prop:=∀ l cs,B.fix l=some cs->σ0.U l=true
theorem aw.FL(h:aw B F Sg cg σ a w):wD B σ:=λl cs hf=>(h.fix l cs hf).1.1
theorem uJ{R:Type}{σ0 σ1:St}{W:Nat->Bool}(h:Inv B σ1 a w)(hv:wC σ0)(hvf:wD B σ0)(hes:ES σ0 σ1 W){s:Spec}(hs:iT σ0 s W=true){K:s.T->Option R}{r:R}(hk:rU σ0 s σ1 K=some r):∃ x,K x=some r/\Inv B (stJ σ0 s x) a w:=by
 obtain⟨F,Sg,cg,h⟩:=h
 unfold rU at hk
 unfold iT at hs
 simp only[Bool.and_eq_true]at hs
 obtain⟨hs1,hs2,hs3⟩:=hs
 cases hka:kz σ0 σ1 s.yj
 ·rw[hka]at hk;cases hk
 rw[hka]at hk
 simp only[cond_true]at hk
 obtain⟨xs,L',hk,hL',hip⟩:=GN (σ0:=σ0) s.ip σ1.L _ r hk
 have IR:aw B F Sg cg (gl σ0 s xs) a w:=
  {fr:=h.fr
   size:=h.size
   defers:=h.defers
   f0:=h.f0
   fl:=h.fl
   fs:=h.fs
   lab:=λl b hb=>by obtain⟨_,_,b1,q1,rfl⟩:=hip l b hb;exact h.lab l b1 q1
   dis:=λl l' b b' hne hb hb'=>by
    obtain⟨_,_,b1,q1,_⟩:=hip l b hb
    obtain⟨_,_,b2,q2,_⟩:=hip l' b' hb'
    exact h.dis l l' b1 b2 hne q1 q2
   bY:=λl b hb=>by obtain⟨_,_,b1,q1,_⟩:=hip l b hb;exact h.bY l b1 q1
   lt:=λl b hb=>by obtain⟨_,_,b1,q1,_⟩:=hip l b hb;exact h.lt l b1 q1
   may:=λl b hb=>by obtain⟨_,_,b1,q1,_⟩:=hip l b hb;exact h.may l b1 q1
   used:=λl b hb=>by obtain⟨q0,_⟩:=hip l b hb;simp[gl,q0]
   fix:=λl cs' hf=>by
    obtain⟨⟨q1,q2⟩,q3⟩:=h.fix l cs' hf
    refine⟨⟨?_,q2⟩,λb hb=>?_⟩
    ·have oB:isKey l s.js=false:=by
      cases hi:isKey l s.js
      ·rfl
      ·have:=Au hs3 hi;omega
     simp[gl,hvf l cs' hf,oB]
    ·obtain⟨_,_,b1,g1,_⟩:=hip l b hb
     exact q3 b1 g1
   ent:=λt e he=>by
    simp only[gl]at he
    cases hm:dn t s.yj
    ·rw[hm]at he;cases he
    rw[hm]at he
    simp only[cond_true]at he
    have fi:=nF hm
    have yk:=rV hka fi
    obtain⟨hW,hno⟩:=uI hs1 fi
    have hE1:σ1.E t=some e:=by
     rw[he]at yk
     simp only[Option.isNone_some,Bool.false_or,Bool.and_eq_true]at yk
     rcases hes t hW with e1|e1|⟨e1,e2⟩
     ·rw[e1,he]
     ·rw[e1]at yk;simp at yk
     ·rw[he]at e1
      rw[e1,e2]at yk
      simp at yk
    have h1:=h.ent t e hE1
    rw[he]at hno
    have one:∀ (e:ag) (v:Value),(σ0.E t=some (.one e)\/∃ f es,σ0.E t=some (.clo f es)/\e∈es)->(match ly e with|some l=>!isKey l s.js|none=>true)=true->al F w σ1.L σ1.U cg e v->al F w (gl σ0 s xs).L (gl σ0 s xs).U cg e v:=by
     intro e v he hno h1
     have GP:=hv t e he
     have fin:∀ l n,(σ0.U l=true/\∀ b,σ0.L l=some b->n<=b.v)->isKey l s.js=false->(gl σ0 s xs).U l=true/\∀ b',(gl σ0 s xs).L l=some b'->∃ b1,σ1.L l=some b1/\n<b'.v/\b'.t=b1.t:=by
      intro l n hln oB
      refine⟨by simp[gl,hln.1,oB],λb' hb'=>?_⟩
      obtain⟨q0,_,b1,q1,rfl⟩:=hip l b' hb'
      refine⟨b1,q1,?_,rfl⟩
      have:=(rW hs2 q0).1
      rw[hln.1]at this
      simp only[Bool.not_true,Bool.or_false]at this
      obtain⟨b0,hb0⟩:=Option.isSome_iff_exists.1 this
      simp only[Ar,hb0]
      exact Nat.lt_succ_of_le (hln.2 b0 hb0)
     cases e with
     |val t x=>exact h1
     |cst u=>exact h1
     |gA t x=>exact h1
     |view l te lo hi=>
      simp only[ly,Bool.not_eq_true']at hno
      refine⟨by simp[gl,GP.2.2 l te lo hi rfl,hno],λb' hb'=>?_⟩
      obtain⟨_,_,b1,q1,_⟩:=hip l b' hb'
      exact h1.2 b1 q1
     |hdr l n π c=>
      simp only[ly,Bool.not_eq_true']at hno
      obtain⟨f1,f2⟩:=fin l n (GP.1 l n π c rfl) hno
      refine⟨f1,λb' hb'=>?_⟩
      obtain⟨b1,q1,q2,q3⟩:=f2 b' hb'
      obtain⟨k1,k2,k3⟩:=h1.2 b1 q1
      exact⟨Nat.le_of_lt q2,λhp=>by rw[q3];exact k2 hp,λhn=>by omega⟩
     |adr l n π c=>
      simp only[ly,Bool.not_eq_true']at hno
      obtain⟨f1,f2⟩:=fin l n (GP.2.1 l n π c rfl) hno
      refine⟨f1,λb' hb'=>?_⟩
      obtain⟨b1,q1,q2,q3⟩:=f2 b' hb'
      obtain⟨k1,k2,k3⟩:=h1.2 b1 q1
      exact⟨Nat.le_of_lt q2,λhp p o hr=>k2 hp p o (by rw[<-q3];exact hr),λhn=>by omega⟩
    cases e with
    |tup es=>simp[wB]at hno
    |one e=>exact one e _ (.inl he) hno h1
    |clo f es=>
     obtain⟨vs,hv1,Lx⟩:=h1
     simp only[wB,List.all_eq_true]at hno
     exact⟨vs,hv1,Lx.Lw λe hm v hv=>one e v (.inr ⟨f,es,he,hm⟩) (hno e hm) hv⟩}
 obtain⟨ys,g1,g2⟩:=GO h (σ0:=σ0) (W:=W) s.js L' _ r (gl σ0 s xs) Sg cg hk hs3 hL' IR (λl hl=>by
  simp only[gl,hl,Bool.not_true,Bool.and_false,Bool.false_or]
  cases hi:rT l s.ip
  ·rfl
  ·rw[(rW hs2 hi).2]at hl;cases hl)
  (λk bk hbk l b hl=>by
   obtain⟨_,q1,b1,q2,_⟩:=hip k bk hbk
   have hl1:σ1.L l=some b:=by
    rcases hL' l with e|e
    ·rw[e]at hl;cases hl
    ·rw[<-e];exact hl
   by_cases e:k=l
   ·subst e;rw[q1]at hl;cases hl
   ·exact h.dis k l b1 b e q2 hl1)
 exact⟨(xs,ys),g1,g2⟩
theorem uK{σ0:St}{W:Nat->Bool}{s:Spec}(hs:iT σ0 s W=true)(x:s.T):ES σ0 (stJ σ0 s x) W:=by
 unfold iT at hs
 simp only[Bool.and_eq_true]at hs
 have key:∀ (js:List JE) (ys:(jsT js).T) (σp:St),ml σ0 W js=true->ES σ0 σp W->ES σ0 (As js ys σp) W:=by
  intro js
  induction js with
  |nil=>intro ys σp _ h;exact h
  |cons j js ih=>
   intro ys σp ho h
   cases j with
   |val s t=>
    simp only[ml,Bool.and_eq_true,Bool.or_eq_true]at ho
    refine ih ys.2 _ ho.2 (λj hj=>?_)
    by_cases e:j=s
    ·subst e
     rcases ho.1 with h1|h1
     ·rw[hj]at h1;cases h1
     ·exact .inr (.inr ⟨h1,by simp only[ap];rfl⟩)
    ·simp only[au _ _ e];exact h j hj
   |hdr s key t m=>
    simp only[ml,Bool.and_eq_true,Bool.not_eq_true']at ho
    refine ih ys.2 _ ho.2 (λj hj=>?_)
    by_cases e:j=s
    ·subst e;rw[hj]at ho;exact absurd ho.1.1 (by simp)
    ·simp only[au _ _ e];exact h j hj
 refine key s.js x.2 _ hs.2.2 (λj hj=>?_)
 simp only[gl]
 cases dn j s.yj
 ·exact .inr (.inl rfl)
 ·exact .inl rfl
end
section
variable {R R':Type} (G:R->Option R')
theorem ar(c:Bool)(x y:Option R):(bif c then x else y).bind G=bif c then x.bind G else y.bind G:=by cases c <;> rfl
theorem ek(p:Prop)[Decidable p](x y:Option R):(if p then x else y).bind G=if p then x.bind G else y.bind G:=by split <;> rfl
theorem bC:(none:Option R).bind G=none:=rfl
theorem rX(c:V)(K:V->Option R):(lg c K).bind G=lg c λq=>(K q).bind G:=by
 obtain⟨t,x⟩:=c
 cases t <;> first
  |rfl
  |(cases x <;> rfl)
theorem aV(e:ag)(t:Ty)(K:t.T->Option R):(asT e t K).bind G=asT e t λx=>(K x).bind G:=by
 unfold asT;simp only[Bool.cond_eq_ite];repeat' split
 all_goals rfl
theorem eG(e:ag)(K:Int->Option R):(fm e K).bind G=fm e λx=>(K x).bind G:=by
 unfold fm;repeat' split
 all_goals rfl
theorem gG(σ:St)(e:ag)(K:Nat->Lab->List Stp->V->Option R):(plc σ e K).bind G=plc σ e λl b π c=>(K l b π c).bind G:=by
 unfold plc
 split
 ·cases σ.L _ with
  |none=>rfl
  |some b=>
   simp only[Bool.cond_eq_ite]
   repeat' split
   all_goals first
    |rfl
    |(rw[dM,dM,Option.bind_assoc])
 ·cases σ.L _ with
  |none=>rfl
  |some b=>
   simp only[ar,rX,bC]
 ·rfl
theorem cF(σ:St)(e:ag)(K:Nat->Lab->List Stp->V->Option R):(fM σ e K).bind G=fM σ e λl b π c=>(K l b π c).bind G:=by
 unfold fM;simp only[Bool.cond_eq_ite];repeat' split
 all_goals rfl
theorem ie(e:ag)(K:(t:Ty)->t.T->Option R):(kl e K).bind G=kl e λt x=>(K t x).bind G:=by
 unfold kl;repeat' split
 all_goals rfl
theorem jB(t:Ty)(x:t.T)(π:List Stp)(K:(u:Ty)->u.T->Option R):(cY t x π K).bind G=cY t x π λu y=>(K u y).bind G:=by
 rw[dM,dM,Option.bind_assoc]
theorem jC(t:Ty)(x:t.T)(π:List Stp)(u:Ty)(y:u.T)(K:t.T->Option R):(eC t x π u y K).bind G=eC t x π u y λz=>(K z).bind G:=by
 rw[dW,dW,Option.bind_assoc]
theorem lz(TT:Tab)(s f:Nat)(K:TD->Nat->List Stp->TD->Option R):(rk TT s f K).bind G=rk TT s f λa b c d=>(K a b c d).bind G:=by
 unfold rk;simp only[Bool.cond_eq_ite];repeat' split
 all_goals rfl
theorem j9(L:Nat->Option Lab)(t:Ty)(e:ag)(K:t.T->Md->(Nat->Option Lab)->Option R):(lY L t e K).bind G=lY L t e λa b c=>(K a b c).bind G:=by
 unfold lY;repeat' split
 all_goals first
  |rfl
  |exact aV G _ _ _
theorem rY(TT:Tab)(t:TypeId)(d:TD)(i:Nat)(K:Nat->List Stp->TD->Option R):(lj TT t d i K).bind G=lj TT t d i λa b c=>(K a b c).bind G:=by
 unfold lj;simp only[Bool.cond_eq_ite];repeat' split
 all_goals first
  |rfl
  |exact lz G _ _ _ _
theorem rZ(TT:Tab)(t:TypeId)(d:TD):∀ (es:List (Nat×ag)) (x:d.ty.T) (m:Md) (L:Nat->Option Lab) (K:d.ty.T->Md->(Nat->Option Lab)->Option R),(j7 TT t d es x m L K).bind G=j7 TT t d es x m L λa b c=>(K a b c).bind G:=by
 intro es
 induction es with
 |nil=>intro x m L K;rfl
 |cons p es ih=>
  obtain⟨i,e⟩:=p
  intro x m L K
  simp only[j7]
  rw[rY]
  congr 1
  funext k φ df
  rw[ar,j9]
  congr 1
  congr 1
  funext y my L'
  split
  ·rw[jC]
   congr 1
   funext x'
   exact ih _ _ _ _
  ·rfl
theorem yl(t:Ty)(m:Md):∀ (es:List (Nat×ag)) (L:Nat->Option Lab) (K:List t.T->(Nat->Option Lab)->Option R),(uz t m es L K).bind G=uz t m es L λa b=>(K a b).bind G:=by
 intro es
 induction es with
 |nil=>intro L K;rfl
 |cons p es ih=>
  obtain⟨i,e⟩:=p
  intro L K
  simp only[uz]
  rw[j9]
  congr 1
  funext y my L'
  rw[ar,ih]
  rfl
theorem ym(σ:St)(str:Bool)(te:Ty)(e:ag)(K:List te.T->Md->Option Nat->Option R):(ry σ str te e K).bind G=ry σ str te e λa b c=>(K a b c).bind G:=by
 unfold ry;simp only[Bool.cond_eq_ite];repeat' split
 all_goals first
  |rfl
  |exact aV G _ _ _
  |(rw[cF];congr 1;funext l b π c;repeat' split) <;> rfl
theorem jD(lo hi:Option ag)(n:Nat)(K:Int->Int->Option R):(oA lo hi n K).bind G=oA lo hi n λa b=>(K a b).bind G:=by
 unfold oA
 cases lo with
 |none=>
  cases hi with
  |none=>simp only;rw[ek];rfl
  |some eh=>simp only;rw[eG];congr 1;funext h;rw[ek];rfl
 |some el=>
  simp only
  rw[eG]
  congr 1
  funext l
  cases hi with
  |none=>simp only;rw[ek];rfl
  |some eh=>simp only;rw[eG];congr 1;funext h;rw[ek];rfl
theorem uL(L:Nat->Option Lab)(t:Ty)(m:Md)(e:ag)(K:t.T->(Nat->Option Lab)->Option R):(nr L t m e K).bind G=nr L t m e λa b=>(K a b).bind G:=by
 unfold nr
 rw[ar,j9,aV]
 congr 1
 congr 1
 funext y my L'
 rw[ar]
 rfl
theorem Av(e:ag)(t:Ty)(K:t.T->Option R):(asN e t K).bind G=asN e t λx=>(K x).bind G:=by
 have sl:∀ (a b:Ty) (x:List a.T) (K:(Ty.nl b).T->Option R),(asN (.val (.sl a) x) (.nl b) K).bind G=asN (.val (.sl a) x) (.nl b) λx=>(K x).bind G:=by
  intro a b x K
  show((if h:a=b then(bif List.isEmpty (x:List a.T)then none else K (h ▸ x))else none).bind G)=(if h:a=b then(bif List.isEmpty (x:List a.T)then none else(K (h ▸ x)).bind G)else none)
  split
  ·rw[ar];rfl
  ·rfl
 have ls:∀ (a b:Ty) (x:List a.T) (K:(Ty.sl b).T->Option R),(asN (.val (.nl a) x) (.sl b) K).bind G=asN (.val (.nl a) x) (.sl b) λx=>(K x).bind G:=by
  intro a b x K
  show((if h:a=b then K (h ▸ x)else none).bind G)=(if h:a=b then(K (h ▸ x)).bind G else none)
  split
  ·rfl
  ·rfl
 cases e with
 |val t0 x=>
  cases t0
  case nl a=>
   cases t
   case sl b=>exact ls a b x K
   all_goals exact aV G (.val (.nl a) x) _ K
  case sl a=>
   cases t
   case nl b=>exact sl a b x K
   all_goals exact aV G (.val (.sl a) x) _ K
  all_goals exact aV G (.val _ x) t K
 |cst v=>exact aV G (.cst v) t K
 |hdr l n π c=>exact aV G (.hdr l n π c) t K
 |adr l n π c=>exact aV G (.adr l n π c) t K
 |gA t0 x=>exact aV G (.gA t0 x) t K
 |view l te lo hi=>exact aV G (.view l te lo hi) t K
theorem yn(σ:St)(L:Nat->Option Lab)(t:Ty)(m:Md)(e:ag)(K:t.T->(Nat->Option Lab)->List Nat->Option R):(pS σ L t m e K).bind G=pS σ L t m e λa b c=>(K a b c).bind G:=by
 unfold pS
 rw[ar,uL]
 congr 1
 ·split
  ·rw[cF];congr 1;funext l b π c;split <;> rfl
  ·exact Av G _ _ _
theorem uM(σ:St):∀ (ps:List (Ty×Md)) (es:List ag) (L:Nat->Option Lab) (K:(bX ps).T->(Nat->Option Lab)->List Nat->Option R),(gC σ ps es L K).bind G=gC σ ps es L λa b c=>(K a b c).bind G:=by
 intro ps
 induction ps with
 |nil=>intro es L K;cases es <;> rfl
 |cons p ps ih=>
  intro es L K
  cases es with
  |nil=>rfl
  |cons e es=>
   simp only[gC]
   rw[yn]
   congr 1
   funext x L1 b1
   rw[ih]
theorem yo:∀ (rs:List (Ty×Md)) (x:(bX rs).T) (key:Nat) (σ:St) (K:St->List ag->Option R),(ll rs x key σ K).bind G=ll rs x key σ λa b=>(K a b).bind G:=by
 intro rs
 induction rs with
 |nil=>intro x key σ K;rfl
 |cons p rs ih=>
  intro x key σ K
  simp only[ll]
  rw[ar,ar,ih,ih]
  rfl
theorem uN{A:Type}(o:Option A)(k:A->Option R):(af o k).bind G=af o λa=>(k a).bind G:=by cases o <;> rfl
end
section
variable {R R':Type} (G:R->Option R')
theorem oT(td:Option TD)(op:BinOp)(x y:ag)(K:ag->Option R):(ul td op x y K).bind G=ul td op x y λe=>(K e).bind G:=by
 unfold ul
 split
 ·cases op <;> simp only[ar,ek,bC]
 ·cases op <;> simp only[ar,ek,bC]
 ·cases op <;> simp only[ar,ek,bC]
 ·rfl
theorem nH(d:TD)(σ:St)(e:ag)(K:ag->Option R):(mX d σ e K).bind G=mX d σ e λe=>(K e).bind G:=by
 unfold mX
 simp only[ar,gG,ie,bC]
theorem iB(TT:Tab)(σ:St)(s:TypeId)(e:ag)(f:Nat)(K:ag->Option R):(fL TT σ s e f K).bind G=fL TT σ s e f λe=>(K e).bind G:=by
 unfold fL
 simp only[lz,ar,gG,ie,jB,bC]
theorem l7(TT:Tab)(σ:St)(s:TypeId)(e:ag)(f:Nat)(K:ag->Option R):(nk TT σ s e f K).bind G=nk TT σ s e f λe=>(K e).bind G:=by
 unfold nk
 rw[lz]
 congr 1
 funext d k φ df
 rw[ar]
 congr 1
 cases e <;> simp only[ar,cF,jB,bC]
theorem mn(TT:Tab)(σ:St)(t:TypeId)(ex ei:ag)(K:ag->Option R):(dP TT σ t ex ei K).bind G=dP TT σ t ex ei λe=>(K e).bind G:=by
 unfold dP
 rw[eG]
 congr 1
 funext i
 split
 ·rfl
 ·split
  ·split
   ·rfl
   ·split
    ·simp only[ar,ek,bC]
     congr 1
     split
     ·split <;> rfl
     ·rfl
    ·simp only[ar,cF,jB,bC]
    ·rfl
  ·split
   ·rfl
   ·simp only[ar,gG,ie,jB,bC]
  ·rfl
theorem l8(TT:Tab)(t:TypeId)(ex ei:ag)(K:ag->Option R):(li TT t ex ei K).bind G=li TT t ex ei λe=>(K e).bind G:=by
 unfold li
 rw[eG]
 congr 1
 funext i
 simp only[Bool.cond_eq_ite]
 repeat' split
 all_goals rfl
theorem oU(TT:Tab)(σ:St)(t:TypeId)(e:ag)(K:ag->Option R):(xP TT σ t e K).bind G=xP TT σ t e λe=>(K e).bind G:=by
 unfold xP
 split
 ·rfl
 ·split
  ·split <;> rfl
  ·split
   ·rfl
   ·rw[cF];congr 1;funext l b π c;split <;> rfl
   ·rfl
   ·rfl
  ·split
   ·rw[cF];congr 1;funext l b π c;split
    ·rw[ar];rfl
    ·rfl
   ·rfl
  ·rfl
theorem oV(TT:Tab)(σ:St)(t:TypeId)(e:ag)(K:ag->Option R):(xQ TT σ t e K).bind G=xQ TT σ t e λe=>(K e).bind G:=by
 unfold xQ
 split
 ·rfl
 ·split
  ·split
   ·rw[cF];congr 1;funext l b π c;split
    ·rw[ar];rfl
    ·rfl
   ·rfl
  ·rfl
theorem oW(σ:St)(e:ag)(K:ag->Option R):(xR σ e K).bind G=xR σ e λe=>(K e).bind G:=by
 unfold xR
 simp only[ar,gG,ie]
theorem r7(op:UnOp)(e:ag)(K:ag->Option R):(xUn op e K).bind G=xUn op e λe=>(K e).bind G:=by
 unfold xUn;split <;> rfl
theorem oX(x y:ag)(K:ag->Option R):(x3 x y K).bind G=x3 x y λe=>(K e).bind G:=by
 unfold x3;split <;> first|rfl|exact aV G _ _ _
theorem oY(x y:ag)(K:ag->Option R):(x4 x y K).bind G=x4 x y λe=>(K e).bind G:=by
 unfold x4;split <;> first|rfl|exact aV G _ _ _
theorem uO(TT:Tab)(σ:St)(s t:TypeId)(e:ag)(K:ag->Option R):(oP TT σ s t e K).bind G=oP TT σ s t e λe=>(K e).bind G:=by
 unfold oP
 split
 ·rfl
 ·split
  ·rfl
  ·split
   ·split <;> rfl
   ·split
    ·split <;> rfl
    ·split
     ·rfl
     ·split
      ·split
       ·rfl
       ·rw[cF];congr 1;funext l b π c;split <;> rfl
       ·rfl
       ·rfl
      ·rfl
    ·rfl
   ·rfl
theorem r9(de:TD)(σ:St)(dst:Nat)(e:ag)(K:St->Option R):(hP de σ dst e K).bind G=hP de σ dst e λe=>(K e).bind G:=by
 unfold hP
 rw[ar]
 congr 1
 split
 ·split <;> rfl
 ·rfl
theorem oZ(TT:Tab)(EQ:TypeId->Bool)(σ:St)(t:TypeId)(op:BinOp)(x y:ag)(K:ag->Option R):(x7 TT EQ σ t op x y K).bind G=x7 TT EQ σ t op x y λe=>(K e).bind G:=by
 unfold x7
 split
 ·split
  ·rw[ar]
   congr 1
   unfold Dd
   split
   ·rw[aV];congr 1;funext a
    rw[aV];congr 1;funext b
    split
    ·split <;> rfl
    ·rfl
   ·rfl
  ·rw[ar]
   congr 1
   unfold De
   split
   ·rw[ar]
    congr 1
    rw[aV];congr 1;funext a
    rw[aV];congr 1;funext b
    split <;> rfl
   ·rfl
  ·unfold Df
   split
   ·simp only
    split
    ·split <;> rfl
    ·split <;> rfl
    ·rw[cF];congr 1;funext l b π c
     split
     ·split <;> rfl
     ·split <;> rfl
     ·rfl
    ·split <;> rfl
    ·rfl
   ·rfl
  ·exact oT G _ _ _ _ _
 ·exact oT G _ _ _ _ _
theorem sa(d:TD)(σ:St)(dst:Nat)(K:St->Option R):(g9 d σ dst K).bind G=g9 d σ dst λe=>(K e).bind G:=by
 unfold g9;simp only[ar,bC];congr 1;split <;> rfl
theorem yp(d:TD)(σ:St)(dst:Nat)(e:ag)(K:St->Option R):(pL d σ dst e K).bind G=pL d σ dst e λe=>(K e).bind G:=by
 unfold pL;simp only[ar,bC];congr 1;split
 ·split
  ·simp only[ar,bC]
  ·rfl
 ·exact aV G _ _ _
theorem uP(d:TD)(σ:St)(dst:Nat)(e1 e2:ag)(K:St->Option R):(kr d σ dst e1 e2 K).bind G=kr d σ dst e1 e2 λe=>(K e).bind G:=by
 unfold kr
 simp only[ar,bC,eG,ek]
 congr 1
 congr 1
 funext n
 congr 1
 funext c
 congr 1
 congr 1
 split <;> rfl
theorem sb(d:TD)(σ:St)(e1 e2:ag)(K:St->Option R):(g8 d σ e1 e2 K).bind G=g8 d σ e1 e2 λe=>(K e).bind G:=by
 unfold g8
 rw[gG]
 congr 1
 funext l b π c
 rw[ar]
 congr 1
 split
 ·rw[ar]
  congr 1
  split
  ·split
   ·rw[jC];congr 1;funext x;rw[ar];rfl
   ·rfl
  ·rfl
 ·rw[aV]
  congr 1
  funext y
  split
  ·rw[jC]
  ·rfl
theorem yq(d:TD)(σ:St)(e1 e2:ag)(K:St->Option R):(pG d σ e1 e2 K).bind G=pG d σ e1 e2 λe=>(K e).bind G:=by
 unfold pG
 rw[gG]
 congr 1
 funext l b π c
 rw[ar]
 congr 1
 split
 ·split
  ·rw[ar]
   congr 1
   split
   ·rw[ar];congr 1;split <;> rfl
   ·rfl
  ·rw[aV]
   congr 1
   funext y
   split <;> rfl
 ·rfl
theorem uQ(d:TD)(σ:St)(e1 e2:ag)(K:St->Option R):(nh d σ e1 e2 K).bind G=nh d σ e1 e2 λe=>(K e).bind G:=by
 unfold nh
 split
 ·split
  ·split
   ·split
    ·rw[ar];congr 1;split
     ·split <;> rfl
     ·rfl
    ·rfl
   ·rfl
  ·rfl
 ·rfl
theorem Aw(d:TD)(σ:St)(e1 e2:ag)(K:St->Option R):(xSt d σ e1 e2 K).bind G=xSt d σ e1 e2 λe=>(K e).bind G:=by
 unfold xSt
 rw[ar,uQ,sb]
theorem nI(TT:Tab)(σ:St)(t:TypeId)(ex ei:ag)(K:ag->Option R):(fD TT σ t ex ei K).bind G=fD TT σ t ex ei λe=>(K e).bind G:=by
 unfold fD
 split
 ·split
  ·unfold fm
   split
   ·split
    ·split
     ·split
      ·rw[ar];congr 1;split <;> rfl
      ·rfl
     ·rfl
    ·rfl
   ·rfl
  ·rfl
 ·rfl
theorem o0(TT:Tab)(σ:St)(t:TypeId)(ex ei:ag)(K:ag->Option R):(xL TT σ t ex ei K).bind G=xL TT σ t ex ei λe=>(K e).bind G:=by
 unfold xL
 rw[ar,nI,mn]
theorem lA(d:TD)(σ:St)(str:Bool)(lk dst:Nat)(e1 e2:ag)(K:St->Option R):(ni d σ str lk dst e1 e2 K).bind G=ni d σ str lk dst e1 e2 λe=>(K e).bind G:=by
 unfold ni
 rw[ar,ym]
 congr 1
 congr 1
 funext x2 m2 lo
 split
 ·split
  ·split
   ·simp only[ar,ek,bC]
   ·rfl
  ·rfl
 ·rw[aV];congr 1;funext x1;simp only[ek,bC]
 ·rfl
theorem qi(d:TD)(σ:St)(str:Bool)(dst:Nat)(e1 e2:ag)(K:St->Option R):(fu d σ str dst e1 e2 K).bind G=fu d σ str dst e1 e2 λe=>(K e).bind G:=by
 unfold fu
 split
 ·split
  ·rw[ar];congr 1;split
   ·exact lA G _ _ _ _ _ _ _ _
   ·rfl
  ·rfl
 ·split
  ·rw[ar];congr 1;split
   ·split
    ·exact lA G _ _ _ _ _ _ _ _
    ·rfl
   ·rfl
  ·rfl
 ·exact lA G _ _ _ _ _ _ _ _
theorem sd(TT:Tab)(σ:St)(t:TypeId)(dst:Nat)(own:Bool)(ps:List (Nat×Operand))(KV:ag->Option R)(K:St->Option R):(hH TT σ t dst own ps KV K).bind G=hH TT σ t dst own ps (λe=>(KV e).bind G) λe=>(K e).bind G:=by
 unfold hH
 split
 ·rfl
 ·rw[ar]
  congr 1
  split
  ·rfl
  ·split
   ·rfl
   ·rw[rZ];congr 1;funext x m L;simp only[ar,bC]
theorem yr(d:TD)(σ:St)(dst len:Nat)(ps:List (Nat×Operand))(K:St->Option R):(pQ d σ dst len ps K).bind G=pQ d σ dst len ps λe=>(K e).bind G:=by
 unfold pQ
 rw[ar]
 congr 1
 split
 ·rw[ar,yl];rfl
 ·rfl
theorem yu(TT:Tab)(σ:St)(t:TypeId)(dst:Nat)(ex:ag)(lo hi:Option ag)(KV:ag->Option R)(K:St->Option R):(pO TT σ t dst ex lo hi KV K).bind G=pO TT σ t dst ex lo hi (λe=>(KV e).bind G) λe=>(K e).bind G:=by
 unfold pO
 split
 ·rfl
 ·split
  ·split
   ·exact jD G _ _ _ _
   ·rfl
  ·split
   ·rfl
   ·split
    ·rw[ar,jD];rfl
    ·rw[ar]
     congr 1
     split
     ·rw[ar,jD];rfl
     ·rfl
    ·rw[ar]
     congr 1
     split
     ·rw[ar]
      congr 1
      split
      ·split
       ·rw[ar,jD];rfl
       ·rfl
      ·rfl
     ·rfl
    ·rfl
  ·rfl
theorem ka(σ:St)(dst:Option Nat)(c:Callee)(es:List ag)(K:St->Option R):(eX σ dst c es K).bind G=eX σ dst c es λe=>(K e).bind G:=by
 unfold eX
 rw[uM]
 congr 1
 funext x L bs
 rw[ar,uN]
 congr 1
 congr 1
 funext r
 split
 ·split
  ·rw[yo]
  ·rfl
 ·rfl
theorem ig(TT:Tab)(t:TypeId)(K:TD->Option R):(gE TT t K).bind G=gE TT t λd=>(K d).bind G:=by
 unfold gE;repeat' split
 all_goals rfl
theorem oD(V:Env)(σ:St)(b:Builtin)(ts:List TypeId)(xs:List Operand)(dst:Option Nat)(K:St->Option R):(dG V σ b ts xs dst K).bind G=dG V σ b ts xs dst λe=>(K e).bind G:=by
 unfold dG
 split
 ·split
  ·exact oU G _ _ _ _ _
  ·rfl
 ·split
  ·exact oV G _ _ _ _ _
  ·rfl
 ·split
  ·rw[ig]
   congr 1
   funext de
   split
   ·split
    ·split
     ·exact qi G _ _ _ _ _ _ _
     ·rfl
    ·rfl
   ·rfl
  ·rfl
 ·split
  ·split
   ·exact oX G _ _ _
   ·rfl
  ·rfl
 ·split
  ·split
   ·exact oY G _ _ _
   ·rfl
  ·rfl
 ·rfl
theorem Ax(V:Env)(σ:St)(o:Oper)(K:St->Option R):(opK V σ o K).bind G=opK V σ o λe=>(K e).bind G:=by
 unfold opK
 split
 ·split
  ·rfl
  ·split <;> rfl
 ·split
  ·rfl
  ·split <;> rfl
 ·split
  ·split
   ·split <;> rfl
   ·split <;> rfl
  ·rfl
 ·split
  ·split
   ·exact sa G _ _ _ _
   ·rfl
  ·rfl
 ·split
  ·split
   ·split
    ·exact yp G _ _ _ _ _
    ·rfl
   ·rfl
  ·rfl
 ·split
  ·exact sd G _ _ _ _ _ _ _ _
  ·rfl
 ·split
  ·rw[ig];congr 1;funext de;exact yr G _ _ _ _ _ _
  ·rfl
 ·split
  ·split
   ·exact nH G _ _ _ _
   ·rfl
  ·rfl
 ·split
  ·split
   ·split
    ·rw[ar,Aw,yq]
    ·rfl
   ·rfl
  ·rfl
 ·split
  ·exact oW G _ _ _
  ·rfl
 ·split
  ·split
   ·exact oZ G _ _ _ _ _ _ _ _
   ·rfl
  ·rfl
 ·split
  ·exact r7 G _ _ _
  ·rfl
 ·rw[ar]
  congr 1
  ·split
   ·rw[ig]
    congr 1
    funext de
    split
    ·exact r9 G _ _ _ _ _
    ·rfl
   ·rfl
  ·split
   ·exact uO G _ _ _ _ _ _
   ·rfl
 ·split
  ·rw[ig]
   congr 1
   funext de
   split
   ·split
    ·exact uP G _ _ _ _ _ _
    ·rfl
   ·rfl
  ·rfl
 ·split
  ·rfl
  ·split
   ·split
    ·split
     ·split
      ·exact yu G _ _ _ _ _ _ _ _ _
      ·rfl
     ·rfl
    ·rfl
   ·rfl
 ·split
  ·exact iB G _ _ _ _ _ _
  ·rfl
 ·split
  ·exact l7 G _ _ _ _ _ _
  ·rfl
 ·split
  ·split
   ·exact o0 G _ _ _ _ _ _
   ·rfl
  ·rfl
 ·split
  ·split
   ·exact l8 G _ _ _ _ _
   ·rfl
  ·rfl
 ·split
  ·split <;> rfl
  ·rfl
 ·split
  ·exact oD G _ _ _ _ _ _ _
  ·split
   ·split
    ·rw[ar]
     congr 1
     ·exact ka G _ _ _ _ _
     ·split
      ·exact ka G _ _ _ _ _
      ·rfl
    ·rfl
   ·rfl
  ·rfl
 ·rfl
end
def gH(c:Call):List Operand:=match c.callee with
 |.value (.tmp t)=>.tmp t::c.args.toList
 |_=>c.args.toList
def jZ:Op->List Operand
 |.move x|.assign x|.box _ x|.load _ x|.nilCheck x|.unOp _ _ x|.convert _ _ x|.fieldAddr _ x _|.field _ x _|.extract x _=>[x]
 |.pick c a b=>[c,a,b]
 |.build _ ps|.buildSlice _ _ ps=>ps.toList.map (·.2)
 |.store _ a v|.binOp _ _ a v _|.makeSlice _ a v|.indexAddr _ a v|.index _ a v=>[a,v]
 |.slice _ x l h _=>x::(l.toList++h.toList)
 |.call c=>gH c
 |_=>[]
def tmpsOf:List Operand->List Nat
 |[]=>[]
 |.tmp t::xs=>t::tmpsOf xs
 |_::xs=>tmpsOf xs
def looks(o:Oper):List Nat:=tmpsOf (jZ o.op)
def calm(V:Env)(o:Oper):Bool:=match o.op with
 |.call c=>(match c.callee with
  |.value (.func f)=>(match V.CT f with|some ce=>(ba ce.rs&&ba ce.ms)||V.nz o.dst|none=>true)
  |_=>true)
 |_=>true
def iU(E:Nat->Option Ent)(dst:Option Nat)(E1:Nat->Option Ent):Nat->Option Ent:=match dst with|some d=>upd E d (E1 d)|none=>E
def aT(E:Nat->Option Ent)(dst:Option Nat)(σ:St):St:=⟨iU E dst σ.E,σ.L,σ.U⟩
section
variable {R:Type} {E E':Nat->Option Ent} {L:Nat->Option Lab} {U:Nat->Bool}
theorem K8(f g:Nat->Option Ent)(d:Nat)(e:Option Ent):upd f d (upd g d e d)=upd f d e:=by rw[ap]
theorem aS(dst:Option Nat)(e:ag):aT E dst (St.aW ⟨E',L,U⟩ dst e)=St.aW ⟨E,L,U⟩ dst e:=by
 cases dst with
 |none=>rfl
 |some d=>simp only[aT,iU,St.aW,St.mR,ap]
theorem iV(dst:Option Nat)(L':Nat->Option Lab):aT E dst (St.fx (St.fo ⟨E',L,U⟩ L') dst)=St.fx (St.fo ⟨E,L,U⟩ L') dst:=by
 cases dst with
 |none=>rfl
 |some d=>simp only[aT,iU,St.fx,St.fo,ap]
theorem dS(L':Nat->Option Lab)(l d:Nat)(b:Lab):aT E (some d) (St.mk' ⟨E',L,U⟩ L' l d b)=St.mk' ⟨E,L,U⟩ L' l d b:=by
 simp only[aT,iU,St.mk',ap]
theorem GQ(L':Nat->Option Lab)(U':Nat->Bool)(L0:Nat->Option Lab)(l d:Nat)(b:Lab):aT E (some d) (St.mk' ⟨E',L0,U'⟩ L' l d b)=St.mk' ⟨E,L0,U'⟩ L' l d b:=by
 simp only[aT,iU,St.mk',ap]
theorem se(V:Env)(d:Nat)(σ':St):pW V d (aT E (some d) σ')=aT E (some d) (pW V d σ'):=by
 unfold pW
 cases V.own d
 ·rfl
 ·have hE:(aT E (some d) σ').E d=σ'.E d:=by simp only[aT,iU,ap]
  simp only[cond_true]
  unfold St.toVal
  rw[hE]
  split
  ·have hL:(aT E (some d) σ').L=σ'.L:=rfl
   rw[hL]
   split
   ·simp only[aT,iU,ap]
    congr 1
    funext j
    by_cases hj:j=d
    ·subst hj;rw[ap,ap]
    ·rw[au _ _ hj,au _ _ hj,au _ _ hj]
   ·rfl
  ·rfl
theorem l9(dst:Option Nat)(es:List ag):aT E dst (St.fP ⟨E',L,U⟩ dst es)=St.fP ⟨E,L,U⟩ dst es:=by
 cases dst with
 |none=>rfl
 |some d=>simp only[aT,iU,St.fP,ap]
theorem sf{x:Operand}(h:∀ t∈tmpsOf [x],E' t=E t):uC ⟨E,L,U⟩ x=uC ⟨E',L,U⟩ x:=by
 cases x with
 |tmp t=>simp only[uC];rw[h t (by simp[tmpsOf])]
 |const v=>rfl
 |global g=>rfl
 |func f=>rfl
theorem aU{x:Operand}(h:∀ t∈tmpsOf [x],E' t=E t):opd ⟨E,L,U⟩ x=opd ⟨E',L,U⟩ x:=by
 cases x with
 |tmp t=>simp only[opd];rw[h t (by simp[tmpsOf])]
 |const v=>rfl
 |global g=>rfl
 |func f=>rfl
theorem sg{x:Operand}{xs:List Operand}{t:Nat}(h:t∈tmpsOf (x::xs)):t∈tmpsOf [x]\/t∈tmpsOf xs:=by
 cases x <;> simp[tmpsOf]at h |- <;> exact h
theorem bM{x:Operand}{xs:List Operand}{t:Nat}(h:t∈tmpsOf [x]):t∈tmpsOf (x::xs):=by
 cases x <;> simp[tmpsOf]at h |-;exact .inl h
theorem bD{x:Operand}{xs:List Operand}{t:Nat}(h:t∈tmpsOf xs):t∈tmpsOf (x::xs):=by
 cases x <;> simp[tmpsOf,h]
theorem nJ{xs ys:List Operand}{t:Nat}(h:t∈tmpsOf xs\/t∈tmpsOf ys):t∈tmpsOf (xs++ys):=by
 induction xs with
 |nil=>rcases h with h|h;cases h;exact h
 |cons x xs ih=>
  rcases h with h|h
  ·rcases sg h with h|h
   ·exact bM h
   ·exact bD (ih (.inl h))
  ·exact bD (ih (.inr h))
theorem si{xs:List Operand}(h:∀ t∈tmpsOf xs,E' t=E t):fO ⟨E,L,U⟩ xs=fO ⟨E',L,U⟩ xs:=by
 induction xs with
 |nil=>rfl
 |cons x xs ih=>
  simp only[fO]
  rw[aU (x:=x) (λt ht=>h t (bM ht)),ih (λt ht=>h t (bD ht))]
theorem sj{ps:List (Nat×Operand)}(h:∀ t∈tmpsOf (ps.map (·.2)),E' t=E t):jR ⟨E,L,U⟩ ps=jR ⟨E',L,U⟩ ps:=by
 induction ps with
 |nil=>rfl
 |cons p ps ih=>
  simp only[jR]
  rw[aU (x:=p.2) (λt ht=>h t (bM ht)),ih (λt ht=>h t (bD ht))]
theorem sk{x:Option Operand}(h:∀ t∈tmpsOf x.toList,E' t=E t):kv ⟨E,L,U⟩ x=kv ⟨E',L,U⟩ x:=by
 cases x with
 |none=>rfl
 |some x=>simp only[kv];rw[aU (x:=x) h]
theorem uR(d:TD)(dst:Nat)(K:St->Option R):g9 d ⟨E,L,U⟩ dst K=g9 d ⟨E',L,U⟩ dst λσ'=>K (aT E (some dst) σ'):=by
 simp only[g9,dS]
theorem Ay(d:TD)(dst:Nat)(e:ag)(K:St->Option R):pL d ⟨E,L,U⟩ dst e K=pL d ⟨E',L,U⟩ dst e λσ'=>K (aT E (some dst) σ'):=by
 simp only[pL,dS]
theorem yv(d:TD)(dst:Nat)(e1 e2:ag)(K:St->Option R):kr d ⟨E,L,U⟩ dst e1 e2 K=kr d ⟨E',L,U⟩ dst e1 e2 λσ'=>K (aT E (some dst) σ'):=by
 simp only[kr,dS]
theorem uS(d:TD)(dst:Nat)(e:ag)(K:St->Option R):hP d ⟨E,L,U⟩ dst e K=hP d ⟨E',L,U⟩ dst e λσ'=>K (aT E (some dst) σ'):=by
 simp only[hP,dS]
theorem wF(e:ag)(K:Nat->Lab->List Stp->V->Option R):plc ⟨E,L,U⟩ e K=plc ⟨E',L,U⟩ e K:=rfl
theorem IS(e:ag)(K:Nat->Lab->List Stp->V->Option R):fM ⟨E,L,U⟩ e K=fM ⟨E',L,U⟩ e K:=rfl
theorem IT(str:Bool)(te:Ty)(e:ag)(K:List te.T->Md->Option Nat->Option R):ry ⟨E,L,U⟩ str te e K=ry ⟨E',L,U⟩ str te e K:=rfl
theorem uT(d:TD)(dst:Option Nat)(e1 e2:ag)(K:St->Option R):(g8 d ⟨E,L,U⟩ e1 e2 λσ'=>K (σ'.fx dst))=g8 d ⟨E',L,U⟩ e1 e2 λσ'=>K (aT E dst (σ'.fx dst)):=by
 simp only[g8,iV]
 exact wF _ _
theorem Az(d:TD)(dst:Option Nat)(e1 e2:ag)(K:St->Option R):(pG d ⟨E,L,U⟩ e1 e2 λσ'=>K (σ'.fx dst))=pG d ⟨E',L,U⟩ e1 e2 λσ'=>K (aT E dst (σ'.fx dst)):=by
 simp only[pG,iV]
 exact wF _ _
theorem Dv(d:TD)(dst:Option Nat)(e1 e2:ag)(K:St->Option R):(xSt d ⟨E,L,U⟩ e1 e2 λσ'=>K (σ'.fx dst))=xSt d ⟨E',L,U⟩ e1 e2 λσ'=>K (aT E dst (σ'.fx dst)):=by
 have h1:pI ⟨E,L,U⟩ e1=pI ⟨E',L,U⟩ e1:=rfl
 unfold xSt
 rw[h1,uT]
 congr 1
 simp only[nh,iV]
theorem nK(d:TD)(str:Bool)(lk dst:Nat)(e1 e2:ag)(K:St->Option R):ni d ⟨E,L,U⟩ str lk dst e1 e2 K=ni d ⟨E',L,U⟩ str lk dst e1 e2 λσ'=>K (aT E (some dst) σ'):=by
 simp only[ni,dS]
 rfl
theorem sq(d:TD)(str:Bool)(dst:Nat)(e1 e2:ag)(K:St->Option R):fu d ⟨E,L,U⟩ str dst e1 e2 K=fu d ⟨E',L,U⟩ str dst e1 e2 λσ'=>K (aT E (some dst) σ'):=by
 unfold fu
 split
 ·simp only[St.oz]
  split
  ·split
   ·congr 1
    exact nK _ _ _ _ _ _ _
   ·rfl
  ·rfl
 ·simp only[St.oz]
  split
  ·congr 1
   split
   ·split
    ·exact nK _ _ _ _ _ _ _
    ·rfl
   ·rfl
  ·rfl
 ·exact nK _ _ _ _ _ _ _
theorem uU(TT:Tab)(t:TypeId)(dst:Nat)(own:Bool){ps:List (Nat×Operand)}(h:∀ t∈tmpsOf (ps.map (·.2)),E' t=E t)(K:St->Option R):(hH TT ⟨E,L,U⟩ t dst own ps (λe=>K (St.aW ⟨E,L,U⟩ (some dst) e)) K)=hH TT ⟨E',L,U⟩ t dst own ps (λe=>K (aT E (some dst) (St.aW ⟨E',L,U⟩ (some dst) e))) λσ'=>K (aT E (some dst) σ'):=by
 simp only[hH,dS,aS]
 rw[sj h]
theorem AA(d:TD)(dst len:Nat){ps:List (Nat×Operand)}(h:∀ t∈tmpsOf (ps.map (·.2)),E' t=E t)(K:St->Option R):pQ d ⟨E,L,U⟩ dst len ps K=pQ d ⟨E',L,U⟩ dst len ps λσ'=>K (aT E (some dst) σ'):=by
 simp only[pQ,dS]
 rw[sj h]
theorem AB(TT:Tab)(t:TypeId)(dst:Nat)(ex:ag)(lo hi:Option ag)(K:St->Option R):(pO TT ⟨E,L,U⟩ t dst ex lo hi (λe=>K (St.aW ⟨E,L,U⟩ (some dst) e)) K)=pO TT ⟨E',L,U⟩ t dst ex lo hi (λe=>K (aT E (some dst) (St.aW ⟨E',L,U⟩ (some dst) e))) λσ'=>K (aT E (some dst) σ'):=by
 simp only[pO,dS,aS,St.oz]
theorem AD:∀ (rs:List (Ty×Md)) (x:(bX rs).T) (key:Nat) (L:Nat->Option Lab) (U:Nat->Bool) (K:St->List ag->Option R),ll rs x key ⟨E,L,U⟩ K=ll rs x key ⟨E',L,U⟩ λσ' es=>K ⟨E,σ'.L,σ'.U⟩ es:=by
 intro rs
 induction rs with
 |nil=>intro x key L U K;rfl
 |cons p rs ih=>
  intro x key L U K
  simp only[ll,St.Iw]
  rw[ih,ih]
theorem AE(L0:Nat->Option Lab)(t:Ty)(m:Md)(e:ag)(K:t.T->(Nat->Option Lab)->List Nat->Option R):pS ⟨E,L,U⟩ L0 t m e K=pS ⟨E',L,U⟩ L0 t m e K:=rfl
theorem yw:∀ (ps:List (Ty×Md)) (es:List ag) (L0:Nat->Option Lab) (K:(bX ps).T->(Nat->Option Lab)->List Nat->Option R),gC ⟨E,L,U⟩ ps es L0 K=gC ⟨E',L,U⟩ ps es L0 K:=by
 intro ps
 induction ps with
 |nil=>intro es L0 K;cases es <;> rfl
 |cons p ps ih=>
  intro es L0 K
  cases es with
  |nil=>rfl
  |cons e es=>
   simp only[gC]
   rw[AE (E':=E')]
   congr 1
   funext x L1 b1
   exact ih _ _ _
theorem yx(es:List ag):∀ (mi:List Nat) (ms:List (Ty×Md)) (y:(bX ms).T) (L0:Nat->Option Lab),jX ⟨E,L,U⟩ es mi ms y L0=jX ⟨E',L,U⟩ es mi ms y L0:=by
 intro mi
 induction mi with
 |nil=>intro ms y L0;cases ms <;> rfl
 |cons i mi ih=>
  intro ms y L0
  cases ms with
  |nil=>rfl
  |cons p ms=>
   simp only[jX]
   split
   ·split
    ·congr 1
     split
     ·rw[ih]
     ·rfl
    ·rfl
   ·rfl
theorem o3(dst:Option Nat)(c:Callee)(es:List ag)(K:St->Option R):eX ⟨E,L,U⟩ dst c es K=eX ⟨E',L,U⟩ dst c es λσ'=>K (aT E dst σ'):=by
 unfold eX
 rw[yw (E':=E')]
 congr 1
 funext x L0 bs
 congr 1
 congr 1
 funext r
 rw[yx (E':=E')]
 split
 ·cases dst with
  |none=>rfl
  |some d=>
   simp only
   rw[AD (E':=E')]
   congr 1
   funext σ' es'
   simp only[aT,iU,ap]
 ·rfl
theorem qj(V:Env)(b:Builtin)(ts:List TypeId){xs:List Operand}(h:∀ t∈tmpsOf xs,E' t=E t)(dst:Option Nat)(K:St->Option R):dG V ⟨E,L,U⟩ b ts xs dst K=dG V ⟨E',L,U⟩ b ts xs dst λσ'=>K (aT E dst σ'):=by
 unfold dG
 split
 ·rw[aU h]
  simp only[aS]
  rfl
 ·rw[aU h]
  simp only[aS]
  rfl
 ·rename_i t tx x y
  rw[aU (x:=x) (λt ht=>h t (bM ht)),aU (x:=y) (λt ht=>h t (bD ht))]
  cases dst with
  |none=>rfl
  |some d=>simp only[sq (E:=E) (E':=E')]
 ·rename_i t tx x y
  rw[aU (x:=x) (λt ht=>h t (bM ht)),aU (x:=y) (λt ht=>h t (bD ht))]
  simp only[aS]
 ·rename_i t tx x y
  rw[aU (x:=x) (λt ht=>h t (bM ht)),aU (x:=y) (λt ht=>h t (bD ht))]
  simp only[aS]
 ·rfl
theorem uV(e:ag):gj ⟨E,L,U⟩ e=gj ⟨E',L,U⟩ e:=rfl
theorem Dw(V:Env){o:Oper}(hc:calm V o=true)(h:∀ t∈looks o,E' t=E t)(K:St->Option R):opK V ⟨E,L,U⟩ o K=opK V ⟨E',L,U⟩ o λσ'=>K (aT E o.dst σ'):=by
 unfold looks at h
 unfold calm at hc
 unfold opK
 split
 ·rename_i x ho;rw[ho]at h;rw[sf (x:=x) h,aU (x:=x) h];simp only[aS,l9]
 ·rename_i x ho;rw[ho]at h;rw[sf (x:=x) h,aU (x:=x) h];simp only[aS,l9]
 ·rename_i c x y ho
  rw[ho]at h
  rw[aU (x:=c) (λt ht=>h t (bM ht)),aU (x:=x) (λt ht=>h t (bD (bM ht))),aU (x:=y) (λt ht=>h t (bD (bD ht)))]
  simp only[aS]
 ·cases o.dst with
  |none=>rfl
  |some d=>simp only[uR (E:=E) (E':=E')]
 ·rename_i t x ho
  rw[ho]at h
  rw[aU (x:=x) h]
  cases o.dst with
  |none=>rfl
  |some d=>simp only[Ay (E:=E) (E':=E')]
 ·rename_i t ps ho
  rw[ho]at h
  cases o.dst with
  |none=>rfl
  |some d=>exact uU _ _ _ _ h K
 ·rename_i t len ps ho
  rw[ho]at h
  cases o.dst with
  |none=>rfl
  |some d=>simp only[AA (E:=E) (E':=E') _ _ _ h,se]
 ·rename_i t x ho
  rw[ho]at h
  rw[aU (x:=x) h]
  simp only[aS]
  rfl
 ·rename_i t p x ho
  rw[ho]at h
  rw[aU (x:=p) (λt ht=>h t (bM ht)),aU (x:=x) (λt ht=>h t (bD ht))]
  simp only[Dv (E:=E) (E':=E'),Az (E:=E) (E':=E'),uV (E:=E) (E':=E')]
 ·rename_i x ho
  rw[ho]at h
  rw[aU (x:=x) h]
  simp only[aS]
  rfl
 ·rename_i op t x y yt ho
  rw[ho]at h
  rw[aU (x:=x) (λt ht=>h t (bM ht)),aU (x:=y) (λt ht=>h t (bD ht))]
  simp only[aS]
  rfl
 ·rename_i op t x ho
  rw[ho]at h
  rw[aU (x:=x) h]
  simp only[aS]
 ·rename_i s t x ho
  rw[ho]at h
  rw[aU (x:=x) h]
  congr 1
  ·cases o.dst with
   |none=>rfl
   |some d=>simp only[uS (E:=E) (E':=E')]
  ·simp only[aS]
   rfl
 ·rename_i t l c ho
  rw[ho]at h
  rw[aU (x:=l) (λt ht=>h t (bM ht)),aU (x:=c) (λt ht=>h t (bD ht))]
  cases o.dst with
  |none=>rfl
  |some d=>simp only[yv (E:=E) (E':=E')]
 ·rename_i t x lo hi mx ho
  rw[ho]at h
  split
  ·rfl
  ·rw[aU (x:=x) (λt ht=>h t (bM ht)),sk (x:=lo) (λt ht=>h t (bD (nJ (.inl ht)))),sk (x:=hi) (λt ht=>h t (bD (nJ (.inr ht))))]
   cases o.dst with
   |none=>rfl
   |some d=>simp only[AB (E:=E) (E':=E')]
 ·rename_i s x f ho
  rw[ho]at h
  rw[aU (x:=x) h]
  simp only[aS]
  rfl
 ·rename_i s x f ho
  rw[ho]at h
  rw[aU (x:=x) h]
  simp only[aS]
  rfl
 ·rename_i t x i ho
  rw[ho]at h
  rw[aU (x:=x) (λt ht=>h t (bM ht)),aU (x:=i) (λt ht=>h t (bD ht))]
  simp only[aS]
  rfl
 ·rename_i t x i ho
  rw[ho]at h
  rw[aU (x:=x) (λt ht=>h t (bM ht)),aU (x:=i) (λt ht=>h t (bD ht))]
  simp only[aS]
 ·rename_i t i ho
  rw[ho]at h
  have:=h t (by simp[jZ,tmpsOf])
  simp only[this,aS]
 ·rename_i c ho
  rw[ho]at h hc
  simp only at hc
  split
  ·rename_i b sr
   simp only[jZ,gH,sr]at h
   exact qj V _ _ h _ K
  ·rename_i f sr
   simp only[jZ,gH,sr]at h
   rw[sr]at hc
   simp only at hc
   cases hf:V.CT f with
   |none=>rfl
   |some ce=>
    rw[hf]at hc
    simp only at hc |-
    rw[si (xs:=c.args.toList) h]
    split
    ·simp only[hc,cond_true]
     exact o3 _ _ _ K
    ·rfl
  ·rfl
 ·rfl
end
def cvQ(σ:St)(o:Oper):Bool:=match o.op with
 |.move (.tmp t)=>jY (σ.E t)
 |.assign (.tmp t)=>jY (σ.E t)
 |.call c=>(match c.callee with
  |.value (.tmp t)=>(match σ.E t with
   |some (.one (.val (.fn _) _))=>true
   |e=>jY e)
  |_=>false)
 |_=>false
def cvC{R:Type}(V:Env)(σ:St)(dst:Option Nat)(f:FuncId)(es:List ag)(xs:List Operand)(K:St->Option R):Option R:=
 match V.CT f with
 |some ce=>(match fO σ xs with
  |some xs1=>bif(ba ce.rs&&ba ce.ms)||V.nz dst then eX σ dst ce (xs1++es) K else none
  |none=>none)
 |none=>none
def cvM{R:Type}(σ:St)(dst:Option Nat)(t:Nat)(K:St->Option R):Option R:=match σ.E t with
 |some (.clo f es)=>K (σ.lx dst f es)
 |_=>none
def cvK{R:Type}(V:Env)(σ:St)(o:Oper)(K:St->Option R):Option R:=match o.op with
 |.move (.tmp t)=>cvM σ o.dst t K
 |.assign (.tmp t)=>cvM σ o.dst t K
 |.call c=>(match c.callee with
  |.value (.tmp t)=>(match σ.E t with
   |some (.one (.val (.fn f) _))=>cvC V σ o.dst f [] c.args.toList K
   |some (.clo f es)=>cvC V σ o.dst f es c.args.toList K
   |_=>none)
  |_=>none)
 |_=>none
def opD{R:Type}(V:Env)(σ:St)(o:Oper)(K:St->Option R):Option R:=bif cvQ σ o then cvK V σ o K else opK V σ o K
section
variable {P:Program} {B:bO} {F:ae} {Sg:Nat->ae} {cg:Nat->List Value} {σ:St} {a:Act} {w:World}
theorem AF{R:Type}{V:Env}{dst:Option Nat}{f:FuncId}{es:List ag}{xs:List Operand}{K:St->Option R}{r:R}(h:cvC V σ dst f es xs K=some r):
 ∃ ce xs1,V.CT f=some ce/\fO σ xs=some xs1/\((ba ce.rs&&ba ce.ms)||V.nz dst)=true/\eX σ dst ce (xs1++es) K=some r:=by
 unfold cvC at h
 split at h
 ·rename_i ce hc
  split at h
  ·rename_i xs1 hx
   cases hb:(ba ce.rs&&ba ce.ms)||V.nz dst
   ·rw[hb]at h;cases h
   ·rw[hb]at h;exact⟨ce,xs1,hc,hx,hb,h⟩
  ·cases h
 ·cases h
theorem yy{R:Type}{V:Env}{o:Oper}{K:St->Option R}{r:R}(hq:cvQ σ o=true)(hk:cvK V σ o K=some r):opN V σ o K=some r:=by
 have mv:∀ t,(o.op=.move (.tmp t)\/o.op=.assign (.tmp t))->jY (σ.E t)=true->cvM σ o.dst t K=some r->opN V σ o K=some r:=by
  intro t ho hc hk
  unfold cvM at hk
  cases hE:σ.E t with
  |none=>rw[hE]at hk;cases hk
  |some e=>
   cases e with
   |one _=>rw[hE]at hk;cases hk
   |tup _=>rw[hE]at hk;cases hk
   |clo f es=>
    rw[hE]at hk
    simp only at hk
    rcases ho with ho|ho
    ·have h1:nlQ σ o=false:=by simp[nlQ,ho,hE,An]
     have h2:qf V σ o=none:=by simp[qf,ho]
     have h3:fnQ σ o=none:=by simp[fnQ,ho]
     have h4:dZ V.TT o.op=false:=by rw[ho];rfl
     have h5:rQ σ o=true:=by simp[rQ,ho,hE,jY]
     unfold opN
     rw[h1,h2,h3,h4,h5]
     simp only[cond_false,cond_true]
     unfold yg
     rw[ho]
     simp only[hE]
     exact hk
    ·have h1:nlQ σ o=false:=by simp[nlQ,ho,hE,An]
     have h2:qf V σ o=none:=by simp[qf,ho]
     have h3:fnQ σ o=none:=by simp[fnQ,ho]
     have h4:dZ V.TT o.op=false:=by rw[ho];rfl
     have h5:rQ σ o=true:=by simp[rQ,ho,hE,jY]
     unfold opN
     rw[h1,h2,h3,h4,h5]
     simp only[cond_false,cond_true]
     unfold yg
     rw[ho]
     simp only[hE]
     exact hk
 unfold cvQ at hq
 unfold cvK at hk
 split at hq
 ·rename_i t ho
  rw[ho]at hk
  exact mv t (.inl ho) hq hk
 ·rename_i t ho
  rw[ho]at hk
  exact mv t (.inr ho) hq hk
 ·rename_i c ho
  rw[ho]at hk
  simp only at hk
  split at hq
  ·rename_i t hc
   rw[hc]at hk
   simp only at hk
   have h1:nlQ σ o=false:=by simp[nlQ,ho]
   have h2:qf V σ o=none:=by simp[qf,ho]
   have h4:dZ V.TT o.op=false:=by rw[ho];simp[dZ,Ad,hc]
   split at hk
   ·rename_i f x hE
    obtain⟨ce,xs1,e1,e2,e3,e4⟩:=AF hk
    have h3:fnQ σ o=some (f,c.args.toList):=by simp[fnQ,ho,hc,hE]
    unfold opN
    rw[h1,h2,h3]
    simp only[cond_false]
    unfold Ao
    rw[e1]
    simp only
    rw[e2]
    simp only
    rw[e3]
    simp only[cond_true]
    rw[List.append_nil]at e4
    exact e4
   ·rename_i f es hE
    have h3:fnQ σ o=none:=by simp[fnQ,ho,hc,hE]
    have h5:rQ σ o=true:=by simp[rQ,ho,hc,hE,jY]
    obtain⟨ce,xs1,e1,e2,e3,e4⟩:=AF hk
    unfold opN
    rw[h1,h2,h3,h4,h5]
    simp only[cond_false,cond_true]
    unfold yg
    rw[ho]
    simp only
    rw[hc]
    simp only[hE]
    rw[e1]
    simp only
    rw[e2]
    simp only
    rw[e3]
    exact e4
   ·cases hk
  ·cases hq
 ·cases hq
theorem GR{R:Type}{V:Env}(hV:cE P V)(h:aw B F Sg cg σ a w){o:Oper}{K:St->Option R}{r:R}(hN:∀ d,o.dst=some d->d<B.N)(hk:opD V σ o K=some r){Q:Exit->Act->World->Prop}:
 o.wp P a w (Nx B σ o.dst K r) Q:=by
 unfold opD at hk
 cases hq:cvQ σ o
 ·rw[hq]at hk;exact pZ hV h hN hk
 ·rw[hq]at hk;exact Aq hV h hN (yy hq hk)
end
section
variable {R R':Type} (G:R->Option R')
theorem sw(V:Env)(σ:St)(dst:Option Nat)(f:FuncId)(es:List ag)(xs:List Operand)(K:St->Option R):(cvC V σ dst f es xs K).bind G=cvC V σ dst f es xs λe=>(K e).bind G:=by
 unfold cvC
 split
 ·split
  ·rw[ar]
   congr 1
   exact ka G _ _ _ _ _
  ·rfl
 ·rfl
theorem sx(σ:St)(dst:Option Nat)(t:Nat)(K:St->Option R):(cvM σ dst t K).bind G=cvM σ dst t λe=>(K e).bind G:=by
 unfold cvM
 split <;> rfl
theorem sy(V:Env)(σ:St)(o:Oper)(K:St->Option R):(opD V σ o K).bind G=opD V σ o λe=>(K e).bind G:=by
 unfold opD
 rw[ar,Ax]
 congr 1
 unfold cvK
 split
 ·exact sx G _ _ _ _
 ·exact sx G _ _ _ _
 ·split
  ·split
   ·exact sw G _ _ _ _ _ _ _
   ·exact sw G _ _ _ _ _ _ _
   ·rfl
  ·rfl
 ·rfl
end
section
variable {R:Type} {E E':Nat->Option Ent} {L:Nat->Option Lab} {U:Nat->Bool}
theorem sA(dst:Option Nat)(f:FuncId)(es:List ag):aT E dst (St.lx ⟨E',L,U⟩ dst f es)=St.lx ⟨E,L,U⟩ dst f es:=by
 cases dst with
 |none=>rfl
 |some d=>simp only[aT,iU,St.lx,ap]
theorem wG{dst:Option Nat}{t:Nat}(h:E' t=E t)(K:St->Option R):cvM ⟨E,L,U⟩ dst t K=cvM ⟨E',L,U⟩ dst t λσ'=>K (aT E dst σ'):=by
 unfold cvM
 simp only[h,sA]
theorem wH(V:Env){dst:Option Nat}{f:FuncId}{es:List ag}{xs:List Operand}(h:∀ t∈tmpsOf xs,E' t=E t)(K:St->Option R):cvC V ⟨E,L,U⟩ dst f es xs K=cvC V ⟨E',L,U⟩ dst f es xs λσ'=>K (aT E dst σ'):=by
 unfold cvC
 rw[si (E:=E) (E':=E') h]
 split
 ·split
  ·congr 1
   exact o3 _ _ _ K
  ·rfl
 ·rfl
theorem Dx(V:Env){o:Oper}(hc:calm V o=true)(h:∀ t∈looks o,E' t=E t)(K:St->Option R):opD V ⟨E,L,U⟩ o K=opD V ⟨E',L,U⟩ o λσ'=>K (aT E o.dst σ'):=by
 have hq:cvQ ⟨E,L,U⟩ o=cvQ ⟨E',L,U⟩ o:=by
  unfold looks at h
  unfold cvQ
  split
  ·rename_i t ho
   rw[ho]at h
   simp only[h t (by simp[jZ,tmpsOf])]
  ·rename_i t ho
   rw[ho]at h
   simp only[h t (by simp[jZ,tmpsOf])]
  ·rename_i c ho
   rw[ho]at h
   split
   ·rename_i t sr
    simp only[jZ,gH,sr]at h
    simp only[h t (by simp[tmpsOf])]
   ·rfl
  ·rfl
 unfold opD
 rw[hq,Dw V hc h K]
 congr 1
 unfold looks at h
 unfold cvK
 split
 ·rename_i t ho
  rw[ho]at h
  exact wG (h t (by simp[jZ,tmpsOf])) K
 ·rename_i t ho
  rw[ho]at h
  exact wG (h t (by simp[jZ,tmpsOf])) K
 ·rename_i c ho
  rw[ho]at h
  split
  ·rename_i t sr
   simp only[jZ,gH,sr]at h
   have ht:=h t (by simp[tmpsOf])
   have hx:∀ x∈tmpsOf c.args.toList,E' x=E x:=λx hx=>h x (by simp only[tmpsOf];exact List.mem_cons_of_mem _ hx)
   simp only[ht]
   split
   ·exact wH V hx K
   ·exact wH V hx K
   ·rfl
  ·rfl
 ·rfl
end
def bV:ag->List Nat
 |.hdr l ..=>[l]
 |.adr l ..=>[l]
 |.view l ..=>[l]
 |_=>[]
def gI:List ag->List Nat
 |[]=>[]
 |e::es=>bV e++gI es
def FM:Option Ent->List Nat
 |some (.one e)=>bV e
 |some (.tup es)=>gI es
 |some (.clo _ es)=>gI es
 |none=>[]
def fR(σ:St):List Nat->List Nat
 |[]=>[]
 |t::ts=>FM (σ.E t)++fR σ ts
def oE(ks:List Nat)(dst:Option Nat)(l:Nat):Bool:=dn l ks||(match dst with|some d=>Nat.beq (l / 8) d|none=>false)
def cX(σ:St)(o:Oper):Nat->Bool:=oE (fR σ (looks o)) o.dst
def fj(L:Nat->Option Lab)(T:Nat->Bool):Nat->Option Lab:=λl=>bif T l then L l else none
def fk(U:Nat->Bool)(T:Nat->Bool):Nat->Bool:=λl=>bif T l then U l else true
def gJ(T:Nat->Bool)(L' L:Nat->Option Lab):Nat->Option Lab:=λl=>bif T l then L' l else L l
def fY(T:Nat->Bool)(U' U:Nat->Bool):Nat->Bool:=λl=>bif T l then U' l else U l
def wI(T:Nat->Bool):List Nat->Bool
 |[]=>true
 |l::ls=>T l&&wI T ls
def ij(T:Nat->Bool)(dst:Option Nat)(σ':St):Bool:=match dst with|some d=>wI T (FM (σ'.E d))|none=>true
def iW(σ:St)(o:Oper):St:=⟨λt=>bif dn t (looks o)then σ.E t else none,fj σ.L (cX σ o),fk σ.U (cX σ o)⟩
def kC(T:Nat->Bool)(dst:Option Nat)(σ σ':St):St:=⟨iU σ.E dst σ'.E,gJ T σ'.L σ.L,fY T σ'.U σ.U⟩
section
variable {P:Program} {B:bO} {F:ae} {Sg:Nat->ae} {cg:Nat->List Value} {σ:St} {a:Act} {w:World}
theorem aw.gh(h:aw B F Sg cg σ a w):Gh F w:=B.gh.step h.f0 (λp hp=>h.fr.block p (B.ghl p hp) (B.ghs p hp))
def sB(h:aw B F Sg cg σ a w)(T:Nat->Bool):bO:=
 {w0:=w,S0:=λk=>∃ l b,T l=true/\σ.L l=some b/\Sg l k,F0:=F,N:=B.N,fix:=B.fix,gh:=h.gh,ghs:=λp hp ⟨l,b,_,h1,h2⟩=>h.bY l b h1 p h2 (h.gh p hp).1,ghl:=λp hp=>h.fl p (h.gh p hp).1}
theorem bG{L:Nat->Option Lab}{T:Nat->Bool}{l:Nat}{b:Lab}(h:fj L T l=some b):T l=true/\L l=some b:=by
 unfold fj at h
 cases hT:T l
 ·rw[hT]at h;cases h
 ·rw[hT]at h;exact⟨rfl,h⟩
theorem gK{U T:Nat->Bool}{l:Nat}(h:U l=true):fk U T l=true:=by
 unfold fk;cases T l
 ·rfl
 ·exact h
theorem al.iW{T:Nat->Bool}{e:ag}{v:Value}(h:al F w σ.L σ.U cg e v):al F w (fj σ.L T) (fk σ.U T) cg e v:=by
 cases e with
 |val t x=>exact h
 |cst u=>exact h
 |gA t x=>exact h
 |hdr l n π c=>exact⟨gK h.1,λb hb=>h.2 b (bG hb).2⟩
 |adr l n π c=>exact⟨gK h.1,λb hb=>h.2 b (bG hb).2⟩
 |view l te lo hi=>exact⟨gK h.1,λb hb=>h.2 b (bG hb).2⟩
theorem aw.restrict(h:aw B F Sg cg σ a w)(T:Nat->Bool):aw (sB h T) F Sg cg ⟨σ.E,fj σ.L T,fk σ.U T⟩ a w:=
 {fr:=⟨rfl,rfl,rfl,Nat.le_refl _,λ_ _ _=>rfl⟩
  size:=h.size
  defers:=h.defers
  f0:=Sub.refl _
  fl:=h.fl
  fs:=λk hk _ _=>hk
  lab:=λl b hb=>h.lab l b (bG hb).2
  dis:=λl l' b b' hne hb hb'=>h.dis l l' b b' hne (bG hb).2 (bG hb').2
  bY:=λl b hb=>h.bY l b (bG hb).2
  lt:=λl b hb=>h.lt l b (bG hb).2
  may:=λl b hb k hk _=>⟨l,b,(bG hb).1,(bG hb).2,hk⟩
  used:=λl b hb=>gK (h.used l b (bG hb).2)
  fix:=λl cs hf=>⟨⟨gK (h.fix l cs hf).1.1,(h.fix l cs hf).1.2⟩,λb hb=>(h.fix l cs hf).2 b (bG hb).2⟩
  ent:=λt e he=>(h.ent t e he).imp λe v hv=>hv.iW}
theorem al.sC{T:Nat->Bool}{σ':St}{F':ae}{w':World}{cg':Nat->List Value}{e:ag}{v:Value}(h:al F' w' σ'.L σ'.U cg' e v)(hk:∀ l∈bV e,T l=true):
 al F' w' (gJ T σ'.L σ.L) (fY T σ'.U σ.U) (λl=>if T l=true then cg' l else cg l) e v:=by
 cases e with
 |val t x=>exact h
 |cst u=>exact h
 |gA t x=>exact h
 |hdr l n π c=>
  have hT:=hk l (by simp[bV])
  refine⟨by simp only[fY,hT,cond_true];exact h.1,λb hb=>?_⟩
  simp only[gJ,hT,cond_true]at hb
  simp only[hT,if_true]
  exact h.2 b hb
 |adr l n π c=>
  have hT:=hk l (by simp[bV])
  refine⟨by simp only[fY,hT,cond_true];exact h.1,λb hb=>?_⟩
  simp only[gJ,hT,cond_true]at hb
  simp only[hT,if_true]
  exact h.2 b hb
 |view l te lo hi=>
  have hT:=hk l (by simp[bV])
  refine⟨by simp only[fY,hT,cond_true];exact h.1,λb hb=>?_⟩
  simp only[gJ,hT,cond_true]at hb
  simp only[hT,if_true]
  exact h.2 b hb
theorem al.GS{T:Nat->Bool}{σ':St}{F':ae}{w':World}{cg':Nat->List Value}{e:ag}{v:Value}(h:al F' w' σ.L σ.U cg e v)(hk:∀ l∈bV e,T l=false):
 al F' w' (gJ T σ'.L σ.L) (fY T σ'.U σ.U) (λl=>if T l=true then cg' l else cg l) e v:=by
 cases e with
 |val t x=>exact h
 |cst u=>exact h
 |gA t x=>exact h
 |hdr l n π c=>
  have hT:=hk l (by simp[bV])
  refine⟨by simp only[fY,hT,cond_false];exact h.1,λb hb=>?_⟩
  simp only[gJ,hT,cond_false]at hb
  simp only[hT,Bool.false_eq_true,if_false]
  exact h.2 b hb
 |adr l n π c=>
  have hT:=hk l (by simp[bV])
  refine⟨by simp only[fY,hT,cond_false];exact h.1,λb hb=>?_⟩
  simp only[gJ,hT,cond_false]at hb
  simp only[hT,Bool.false_eq_true,if_false]
  exact h.2 b hb
 |view l te lo hi=>
  have hT:=hk l (by simp[bV])
  refine⟨by simp only[fY,hT,cond_false];exact h.1,λb hb=>?_⟩
  simp only[gJ,hT,cond_false]at hb
  simp only[hT,Bool.false_eq_true,if_false]
  exact h.2 b hb
theorem IU(e:ag):bV e=[]\/∃ l,bV e=[l]:=by cases e <;> simp[bV]
theorem al.GU{T:Nat->Bool}{F':ae}{w':World}{e:ag}{v:Value}(h:al F w σ.L σ.U cg e v)(hF:Sub F F')(hFw:∀ k,F k->w'.heap[k]?=w.heap[k]?)(ld:∀ l b,σ.L l=some b->Rep F w b.t b.m b.x (cg l) (Sg l))(hw:∀ l b,T l=false->σ.L l=some b->∀ k,Sg l k->w'.heap[k]?=w.heap[k]?)(hk:∀ l∈bV e,T l=false):al F' w' σ.L σ.U cg e v:=by
 cases e with
 |val t x=>
  obtain⟨cs,h1,h2⟩:=h
  exact⟨cs,aA hF hFw t .ro x cs _ _ h1 (Sub.refl _) (λ_ h=>h.elim),h2⟩
 |cst u=>exact h
 |view l te lo hi=>exact h
 |gA t x=>
  obtain⟨a,ds,h1,h2,h3,h4⟩:=h
  exact⟨a,ds,h1,hF _ h2,h3.congr (hFw _ h2),aA hF hFw t .ro x ds _ _ h4 (Sub.refl _) (λ_ h=>h.elim)⟩
 |hdr l n π c=>
  have hT:=hk l (by simp[bV])
  refine⟨h.1,λb hb=>?_⟩
  obtain⟨h0,h1,h2⟩:=h.2 b hb
  refine⟨h0,h1,λhn=>?_⟩
  obtain⟨h3,h4,h5⟩:=h2 hn
  refine⟨h3,h4,?_⟩
  rw[resolve_congr π b.t b.m b.x (cg l) (Sg l) none (ld l b hb) h3 (by rw[h4];rfl) (hw l b hT hb)]
  exact h5
 |adr l n π c=>
  have hT:=hk l (by simp[bV])
  refine⟨h.1,λb hb=>?_⟩
  obtain⟨h0,h1,h2⟩:=h.2 b hb
  refine⟨h0,h1,λhn=>?_⟩
  obtain⟨h3,h4,h5⟩:=h2 hn
  refine⟨h3,h4,?_⟩
  rw[resolve_congr π b.t b.m b.x (cg l) (Sg l) none (ld l b hb) h3 (by rw[h4];rfl) (hw l b hT hb)]
  exact h5
theorem yz{T:Nat->Bool}{ls:List Nat}(h:wI T ls=true):∀ l∈ls,T l=true:=by
 induction ls with
 |nil=>intro l hl;simp at hl
 |cons x xs ih=>
  simp only[wI,Bool.and_eq_true]at h
  intro l hl
  rcases List.mem_cons.1 hl with rfl|hl
  ·exact h.1
  ·exact ih h.2 l hl
theorem bm.IV{F F':ae}{w w':World}{L L' L'':Nat->Option Lab}{U U' U'':Nat->Bool}{cg cg' IW:Nat->List Value}:∀ {es:List ag} {vs:List Value},(∀ e v,e∈es->al F w L U cg e v->al F' w' L' U' cg' e v->al F' w' L'' U'' IW e v)->bm F w L U cg es vs->bm F' w' L' U' cg' es vs->bm F' w' L'' U'' IW es vs:=by
 intro es
 induction es with
 |nil=>intro vs _ h _;exact h
 |cons e es ih=>
  rintro vs hi ⟨v,r,rfl,h1,h2⟩ ⟨v',r',e',h3,h4⟩
  injection e' with e1 e2
  subst e1;subst e2
  exact⟨v,r,rfl,hi e v (by simp) h1 h3,ih (λe v he=>hi e v (by simp[he])) h2 h4⟩
theorem bm.IX{F:ae}{w:World}{L L':Nat->Option Lab}{U U':Nat->Bool}{cg cg':Nat->List Value}:∀ {es:List ag} {vs:List Value},(∀ e v,e∈es->al F w L U cg e v->al F w L' U' cg' e v)->bm F w L U cg es vs->bm F w L' U' cg' es vs:=by
 intro es
 induction es with
 |nil=>intro vs _ h;exact h
 |cons e es ih=>
  rintro vs hi ⟨v,r,rfl,h1,h2⟩
  exact⟨v,r,rfl,hi e v (by simp) h1,ih (λe v he=>hi e v (by simp[he])) h2⟩
theorem kD{es:List ag}{e:ag}(he:e∈es):∀ l∈bV e,l∈gI es:=by
 induction es with
 |nil=>simp at he
 |cons x xs ih=>
  intro l hl
  rcases List.mem_cons.1 he with rfl|he
  ·simp[gI,hl]
  ·simp[gI,ih he l hl]
theorem aw.merge(h:aw B F Sg cg σ a w){T:Nat->Bool}{σ':St}{a':Act}{w':World}(h':Inv (sB h T) σ' a' w'){dst:Option Nat}(htm:∀ t,dst≠some t->a'.tmps.getD t undef=a.tmps.getD t undef)(hE:∀ t,dst≠some t->σ'.E t=σ.E t)(hk:ij T dst σ'=true):
 Inv B ⟨σ'.E,gJ T σ'.L σ.L,fY T σ'.U σ.U⟩ a' w':=by
 obtain⟨F',Sg',cg',h'⟩:=h'
 have Dy:∀ l b,T l=false->σ.L l=some b->∀ k,Sg l k->¬(sB h T).S0 k:=by
  rintro l b hT hl k hk ⟨l2,b2,hT2,hl2,hk2⟩
  have hne:l≠l2:=λe=>by rw[e,hT2]at hT;cases hT
  exact h.dis l l2 b b2 hne hl hl2 k hk hk2
 have IY:∀ l b,T l=false->σ.L l=some b->∀ k,Sg l k->w'.heap[k]?=w.heap[k]?:=λl b hT hl k hk=>h'.fr.block k (h.lt l b hl k hk) (Dy l b hT hl k hk)
 have hFS:∀ k,F k->¬(sB h T).S0 k:=by
  rintro k hk ⟨l,b,_,hl,hs⟩
  exact h.bY l b hl k hs hk
 have hFw:∀ k,F k->w'.heap[k]?=w.heap[k]?:=λk hk=>h'.fr.block k (h.fl k hk) (hFS k hk)
 have hS0:∀ k,(sB h T).S0 k->k<B.w0.heap.size->B.S0 k:=by
  rintro k ⟨l,b,_,hl,hs⟩ hlt
  exact h.may l b hl k hs hlt
 have cases2:∀ l b,gJ T σ'.L σ.L l=some b->(T l=true/\σ'.L l=some b)\/(T l=false/\σ.L l=some b):=λl b hb=>by
  unfold gJ at hb
  cases hT:T l
  ·rw[hT]at hb;exact .inr ⟨rfl,hb⟩
  ·rw[hT]at hb;exact .inl ⟨rfl,hb⟩
 refine⟨F',λl=>if T l=true then Sg' l else Sg l,λl=>if T l=true then cg' l else cg l,?_⟩
 exact
 {fr:=⟨h'.fr.os.trans h.fr.os,h'.fr.tape.trans h.fr.tape,h'.fr.output.trans h.fr.output,Nat.le_trans h.fr.size h'.fr.size,λk hk hn=>(h'.fr.block k (Nat.lt_of_lt_of_le hk h.fr.size) (λhs=>hn (hS0 k hs hk))).trans (h.fr.block k hk hn)⟩
  size:=h'.size
  defers:=h'.defers
  f0:=h.f0.trans h'.f0
  fl:=h'.fl
  fs:=λk hk hlt hns=>h.fs k (h'.fs k hk (Nat.lt_of_lt_of_le hlt h.fr.size) (λhs=>hns (hS0 k hs hlt))) hlt hns
  lab:=λl b hb=>by
   rcases cases2 l b hb with⟨hT,hl⟩|⟨hT,hl⟩
   ·simp only[hT,if_true];exact h'.lab l b hl
   ·simp only[hT,Bool.false_eq_true,if_false];exact aA h'.f0 hFw _ _ _ _ _ _ (h.lab l b hl) (Sub.refl _) (IY l b hT hl)
  dis:=λl l2 b b2 hne hb hb2=>by
   rcases cases2 l b hb with⟨hT,hl⟩|⟨hT,hl⟩ <;> rcases cases2 l2 b2 hb2 with⟨hT2,hl2⟩|⟨hT2,hl2⟩
   ·simp only[hT,hT2,if_true];exact h'.dis l l2 b b2 hne hl hl2
   ·simp only[hT,hT2,if_true,Bool.false_eq_true,if_false]
    intro k h1 h2
    exact Dy l2 b2 hT2 hl2 k h2 (h'.may l b hl k h1 (h.lt l2 b2 hl2 k h2))
   ·simp only[hT,hT2,if_true,Bool.false_eq_true,if_false]
    intro k h1 h2
    exact Dy l b hT hl k h1 (h'.may l2 b2 hl2 k h2 (h.lt l b hl k h1))
   ·simp only[hT,hT2,Bool.false_eq_true,if_false];exact h.dis l l2 b b2 hne hl hl2
  bY:=λl b hb=>by
   rcases cases2 l b hb with⟨hT,hl⟩|⟨hT,hl⟩
   ·simp only[hT,if_true];exact h'.bY l b hl
   ·simp only[hT,Bool.false_eq_true,if_false]
    intro k h1 h2
    exact h.bY l b hl k h1 (h'.fs k h2 (h.lt l b hl k h1) (Dy l b hT hl k h1))
  lt:=λl b hb k hk=>by
   rcases cases2 l b hb with⟨hT,hl⟩|⟨hT,hl⟩
   ·simp only[hT,if_true]at hk;exact h'.lt l b hl k hk
   ·simp only[hT,Bool.false_eq_true,if_false]at hk;exact Nat.lt_of_lt_of_le (h.lt l b hl k hk) h'.fr.size
  may:=λl b hb k hk hlt=>by
   rcases cases2 l b hb with⟨hT,hl⟩|⟨hT,hl⟩
   ·simp only[hT,if_true]at hk;exact hS0 k (h'.may l b hl k hk (Nat.lt_of_lt_of_le hlt h.fr.size)) hlt
   ·simp only[hT,Bool.false_eq_true,if_false]at hk;exact h.may l b hl k hk hlt
  used:=λl b hb=>by
   rcases cases2 l b hb with⟨hT,hl⟩|⟨hT,hl⟩
   ·simp only[fY,hT,cond_true];exact h'.used l b hl
   ·simp only[fY,hT,cond_false];exact h.used l b hl
  fix:=λl cs hf=>by
   have q:=h.fix l cs hf
   have q':=h'.fix l cs hf
   refine⟨⟨?_,q.1.2⟩,λb hb=>?_⟩
   ·simp only[fY]
    cases T l
    ·exact q.1.1
    ·exact q'.1.1
   ·rcases cases2 l b hb with⟨hT,hl⟩|⟨hT,hl⟩
    ·simp only[hT,if_true];exact q'.2 b hl
    ·simp only[hT,Bool.false_eq_true,if_false];exact q.2 b hl
  ent:=λt e he=>by
   have h1:=h'.ent t e he
   by_cases hd:dst=some t
   ·subst hd
    simp only[ij]at hk
    have he':σ'.E t=some e:=he
    rw[he']at hk
    have hin:=yz hk
    cases e with
    |one e=>exact al.sC h1 hin
    |tup es=>
     obtain⟨vs,hv,hes⟩:=h1
     exact⟨vs,hv,hes.IX λe v hm hv=>hv.sC λl hl=>hin l (kD hm l hl)⟩
    |clo f es=>
     obtain⟨vs,hv,hes⟩:=h1
     exact⟨vs,hv,hes.IX λe v hm hv=>hv.sC λl hl=>hin l (kD hm l hl)⟩
   ·have h0:=h.ent t e (by rw[<-hE t hd];exact he)
    rw[htm t hd]at h1 |-
    have step:∀ e v,al F w σ.L σ.U cg e v->al F' w' σ'.L σ'.U cg' e v->al F' w' (gJ T σ'.L σ.L) (fY T σ'.U σ.U) (λl=>if T l=true then cg' l else cg l) e v:=by
     intro e v g0 g1
     rcases IU e with hk0|⟨l,hl⟩
     ·exact g1.sC (λl hl=>by rw[hk0]at hl;simp at hl)
     ·cases hT:T l
      ·have hkk:∀ j∈bV e,T j=false:=λj hj=>by rw[hl]at hj;simp at hj;rw[hj];exact hT
       exact(g0.GU h'.f0 hFw h.lab IY hkk).GS hkk
      ·exact g1.sC (λj hj=>by rw[hl]at hj;simp at hj;rw[hj];exact hT)
    cases e with
    |one e=>exact step e _ h0 h1
    |tup es=>
     obtain⟨vs,hv,hes⟩:=h0
     obtain⟨vs',hv',nB⟩:=h1
     rw[hv]at hv'
     injection hv' with hv'
     have:vs=vs':=by simpa using congrArg Array.toList hv'
     subst this
     exact⟨vs,hv,hes.IV (λe v _=>step e v) nB⟩
    |clo f es=>
     obtain⟨vs,hv,hes⟩:=h0
     obtain⟨vs',hv',nB⟩:=h1
     rw[hv]at hv'
     injection hv' with _ _ hv'
     have:vs=vs':=by simpa using congrArg Array.toList hv'
     subst this
     exact⟨vs,hv,hes.IV (λe v _=>step e v) nB⟩}
end
section
variable {P:Program} {B:bO} {F:ae} {Sg:Nat->ae} {cg:Nat->List Value} {σ:St} {a:Act} {w:World}
theorem nL{dst:Option Nat}{v:Value}{t:Nat}(h:dst≠some t):(a.put dst v).tmps.getD t undef=a.tmps.getD t undef:=by
 cases dst with
 |none=>rfl
 |some d=>
  have hne:t≠d:=λe=>h (by rw[e])
  simp only[Act.put,Array.getD_eq_getD_getElem?]
  rw[Array.getElem?_setIfInBounds_ne (Ne.symm hne)]
theorem Oper.Dz{o:Oper}{next:Act->World->Prop}{Q:Exit->Act->World->Prop}(h:o.wp P a w next Q):o.wp P a w (λa' w'=>next a' w'/\∀ t,o.dst≠some t->a'.tmps.getD t undef=a.tmps.getD t undef) Q:=by
 unfold Oper.wp at *
 generalize (execOp a.eval o).run P w=res at *
 cases res with
 |ok n w'=>
  cases n <;> simp only[Oper.upon]at h |-
  case value u=>exact⟨h,λt ht=>nL ht⟩
  case skip=>exact⟨h,λt ht=>nL ht⟩
  case defer d=>exact⟨h,λt ht=>nL (a:={a with defers:=d::a.defers}) ht⟩
  case enter f args=>
   refine Calls.mono h λe w'' he=>?_
   cases e with
   |returned u=>exact⟨he,λt ht=>nL ht⟩
   |panicked c=>exact he
   |outgrown=>exact he
  case row row args=>exact Rows.mono h λu w'' he=>⟨he,λt ht=>nL ht⟩
 |halt x w'=>
  cases x <;> simp only[Oper.upon]at h |-
  case panic u=>exact h
theorem IZ{V:Env}(hV:cE P V)(h:Inv B σ a w){o:Oper}(hc:calm V o=true)(hN:∀ d,o.dst=some d->d<B.N){σ':St}(hk:opD V (iW σ o) o some=some σ')(hin:ij (cX σ o) o.dst σ'=true){Q:Exit->Act->World->Prop}:
 o.wp P a w (λa' w'=>Inv B (kC (cX σ o) o.dst σ σ') a' w') Q:=by
 obtain⟨F,Sg,cg,h⟩:=h
 have i1:=h.restrict (cX σ o)
 have hE:∀ t∈looks o,(λt=>bif dn t (looks o)then σ.E t else none) t=σ.E t:=λt ht=>by
  have:∀ l:List Nat,t∈l->dn t l=true:=by
   intro l
   induction l with
   |nil=>intro h;simp at h
   |cons x xs ih=>
    intro h
    simp only[dn,Bool.or_eq_true]
    rcases List.mem_cons.1 h with rfl|h
    ·exact .inl (Nat.beq_refl _)
    ·exact .inr (ih h)
  simp only[this _ ht,cond_true]
 have sD:=Dx (R:=St) (E:=σ.E) (L:=fj σ.L (cX σ o)) (U:=fk σ.U (cX σ o)) V hc hE some
 have hb:=sy (λσ'=>some (aT σ.E o.dst σ')) V (iW σ o) o some
 rw[hk]at hb
 have hk2:opD V ⟨σ.E,fj σ.L (cX σ o),fk σ.U (cX σ o)⟩ o some=some (aT σ.E o.dst σ'):=by
  rw[sD]
  exact hb.symm
 refine Oper.ic (Oper.Dz (GR (Q:=Q) hV i1 hN hk2)) (λa' w' hp=>?_) (λ_ _ _ h=>h)
 obtain⟨⟨iS,q1,q2,_⟩,q4⟩:=hp
 injection q1 with q1
 subst q1
 have:=h.merge q2 q4 (λt ht=>by
  simp only[aT,iU]
  cases hd:o.dst with
  |none=>rfl
  |some d=>exact au _ _ (λe=>ht (by rw[hd,e]))) (by
  unfold ij at hin |-
  cases hd:o.dst with
  |none=>rfl
  |some d=>
   rw[hd]at hin
   simp only[aT,iU,ap]
   exact hin)
 exact this
def nM:List (Ty×Md)->Bool
 |[]=>true
 |p::ps=>decide (p.2=.ro)&&nM ps
def AG(c:Callee):Bool:=nM c.ps&&(nM c.rs&&(match c.mi with|[]=>(match c.ms with|[]=>true|_=>false)|_=>false))
def isV(V:Env)(o:Oper):Bool:=match o.op with
 |.move _|.assign _|.pick .. |.load .. |.nilCheck _|.binOp .. |.unOp .. |.fieldAddr .. |.field .. |.indexAddr .. |.index .. |.extract ..=>true
 |.call c=>(match c.callee with|.builtin .len=>true|.builtin .min=>true|.builtin .max=>true|.value (.func f)=>(match V.CT f with|some ce=>AG ce&&((ba ce.rs&&ba ce.ms)||V.nz o.dst)|none=>false)|_=>false)
 |_=>false
theorem jE{dst:Option Nat}{e:ag}:(σ.aW dst e).L=σ.L/\(σ.aW dst e).U=σ.U:=by cases dst <;> exact⟨rfl,rfl⟩
theorem wJ{dst:Option Nat}{es:List ag}:(σ.fP dst es).L=σ.L/\(σ.fP dst es).U=σ.U:=by cases dst <;> exact⟨rfl,rfl⟩
theorem yA{o:Oper}{σ':St}{f:Option ag}(h:(f.bind λe=>some (σ.aW o.dst e))=some σ'):σ'.L=σ.L/\σ'.U=σ.U:=by
 obtain⟨e,_,h2⟩:=Option.bind_eq_some_iff.1 h
 injection h2 with h2
 rw[<-h2];exact jE
theorem qk{R:Type}{σ:St}{e:ag}{K:Nat->Lab->List Stp->V->Option R}{r:R}(h:fM σ e K=some r):∃ l b π c,K l b π c=some r:=by
 unfold fM at h
 split at h
 ·split at h
  ·rename_i b _
   simp only[Bool.cond_eq_ite]at h
   split at h
   ·exact⟨_,_,_,_,h⟩
   ·split at h
    ·exact⟨_,_,_,_,h⟩
    ·cases h
  ·cases h
 ·cases h
theorem AH{σ:St}{es:List ag}{mi:List Nat}{ms:List (Ty×Md)}(hq:(match mi with|[]=>(match ms with|[]=>true|_=>false)|_=>false)=true){y:(bX ms).T}{L L2:Nat->Option Lab}(h:jX σ es mi ms y L=some L2):L2=L:=by
 cases mi with
 |cons _ _=>cases hq
 |nil=>cases ms with
  |cons _ _=>cases hq
  |nil=>injection h with h;exact h.symm
theorem AI{R:Type}{σ:St}:∀ {ps:List (Ty×Md)} {es:List ag} {L:Nat->Option Lab} {K:(bX ps).T->(Nat->Option Lab)->List Nat->Option R} {r:R},nM ps=true->gC σ ps es L K=some r->∃ x bs,K x L bs=some r:=by
 intro ps
 induction ps with
 |nil=>
  intro es L K r _ h
  cases es with
  |nil=>exact⟨(),[],h⟩
  |cons _ _=>cases h
 |cons p ps ih=>
  intro es L K r ha h
  simp only[nM,Bool.and_eq_true]at ha
  cases es with
  |nil=>cases h
  |cons e es=>
   simp only[gC]at h
   unfold pS at h
   rw[ha.1]at h
   simp only[cond_true]at h
   split at h
   ·obtain⟨l,b,π,c,h⟩:=qk h
    split at h
    ·obtain⟨x,bs,h⟩:=ih ha.2 h;exact⟨_,_,h⟩
    ·cases h
   ·obtain⟨x0,h⟩:=Gx h
    obtain⟨x,bs,h⟩:=ih ha.2 h;exact⟨_,_,h⟩
theorem DC{R:Type}:∀ {rs:List (Ty×Md)} {x:(bX rs).T} {k:Nat} {σ:St} {K:St->List ag->Option R} {r:R},nM rs=true->ll rs x k σ K=some r->∃ es,K σ es=some r:=by
 intro rs
 induction rs with
 |nil=>intro x k σ K r _ h;exact⟨[],h⟩
 |cons p rs ih=>
  intro x k σ K r ha h
  simp only[nM,Bool.and_eq_true,decide_eq_true_eq]at ha
  simp only[ll,ha.1,bQ,cond_true]at h
  obtain⟨es,h⟩:=ih ha.2 h
  exact⟨_,h⟩
theorem DD{V:Env}{o:Oper}(hv:isV V o=true){σ':St}(hk:opK V σ o some=some σ'):σ'.L=σ.L/\σ'.U=σ.U:=by
 have one:∀ (f:(ag->Option St)->Option St) (g:Option ag),(∀ K,f K=g.bind K)->f (λe=>some (σ.aW o.dst e))=some σ'->σ'.L=σ.L/\σ'.U=σ.U:=λf g hf h=>by
  rw[hf]at h;exact yA h
 unfold isV at hv
 unfold opK at hk
 split at hk
 ·split at hk
  ·injection hk with hk;rw[<-hk];exact wJ
  ·split at hk
   ·injection hk with hk;rw[<-hk];exact jE
   ·cases hk
 ·split at hk
  ·injection hk with hk;rw[<-hk];exact wJ
  ·split at hk
   ·injection hk with hk;rw[<-hk];exact jE
   ·cases hk
 ·split at hk
  ·split at hk
   ·split at hk
    ·injection hk with hk;rw[<-hk];exact jE
    ·cases hk
   ·split at hk
    ·injection hk with hk;rw[<-hk];exact jE
    ·cases hk
  ·cases hk
 ·rename_i t ho;rw[ho]at hv;cases hv
 ·rename_i t x ho;rw[ho]at hv;cases hv
 ·rename_i t x ho;rw[ho]at hv;cases hv
 ·rename_i t l x ho;rw[ho]at hv;cases hv
 ·split at hk
  ·split at hk
   ·exact one _ _ (λK=>(nH K _ _ _ some).symm) hk
   ·cases hk
  ·cases hk
 ·rename_i t l x ho;rw[ho]at hv;cases hv
 ·split at hk
  ·exact one _ _ (λK=>(oW K _ _ some).symm) hk
  ·cases hk
 ·split at hk
  ·split at hk
   ·exact one _ _ (λK=>(oZ K _ _ _ _ _ _ _ some).symm) hk
   ·cases hk
  ·cases hk
 ·split at hk
  ·exact one _ _ (λK=>(r7 K _ _ some).symm) hk
  ·cases hk
 ·rename_i s t x ho;rw[ho]at hv;cases hv
 ·rename_i t l x ho;rw[ho]at hv;cases hv
 ·rename_i t x l h m ho;rw[ho]at hv;cases hv
 ·split at hk
  ·exact one _ _ (λK=>(iB K _ _ _ _ _ some).symm) hk
  ·cases hk
 ·split at hk
  ·exact one _ _ (λK=>(l7 K _ _ _ _ _ some).symm) hk
  ·cases hk
 ·split at hk
  ·split at hk
   ·exact one _ _ (λK=>(o0 K _ _ _ _ _ some).symm) hk
   ·cases hk
  ·cases hk
 ·split at hk
  ·split at hk
   ·exact one _ _ (λK=>(l8 K _ _ _ _ some).symm) hk
   ·cases hk
  ·cases hk
 ·split at hk
  ·split at hk
   ·injection hk with hk;rw[<-hk];exact jE
   ·cases hk
  ·cases hk
 ·rename_i c ho
  rw[ho]at hv
  simp only at hv
  split at hk
  ·rename_i b hc
   rw[hc]at hv
   unfold dG at hk
   split at hk
   ·split at hk
    ·exact one _ _ (λK=>(oU K _ _ _ _ some).symm) hk
    ·cases hk
   ·split at hk
    ·exact one _ _ (λK=>(oV K _ _ _ _ some).symm) hk
    ·cases hk
   ·cases hv
   ·split at hk
    ·split at hk
     ·exact one _ _ (λK=>(oX K _ _ some).symm) hk
     ·cases hk
    ·cases hk
   ·split at hk
    ·split at hk
     ·exact one _ _ (λK=>(oY K _ _ some).symm) hk
     ·cases hk
    ·cases hk
   ·cases hk
  ·rename_i f hc
   rw[hc]at hv
   simp only at hv
   cases hf:V.CT f with
   |none=>rw[hf]at hv;cases hv
   |some ce=>
   rw[hf]at hv hk
   simp only[Bool.and_eq_true]at hv
   simp only at hk
   obtain⟨hro,hfl⟩:=hv
   split at hk
   ·rename_i es hes
    rw[hfl]at hk
    simp only[cond_true]at hk
    unfold AG at hro
    simp only[Bool.and_eq_true]at hro
    obtain⟨r1,r2,r3⟩:=hro
    unfold eX at hk
    obtain⟨x,bs,hk⟩:=AI r1 hk
    simp only[Bool.cond_eq_ite]at hk
    split at hk
    ·unfold af at hk
     cases x5:ce.den x with
     |none=>rw[x5]at hk;cases hk
     |some y=>
     rw[x5]at hk
     simp only at hk
     split at hk
     ·rename_i L2 hL2
      have hL2:=AH r3 hL2
      subst hL2
      split at hk
      ·obtain⟨es',hk⟩:=DC r2 hk
       injection hk with hk
       rw[<-hk]
       exact⟨rfl,rfl⟩
      ·injection hk with hk
       rw[<-hk]
       exact⟨rfl,rfl⟩
     ·cases hk
    ·cases hk
   ·cases hk
  ·cases hk
 ·cases hk
theorem DE{V:Env}{o:Oper}(hv:isV V o=true){σ':St}(hk:opD V σ o some=some σ'):σ'.L=σ.L/\σ'.U=σ.U:=by
 unfold opD at hk
 cases hq:cvQ σ o
 ·rw[hq]at hk;exact DD hv hk
 ·rw[hq]at hk
  simp only[cond_true]at hk
  have mv:∀ t,cvM σ o.dst t some=some σ'->σ'.L=σ.L/\σ'.U=σ.U:=by
   intro t hk
   unfold cvM at hk
   split at hk
   ·injection hk with hk
    rw[<-hk]
    unfold St.lx
    cases o.dst <;> exact⟨rfl,rfl⟩
   ·cases hk
  unfold cvK at hk
  split at hk
  ·exact mv _ hk
  ·exact mv _ hk
  ·rename_i c ho
   split at hk
   ·rename_i t hc
    simp[isV,ho,hc]at hv
   ·cases hk
  ·cases hk
end
def nN(σ:St)(ops:List Oper)(o:Oper):Option Bool:=
 match o.guard with
 |none=>some true
 |some (j,want)=>match iR ops j with
  |some s=>(match σ.E s with
   |some (.one (.val .bool b))=>some ((b:Bool) == want)
   |some (.one (.cst v))=>(match v with
    |.bool b=>some (b == want)
    |_=>some false)
   |_=>none)
  |none=>none
def bn(ops:List Oper)(o:Oper):List Nat:=match o.guard with
 |none=>[]
 |some (j,_)=>match iR ops j with|some s=>[s]|none=>[]
structure Tr where
 o:Oper
 st:St
 run:Bool
 e:Option Ent
 T:Nat->Bool
 L':Nat->Option Lab
 U':Nat->Bool
 re:List Nat
 TR:Nat->Bool
 anc:List Nat
 wh:Option St:=none
def Tr.U(t:Tr)(σ:St):St:=match t.wh with|some σ'=>σ'|none=>⟨match t.o.dst with|some d=>upd σ.E d t.e|none=>σ.E,gJ t.T t.L' σ.L,fY t.T t.U' σ.U⟩
structure e6(s t:Tr):Prop where
 r1:∀ d,s.o.dst=some d->d∉t.re
 r2:∀ d,t.o.dst=some d->d∉s.re
 w:∀ d,s.o.dst=some d->t.o.dst≠some d
 l1:∀ l,s.T l=true->t.TR l=true->False
 l2:∀ l,t.T l=true->s.TR l=true->False
 l3:∀ l,s.T l=true->t.T l=true->False
 n1:s.wh=none
 n2:t.wh=none
structure Ag(t:Tr)(σ1 σ2:St):Prop where
 e:∀ x∈t.re,σ1.E x=σ2.E x
 l:∀ l,t.TR l=true->σ1.L l=σ2.L l/\σ1.U l=σ2.U l
 w:t.wh.isSome=true->σ1=σ2
def bz(D:Nat->Bool):List Tr->Nat->St->St
 |[],_,σ=>σ
 |t::tr,m,σ=>bz D tr (m+1) (bif D m then t.U σ else σ)
section
theorem Ag.refl(t:Tr)(σ:St):Ag t σ σ:=⟨λ_ _=>rfl,λ_ _=>⟨rfl,rfl⟩,λ_=>rfl⟩
theorem Ag.both{t s:Tr}{σ1 σ2:St}(h:Ag t σ1 σ2):Ag t (s.U σ1) (s.U σ2):=by
 cases hw:s.wh with
 |some σ'=>simp only[Tr.U,hw];exact Ag.refl _ _
 |none=>
 refine⟨λx hx=>?_,λl hl=>?_,λhw'=>by rw[h.w hw']⟩
 ·simp only[Tr.U,hw]
  cases s.o.dst with
  |none=>exact h.1 x hx
  |some d=>
   by_cases e:x=d
   ·subst e;simp only[ap]
   ·simp only[au _ _ e];exact h.1 x hx
 ·simp only[Tr.U,hw,gJ,fY]
  cases s.T l
  ·exact h.2 l hl
  ·exact⟨rfl,rfl⟩
theorem Ag.one{t s:Tr}{σ:St}(h:e6 s t):Ag t (s.U σ) σ:=by
 refine⟨λx hx=>?_,λl hl=>?_,λhw=>by rw[h.n2]at hw;cases hw⟩
 ·simp only[Tr.U,h.n1]
  cases hd:s.o.dst with
  |none=>rfl
  |some d=>exact au _ _ (λe=>h.r1 d hd (e ▸ hx))
 ·simp only[Tr.U,h.n1,gJ,fY]
  cases hT:s.T l
  ·exact⟨rfl,rfl⟩
  ·exact(h.l1 l hT hl).elim
theorem Ag.trans{t:Tr}{σ1 σ2 σ3:St}(h:Ag t σ1 σ2)(k:Ag t σ2 σ3):Ag t σ1 σ3:=⟨λx hx=>(h.1 x hx).trans (k.1 x hx),λl hl=>⟨(h.2 l hl).1.trans (k.2 l hl).1,(h.2 l hl).2.trans (k.2 l hl).2⟩,λhw=>(h.w hw).trans (k.w hw)⟩
theorem Ag.symm{t:Tr}{σ1 σ2:St}(h:Ag t σ1 σ2):Ag t σ2 σ1:=⟨λx hx=>(h.1 x hx).symm,λl hl=>⟨(h.2 l hl).1.symm,(h.2 l hl).2.symm⟩,λhw=>(h.w hw).symm⟩
theorem e6.symm{s t:Tr}(h:e6 s t):e6 t s:=⟨h.r2,h.r1,λd h1 h2=>h.w d h2 h1,h.l2,h.l1,λl h1 h2=>h.l3 l h2 h1,h.n2,h.n1⟩
theorem GV{s t:Tr}(h:e6 s t)(σ:St):s.U (t.U σ)=t.U (s.U σ):=by
 have hE:(s.U (t.U σ)).E=(t.U (s.U σ)).E:=by
  simp only[Tr.U,h.n1,h.n2]
  cases hs:s.o.dst with
  |none=>cases t.o.dst <;> rfl
  |some d=>
   cases ht:t.o.dst with
   |none=>rfl
   |some d'=>
    have hne:d≠d':=λe=>h.w d hs (by rw[ht,e])
    funext j
    by_cases e1:j=d
    ·subst e1;simp only[ap,au _ _ hne]
    ·by_cases e2:j=d'
     ·subst e2;simp only[au _ _ e1,ap]
     ·simp only[au _ _ e1,au _ _ e2]
 have hL:(s.U (t.U σ)).L=(t.U (s.U σ)).L:=by
  funext l
  simp only[Tr.U,h.n1,h.n2,gJ]
  cases h1:s.T l <;> cases h2:t.T l <;> first|rfl|exact(h.l3 l h1 h2).elim
 have hU:(s.U (t.U σ)).U=(t.U (s.U σ)).U:=by
  funext l
  simp only[Tr.U,h.n1,h.n2,fY]
  cases h1:s.T l <;> cases h2:t.T l <;> first|rfl|exact(h.l3 l h1 h2).elim
 cases h1:s.U (t.U σ)with
 |mk E1 L1 U1=>
  cases h2:t.U (s.U σ)with
  |mk E2 L2 U2=>
   rw[h1,h2]at hE hL hU
   simp only at hE hL hU
   rw[hE,hL,hU]
theorem lB{D D':Nat->Bool}:∀ (tr:List Tr) (m:Nat) (σ:St),(∀ k,m<=k->k<m+tr.length->D k=D' k)->bz D tr m σ=bz D' tr m σ:=by
 intro tr
 induction tr with
 |nil=>intro m σ _;rfl
 |cons t tr ih=>
  intro m σ h
  simp only[bz]
  rw[h m (Nat.le_refl _) (by simp)]
  exact ih (m+1) _ (λk h1 h2=>h k (by omega) (by simp at h2 |-;omega))
theorem yB{D:Nat->Bool}{i:Nat}{t:Tr}:∀ (tr:List Tr) (m:Nat) (σ:St),(m<=i)->tr[i-m]?=some t->D i=false->(∀ k s,i<k->D k=true->m<=k->tr[k-m]?=some s->e6 s t)->
 bz (λk=>D k||Nat.beq k i) tr m σ=t.U (bz D tr m σ):=by
 have AJ:∀ (tr:List Tr) (m:Nat) (σ:St),i<m->(∀ k s,D k=true->m<=k->tr[k-m]?=some s->e6 s t)->bz (λk=>D k||Nat.beq k i) tr m (t.U σ)=t.U (bz D tr m σ):=by
  intro tr
  induction tr with
  |nil=>intro m σ _ _;rfl
  |cons s tr ih=>
   intro m σ hm ha
   have hne:Nat.beq m i=false:=by
    cases hb:Nat.beq m i
    ·rfl
    ·have:=Nat.eq_of_beq_eq_true hb;omega
   simp only[bz,hne,Bool.or_false]
   cases hD:D m
   ·exact ih (m+1) σ (by omega) (λk s' h1 h2 h3=>ha k s' h1 (by omega) (by rw[show k-m=(k-(m+1))+1 by omega];exact h3))
   ·simp only[cond_true]
    rw[GV (ha m s hD (Nat.le_refl _) (by simp))]
    exact ih (m+1) _ (by omega) (λk s' h1 h2 h3=>ha k s' h1 (by omega) (by rw[show k-m=(k-(m+1))+1 by omega];exact h3))
 intro tr
 induction tr with
 |nil=>intro m σ _ h;simp at h
 |cons s tr ih=>
  intro m σ hm ht hD ha
  by_cases e:m=i
  ·subst e
   simp at ht
   subst ht
   simp only[bz,hD,Nat.beq_refl,Bool.false_or,cond_true,cond_false]
   exact AJ tr (m+1) σ (Nat.lt_succ_self _) (λk s' h1 h2 h3=>ha k s' (by omega) h1 (by omega) (by rw[show k-m=(k-(m+1))+1 by omega];exact h3))
  ·have hne:Nat.beq m i=false:=by
    cases hb:Nat.beq m i
    ·rfl
    ·exact absurd (Nat.eq_of_beq_eq_true hb) e
   simp only[bz,hne,Bool.or_false]
   exact ih (m+1) _ (by omega) (by rw[show i-m=(i-(m+1))+1 by omega]at ht;exact ht) hD (λk s' h0 h1 h2 h3=>ha k s' h0 h1 (by omega) (by rw[show k-m=(k-(m+1))+1 by omega];exact h3))
theorem AK{D:Nat->Bool}{i:Nat}{t:Tr}:∀ (tr:List Tr) (m:Nat) (σ1 σ2:St),m<=i->i-m<=tr.length->Ag t σ1 σ2->D i=false->(∀ k s,m<=k->k<i->D k=false->tr[k-m]?=some s->e6 s t)->(∀ k s,i<k->D k=true->tr[k-m]?=some s->e6 s t)->
 Ag t (bz D tr m σ1) (bz (λ_=>true) (tr.take (i-m)) m σ2):=by
 have AJ:∀ (tr:List Tr) (m:Nat) (σ1:St),i<m->(∀ k s,m<=k->D k=true->tr[k-m]?=some s->e6 s t)->Ag t (bz D tr m σ1) σ1:=by
  intro tr
  induction tr with
  |nil=>intro m σ1 _ _;exact Ag.refl _ _
  |cons s tr ih=>
   intro m σ1 hm ha
   simp only[bz]
   have hs:∀ k s',m+1<=k->D k=true->tr[k-(m+1)]?=some s'->e6 s' t:=λk s' h1 h2 h3=>ha k s' (by omega) h2 (by rw[show k-m=(k-(m+1))+1 by omega];exact h3)
   cases hD:D m
   ·exact ih (m+1) σ1 (by omega) hs
   ·exact(ih (m+1) _ (by omega) hs).trans (Ag.one (ha m s (Nat.le_refl _) hD (by simp)))
 intro tr
 induction tr with
 |nil=>intro m σ1 σ2 _ _ h _ _ _;simpa [bz]using h
 |cons s tr ih=>
  intro m σ1 σ2 hm hl h hD h1 h2
  by_cases e:m=i
  ·subst e
   simp only[Nat.sub_self,List.take_zero,bz,hD,cond_false]
   exact(AJ tr (m+1) σ1 (Nat.lt_succ_self _) (λk s' q1 q2 q3=>h2 k s' (by omega) q2 (by rw[show k-m=(k-(m+1))+1 by omega];exact q3))).trans h
  ·rw[show i-m=(i-(m+1))+1 by omega,List.take_succ_cons]
   simp only[bz,cond_true]
   refine ih (m+1) _ _ (by omega) (by simp at hl;omega) ?_ hD (λk s' q1 q2 q3 q4=>h1 k s' (by omega) q2 q3 (by rw[show k-m=(k-(m+1))+1 by omega];exact q4)) (λk s' q1 q2 q3=>h2 k s' q1 q2 (by rw[show k-m=(k-(m+1))+1 by omega];exact q3))
   cases hDm:D m
   ·exact h.trans (Ag.one (h1 m s (Nat.le_refl _) (by omega) hDm (by simp))).symm
   ·exact h.both
end
def gm(V:Env)(t:Tr):Prop:=∀ {P:Program} {B:bO} {σ:St} {a:Act} {w:World} {Q:Exit->Act->World->Prop},cE P V->Inv B σ a w->(∀ d,t.o.dst=some d->d<B.N)->Ag t σ t.st->t.o.wp P a w (λa' w'=>Inv B (t.U σ) a' w') Q
structure GoodP(V:Env)(ops:List Oper)(tr:List Tr)(σ0:St):Prop where
 op:∀ (i:Nat) (t:Tr),tr[i]?=some t->ops[i]?=some t.o
 st:∀ (i:Nat) (t:Tr),tr[i]?=some t->t.st=bz (λ_=>true) (tr.take i) 0 σ0
 gv:∀ (i:Nat) (t:Tr),tr[i]?=some t->nN t.st ops t.o=some t.run/\∀ s∈bn ops t.o,s∈t.re
 run:∀ (i:Nat) (t:Tr),tr[i]?=some t->t.run=true->gm V t
 skip:∀ (i:Nat) (t:Tr),tr[i]?=some t->t.run=false->∀ σ,σ.aW t.o.dst (.cst undef)=t.U σ
 yC:∀ (i:Nat) (t:Tr) (e:Edge),tr[i]?=some t->e∈t.o.after->Region.binds .any e=true->e.on<i
 anc:∀ (i:Nat) (t:Tr) (m:Nat),tr[i]?=some t->m∈t.anc->m<i/\∃ e:Edge,e∈t.o.after/\Region.binds .any e=true/\(m=e.on\/∃ s:Tr,tr[e.on]?=some s/\m∈s.anc)
 apart:∀ (i j:Nat) (s t:Tr),i<j->tr[i]?=some s->tr[j]?=some t->i∉t.anc->e6 s t
 wE:∀ (i:Nat) (t:Tr) (σ':St),tr[i]?=some t->t.wh=some σ'->∀ j,t.o.dst≠some j->σ'.E j=t.st.E j
structure Good(V:Env)(ops:List Oper)(tr:List Tr)(σ0:St):Prop extends GoodP V ops tr σ0 where
 len:tr.length=ops.length
section
variable {P:Program} {B:bO} {V:Env} {ops:Array Oper} {tr:List Tr} {σ0:St}
theorem AL{σ σ':St}{ops:List Oper}{o:Oper}(h:∀ s∈bn ops o,σ.E s=σ'.E s):nN σ ops o=nN σ' ops o:=by
 unfold bn at h
 unfold nN
 cases hg:o.guard with
 |none=>rfl
 |some p=>
  obtain⟨j,want⟩:=p
  rw[hg]at h
  simp only at h |-
  cases hs:iR ops j with
  |none=>rfl
  |some s=>rw[hs]at h;simp only at h |-;rw[h s (by simp)]
theorem DF{σ:St}{a:Act}{w:World}(h:Inv B σ a w){o:Oper}{b:Bool}(hg:nN σ ops.toList o=some b):Region.wanted o (yielded ops a.tmps)=b:=by
 obtain⟨F,Sg,cg,h⟩:=h
 unfold nN at hg
 unfold Region.wanted
 split at hg
 ·rename_i hg';rw[hg'];exact Option.some.inj hg
 ·rename_i j want hg'
  rw[hg']
  simp only
  cases hs:iR ops.toList j with
  |none=>rw[hs]at hg;cases hg
  |some s=>
  rw[hs]at hg
  simp only at hg
  split at hg
  ·rename_i b' hE
   have hv:=eV (L:=σ.L) (U:=σ.U) (cg:=cg) (h.ent s _ hE)
   rw[ib hs hv]
   have hg:=Option.some.inj hg
   rw[<-hg]
   cases b' <;> cases want <;> rfl
  ·rename_i v hE
   have hv:a.tmps.getD s undef=v:=h.ent s _ hE
   split at hg
   ·rename_i b'
    rw[ib hs hv]
    have hg:=Option.some.inj hg
    rw[<-hg]
    cases b' <;> cases want <;> rfl
   ·rename_i hnb
    rw[l6 hs (λb hb=>by rw[hv]at hb;exact hnb b hb)]
    have hg:=Option.some.inj hg
    rw[<-hg]
    rfl
  ·cases hg
theorem uW{σ σ':St}:∀ {ts:List Nat},(∀ t∈ts,σ.E t=σ'.E t)->fR σ ts=fR σ' ts:=by
 intro ts
 induction ts with
 |nil=>intro _;rfl
 |cons t ts ih=>intro h;simp only[fR];rw[h t (by simp),ih (λt ht=>h t (by simp[ht]))]
theorem sE{σ σ':St}{o:Oper}(h:∀ t∈looks o,σ.E t=σ'.E t):cX σ o=cX σ' o:=by
 unfold cX;rw[uW h]
theorem sF{t:Nat}{l:List Nat}(h:dn t l=true):t∈l:=nF h
theorem yD{σ σ':St}{o:Oper}(h:∀ t∈looks o,σ.E t=σ'.E t)(hl:∀ l,cX σ' o l=true->σ.L l=σ'.L l/\σ.U l=σ'.U l):iW σ o=iW σ' o:=by
 unfold iW
 rw[sE h]
 have e1:(λt=>bif dn t (looks o)then σ.E t else none)=λt=>bif dn t (looks o)then σ'.E t else none:=by
  funext t
  cases hm:dn t (looks o)
  ·rfl
  ·exact h t (sF hm)
 have e2:fj σ.L (cX σ' o)=fj σ'.L (cX σ' o):=by
  funext l
  unfold fj
  cases hv:cX σ' o l
  ·rfl
  ·exact(hl l hv).1
 have e3:fk σ.U (cX σ' o)=fk σ'.U (cX σ' o):=by
  funext l
  unfold fk
  cases hv:cX σ' o l
  ·rfl
  ·exact(hl l hv).2
 rw[e1,e2,e3]
theorem gm.of{t:Tr}(h:(∀ x∈looks t.o,x∈t.re)/\(∀ l,cX t.st t.o l=true->t.TR l=true)/\calm V t.o=true/\∃ σ',opD V (iW t.st t.o) t.o some=some σ'/\ij (cX t.st t.o) t.o.dst σ'=true/\∀ σ,Ag t σ t.st->kC (cX t.st t.o) t.o.dst σ σ'=t.U σ):gm V t:=by
 intro P B σ a w Q hV hi hd hag
 obtain⟨r1,r2,r3,σ',r4,r5,r6⟩:=h
 have hlk:∀ x∈looks t.o,σ.E x=t.st.E x:=λx hx=>hag.1 x (r1 x hx)
 have hre:=yD hlk (λl hl=>hag.2 l (r2 l hl))
 have hvi:=sE hlk
 refine Oper.ic (Q:=Q) (IZ hV hi r3 hd (by rw[hre];exact r4) (by rw[hvi];exact r5)) (λa' w' hp=>?_) (λ_ _ _ h=>h)
 rw[hvi,r6 _ hag]at hp
 exact hp
def mvE(σ:St)(o:Oper):Option ag:=match o.op with
 |.move (.tmp t)|.assign (.tmp t)=>(match σ.E t with
  |some (.one (.hdr l n p c))=>some (.hdr l n p c)
  |some (.one (.adr l n p c))=>some (.adr l n p c)
  |_=>none)
 |_=>none
theorem GW{σ:St}{o:Oper}{e:ag}(h:mvE σ o=some e):∃ x,(o.op=.move (.tmp x)\/o.op=.assign (.tmp x))/\looks o=[x]/\σ.E x=some (.one e)/\coN e=e:=by
 unfold mvE at h
 split at h
 ·rename_i x ho
  refine⟨x,.inl ho,by unfold looks;rw[ho];rfl,?_⟩
  split at h
  ·rename_i hx;injection h with h;rw[<-h];exact⟨hx,rfl⟩
  ·rename_i hx;injection h with h;rw[<-h];exact⟨hx,rfl⟩
  ·cases h
 ·rename_i x ho
  refine⟨x,.inr ho,by unfold looks;rw[ho];rfl,?_⟩
  split at h
  ·rename_i hx;injection h with h;rw[<-h];exact⟨hx,rfl⟩
  ·rename_i hx;injection h with h;rw[<-h];exact⟨hx,rfl⟩
  ·cases h
 ·cases h
theorem gm.wh{t:Tr}{σ':St}(hw:t.wh=some σ')(hk:lm V t.st t.o some=some σ'):gm V t:=by
 intro P B σ a w Q hV hi hd hag
 have e:σ=t.st:=hag.w (by rw[hw];rfl)
 subst e
 obtain⟨F,Sg,cg,hg⟩:=hi
 refine Oper.ic (Q:=Q) (qd hV hg hd hk) (λa' w' hp=>?_) (λ_ _ _ h=>h)
 obtain⟨iS,q1,q2,_⟩:=hp
 injection q1 with q1
 unfold Tr.U
 rw[hw,<-q1];exact q2
def mkE(V:Env)(o:Oper):Option (Nat×Lab):=
 match o.op with
 |.makeMap t none=>(match o.dst with
  |some d=>iQ V t λk q=>some (d,⟨0,.map k (.int q),.own .ro,[]⟩)
  |none=>none)
 |_=>none
theorem AM{o:Oper}{d:Nat}{b:Lab}(h:mkE V o=some (d,b)):o.dst=some d/\∀ σ:St,σ.U (d*8)=false->lm V σ o some=some (σ.mk' σ.L (d*8) d b):=by
 unfold mkE at h
 split at h
 case h_2=>cases h
 rename_i t ho
 split at h
 case h_2=>cases h
 rename_i d' hd
 have hb:∀ {R:Type} (K:Ty->IntKind->Option R),iQ V t K=(iQ V t λk q=>some (k,q)).bind λp=>K p.1 p.2:=by
  intro R K
  unfold iQ
  repeat' split
  all_goals rfl
 rw[hb]at h
 obtain⟨p,hp,h⟩:=Option.bind_eq_some_iff.1 h
 injection h with h
 injection h with h1 h2
 subst h1
 refine⟨hd,λσ hU=>?_⟩
 unfold lm
 rw[ho,hd]
 simp only
 rw[hb,hp]
 simp only[Option.bind_some,hU,cond_false]
 rw[h2]
theorem gm.mk{t:Tr}{d:Nat}{b:Lab}(h:mkE V t.o=some (d,b))(hU:t.st.U (d*8)=false)(hT:t.TR (d*8)=true)(hu:∀ σ:St,σ.mk' σ.L (d*8) d b=t.U σ):gm V t:=by
 intro P B σ a w Q hV hi hd hag
 obtain⟨h1,h2⟩:=AM h
 have hU':σ.U (d*8)=false:=by rw[(hag.l _ hT).2];exact hU
 obtain⟨F,Sg,cg,hg⟩:=hi
 refine Oper.ic (Q:=Q) (qd hV hg hd (h2 σ hU')) (λa' w' hp=>?_) (λ_ _ _ h=>h)
 obtain⟨iS,q1,q2,_⟩:=hp
 injection q1 with q1
 rw[<-hu,<-q1];exact q2
theorem gm.mv{t:Tr}{e:ag}(h:mvE t.st t.o=some e)(hre:∀ x∈looks t.o,x∈t.re)(hU:∀ σ:St,σ.aW t.o.dst e=t.U σ):gm V t:=by
 intro P B σ a w Q hV hi hd hag
 obtain⟨x,hx,hl,hE,hco⟩:=GW h
 have hE':σ.E x=some (.one e):=by rw[hag.1 x (hre x (by rw[hl];simp))];exact hE
 have hk:opK V σ t.o some=some (t.U σ):=by
  rw[<-hU]
  unfold opK
  rcases hx with hx|hx <;> rw[hx] <;> simp only[uC,opd,hE',hco]
 obtain⟨F,Sg,cg,hg⟩:=hi
 refine Oper.ic (Q:=Q) (pZ hV hg hd hk) (λa' w' hp=>?_) (λ_ _ _ h=>h)
 obtain⟨σ',q1,q2,_⟩:=hp
 injection q1 with q1
 rw[<-q1];exact q2
theorem o4{p p':Nat->Bool}:∀ {l:List Nat} {i:Nat},(∀ k,p' k=true->p k=true)->i∈l->p i=true->p' i=false->l.countP p' < l.countP p:=by
 intro l
 induction l with
 |nil=>intro i _ h;simp at h
 |cons x xs ih=>
  intro i hp hi h1 h2
  have hle:xs.countP p'<=xs.countP p:=List.countP_mono_left (λk _ h=>hp k h)
  rw[List.countP_cons,List.countP_cons]
  rcases List.mem_cons.1 hi with rfl|hi
  ·rw[h1,h2];simp;omega
  ·have:=ih hp hi h1 h2
   by_cases hx:p' x=true
   ·rw[hx,hp x hx];simp;omega
   ·have:p' x=false:=by simpa using hx
    rw[this];simp;omega
theorem DG(G:Good V ops.toList tr σ0)(hV:cE P V)(hN:dx B.N ops.toList=true){Q:Exit->Act->World->Prop}(hQ:∀ a w,Inv B (bz (λ_=>true) tr 0 σ0) a w->Q .normal a w):
 ∀ (aP:Nat) (listed:Array Bool) (a:Act) (w:World),listed.size=ops.size->(∀ (i:Nat) (t:Tr) (e:Edge),tr[i]?=some t->listed.getD i false=true->e∈t.o.after->Region.binds .any e=true->listed.getD e.on false=true)->(List.range ops.size).countP (λk=>!listed.getD k false)<=aP->
  Inv B (bz (λk=>listed.getD k false) tr 0 σ0) a w->wpAny P .any ops Q aP listed a w:=by
 have hlen:tr.length=ops.size:=by rw[G.len];simp
 have I0:∀ i:Nat,i<ops.size->∃ t,tr[i]?=some t:=λi hi=>⟨tr[i]'(by omega),by simp[show i<tr.length by omega]⟩
 have I1:∀ (i:Nat) (t:Tr),tr[i]?=some t->ops[i]?=some t.o:=λi t h=>by rw[<-Array.getElem?_toList];exact G.op i t h
 have rS:∀ (i:Nat) (t:Tr),tr[i]?=some t->∀ d,t.o.dst=some d->d<B.N:=λi t h=>by
  have:∀ l:List Oper,dx B.N l=true->∀ o∈l,∀ d,o.dst=some d->d<B.N:=by
   intro l
   induction l with
   |nil=>intro _ o ho;simp at ho
   |cons x l ihl=>
    intro hl o ho d hd
    simp only[dx,Bool.and_eq_true]at hl
    rcases List.mem_cons.1 ho with rfl|ho
    ·rw[hd]at hl;exact Nat.le_of_ble_eq_true hl.1
    ·exact ihl hl.2 o ho d hd
  exact this _ hN _ (List.mem_of_getElem? (G.op i t h))
 -- nothing ready:all done
 have done:∀ (listed:Array Bool) (a:Act) (w:World),listed.size=ops.size->Region.ready .any ops listed=[]->Inv B (bz (λk=>listed.getD k false) tr 0 σ0) a w->Q .normal a w:=by
  intro listed a w hs hr h
  have all:∀ k,k<ops.size->listed.getD k false=true:=by
   intro k
   induction k using Nat.strongRecOn with
   |_ k ih=>
    intro hk
    cases hl:listed.getD k false with
    |true=>rfl
    |false=>
     exfalso
     obtain⟨t,ht⟩:=I0 k hk
     have:k∈Region.ready .any ops listed:=by
      rw[mem_ready]
      refine⟨?_,t.o,I1 k t ht,λe he hb=>?_⟩
      ·rw[Array.getD_eq_getD_getElem?]at hl |-
       simp[show k<listed.size by omega]at hl |-
       exact hl
      ·have:=G.yC k t e ht he hb
       exact ih e.on this (by omega)
     rw[hr]at this
     simp at this
  have e:bz (λk=>listed.getD k false) tr 0 σ0=bz (λ_=>true) tr 0 σ0:=lB tr 0 σ0 (λk _ hk=>all k (by omega))
  rw[e]at h
  exact hQ a w h
 intro aP
 induction aP with
 |zero=>
  intro listed a w hs hcl hc h
  have hr:Region.ready .any ops listed=[]:=by
   cases hr:Region.ready .any ops listed with
   |nil=>rfl
   |cons i is=>
    exfalso
    have hm:i∈Region.ready .any ops listed:=by rw[hr];simp
    obtain⟨h1,o,h2,_⟩:=mem_ready.1 hm
    have hi:i<ops.size:=(Array.getElem?_eq_some_iff.1 h2).1
    have:0<(List.range ops.size).countP (λk=>!listed.getD k false):=by
     rw[List.countP_pos_iff]
     refine⟨i,by simpa using hi,?_⟩
     rw[Array.getD_eq_getD_getElem?]at h1 |-
     simp[show i<listed.size by omega]at h1 |-
     exact h1
    omega
  exact⟨hr,done listed a w hs hr h⟩
 |succ aP ih=>
  intro listed a w hs hcl hc h
  refine⟨λhr=>done listed a w hs hr h,λi hi=>?_⟩
  obtain⟨h1,o,h2,h3⟩:=mem_ready.1 hi
  have yE:i<ops.size:=(Array.getElem?_eq_some_iff.1 h2).1
  obtain⟨t,ht⟩:=I0 i yE
  have hot:=I1 i t ht
  have hlf:listed.getD i false=false:=by
   rw[Array.getD_eq_getD_getElem?]at h1 |-
   simp[show i<listed.size by omega]at h1 |-
   exact h1
  -- C5 is listed is closed
  have sG:∀ (j:Nat) (s:Tr),tr[j]?=some s->(∀ e:Edge,e∈s.o.after->Region.binds .any e=true->listed.getD e.on false=true)->∀ m∈s.anc,listed.getD m false=true:=by
   intro j
   induction j using Nat.strongRecOn with
   |_ j ihj=>
    intro s hs' he m hm
    obtain⟨_,e,q1,q2,q3⟩:=G.anc j s m hs' hm
    rcases q3 with rfl|⟨s2,q4,q5⟩
    ·exact he e q1 q2
    ·exact ihj e.on (G.yC j s e hs' q1 q2) s2 q4 (λe2 he2 hb2=>hcl e.on s2 e2 q4 (he e q1 q2) he2 hb2) m q5
  have hti:t.o=o:=by rw[hot]at h2;injection h2
  have I2:∀ m∈t.anc,listed.getD m false=true:=sG i t ht (λe he hb=>h3 e (hti ▸ he) hb)
  have I3:∀ (k:Nat) (s:Tr),tr[k]?=some s->listed.getD k false=true->i∉s.anc:=λk s hk hl hm=>by
   have:=sG k s hk (λe he hb=>hcl k s e hk hl he hb) i hm
   rw[hlf]at this;cases this
  have Ly:∀ (k:Nat) (s:Tr),0<=k->k<i->listed.getD k false=false->tr[k-0]?=some s->e6 s t:=λk s _ hk hl hsk=>G.apart k i s t hk hsk ht (λhm=>by rw[I2 k hm]at hl;cases hl)
  have I4:∀ (k:Nat) (s:Tr),i<k->listed.getD k false=true->tr[k-0]?=some s->e6 s t:=λk s hk hl hsk=>(G.apart i k t s hk ht hsk (I3 k s hsk hl)).symm
  have hag:Ag t (bz (λk=>listed.getD k false) tr 0 σ0) t.st:=by
   rw[G.st i t ht]
   exact AK tr 0 σ0 σ0 (Nat.zero_le _) (by omega) (Ag.refl _ _) hlf Ly I4
  have GH:bz (λk=>(listed.setIfInBounds i true).getD k false) tr 0 σ0=t.U (bz (λk=>listed.getD k false) tr 0 σ0):=by
   rw[<-yB (D:=λk=>listed.getD k false) tr 0 σ0 (Nat.zero_le _) (by simpa using ht) hlf (λk s h1 h2 _ h4=>I4 k s h1 h2 h4)]
   refine lB tr 0 σ0 (λk _ hk=>?_)
   by_cases e:k=i
   ·subst e
    simp[show k<listed.size by omega,Nat.beq_refl]
   ·rw[getD_set_ne false (Ne.symm e)]
    have:Nat.beq k i=false:=by
     cases hb:Nat.beq k i
     ·rfl
     ·exact absurd (Nat.eq_of_beq_eq_true hb) e
    simp only[this,Bool.or_false]
  have next:∀ a' w',Inv B (t.U (bz (λk=>listed.getD k false) tr 0 σ0)) a' w'->wpAny P .any ops Q aP (listed.setIfInBounds i true) a' w':=by
   intro a' w' h'
   refine ih (listed.setIfInBounds i true) a' w' (by simpa using hs) ?_ ?_ (by rw[GH];exact h')
   ·intro j s e hj hl he hb
    by_cases e':j=i
    ·subst e'
     have:s=t:=by rw[ht]at hj;injection hj with hj;exact hj.symm
     subst this
     have hlt:=G.yC j s e ht he hb
     rw[getD_set_ne false (by omega)]
     exact h3 e (hti ▸ he) hb
    ·rw[getD_set_ne false (Ne.symm e')]at hl
     exact getD_set_true (hcl j s e hj hl he hb)
   ·have:=o4 (p:=λk=>!listed.getD k false) (p':=λk=>!(listed.setIfInBounds i true).getD k false) (l:=List.range ops.size) (i:=i) (λk hk=>by
     cases hl:listed.getD k false with
     |false=>rfl
     |true=>rw[getD_set_true hl]at hk;simp at hk) (by simpa using yE) (by simp only[hlf];rfl) (by simp[show i<listed.size by omega])
    omega
  have hgv:=G.gv i t ht
  have hgs:nN (bz (λk=>listed.getD k false) tr 0 σ0) ops.toList t.o=some t.run:=by
   rw[AL (σ':=t.st) (λs hs=>hag.1 s (hgv.2 s hs))];exact hgv.1
  have hw:=DF h hgs
  unfold wpOp
  rw[hot]
  simp only
  cases aO:t.run with
  |true=>
   rw[aO]at hw
   rw[if_pos hw]
   left
   exact Oper.ic (Q:=Q) (G.run i t ht aO hV h (rS i t ht) hag) (λa' w' hp=>next a' w' hp) (λ_ _ _ h=>h)
  |false=>
   rw[aO]at hw
   rw[if_neg (by rw[hw];simp)]
   refine next _ _ ?_
   rw[<-G.skip i t ht aO]
   obtain⟨F,Sg,cg,h⟩:=h
   exact h.aW (rS i t ht) (e:=.cst undef) rfl
end
structure Fp where
 v:Bool
 re:List Nat
 dst:Option Nat
 ks:List Nat
 b:Bool:=false
def wK(d:Option Nat)(l:List Nat):Bool:=match d with|some d=>!dn d l|none=>true
def lC(k:Nat)(d:Option Nat):Bool:=match d with|some d=>!Nat.beq (k / 8) d|none=>true
def AN(ks2:List Nat)(d2:Option Nat):List Nat->Bool
 |[]=>true
 |k::ks=>(!dn k ks2&&lC k d2)&&AN ks2 d2 ks
def AO(d1:Option Nat):List Nat->Bool
 |[]=>true
 |k::ks=>lC k d1&&AO d1 ks
def neO(d d':Option Nat):Bool:=match d,d' with|some d,some d'=>!Nat.beq d d'|_,_=>true
def I5(f g:Fp):Bool:=wK f.dst g.re&&(wK g.dst f.re&&(neO f.dst g.dst&&((f.v&&g.v)||(AN g.ks g.dst f.ks&&AO f.dst g.ks))))
def ql(f g:Fp):Bool:=!(f.b||g.b)&&I5 f g
def gn(fp:Fp)(an:List Nat):List (Fp×List Nat)->Nat->Bool
 |[],_=>true
 |p::ps,j=>(dn j an||ql p.1 fp)&&gn fp an ps (j+1)
def jF(i:Nat):List Edge->Bool
 |[]=>true
 |e::es=>(!Region.binds .any e||Nat.blt e.on i)&&jF i es
def wL{R:Type}(n:Nat)(k:Nat->R):R:=Nat.rec (k 0) (λm _=>k (m+1)) n
def fy{R:Type}:List Nat->(List Nat->R)->R
 |[],k=>k []
 |x::xs,k=>wL x λx=>fy xs λxs=>k (x::xs)
theorem uX{R:Type}(n:Nat)(k:Nat->R):wL n k=k n:=by cases n <;> rfl
theorem kb{R:Type}:∀ (l:List Nat) (k:List Nat->R),fy l k=k l
 |[],_=>rfl
 |x::xs,k=>by rw[fy,uX,kb xs]
def AP:List Nat->List Nat->List Nat
 |[],l=>l
 |x::xs,l=>bif dn x l then AP xs l else x::AP xs l
theorem nO{m:Nat}:∀ {xs l:List Nat},m∈AP xs l->m∈xs\/m∈l
 |[],l,h=>.inr h
 |x::xs,l,h=>by
  simp only[AP]at h
  cases hb:dn x l
  ·rw[hb]at h
   simp only[cond_false,List.mem_cons]at h
   rcases h with h|h
   ·exact .inl (by simp[h])
   ·exact(nO h).imp (λh=>by simp[h]) id
  ·rw[hb]at h
   exact(nO h).imp (λh=>by simp[h]) id
def cq(acc:List (Fp×List Nat)):List Edge->List Nat
 |[]=>[]
 |e::es=>bif Region.binds .any e then fy (cq acc es) λr=>bif dn e.on r then r else e.on::AP (match acc[e.on]? with|some p=>p.2|none=>[]) r else cq acc es
def nP(V:Env)(σ:St)(o:Oper)(σ':St):St:=bif isV V o then⟨iU σ.E o.dst σ'.E,σ.L,σ.U⟩else kC (cX σ o) o.dst σ σ'
def gp{R:Type}(V:Env)(ops:List Oper):List Oper->Nat->List (Fp×List Nat)->St->(St->Option R)->Option R
 |[],_,_,σ,K=>K σ
 |o::rest,i,acc,σ,K=>
  bif jF i o.after.toList then
   lv σ ops o
    (λσ1=>match mvE σ1 o with
     |some e=>fy (cq acc o.after.toList) λan=>bif gn ⟨true,bn ops o++looks o,o.dst,[],false⟩ an acc 0 then
      gp V ops rest (i+1) (acc++[(⟨true,bn ops o++looks o,o.dst,[],false⟩,an)]) (σ1.aW o.dst e) K else none
     |none=>bif dZ V.TT o.op then fy (cq acc o.after.toList) λan=>(match mkE V o with
      |some p=>bif σ1.U (p.1*8)then none else bif gn ⟨false,bn ops o,o.dst,[],false⟩ an acc 0 then
       gp V ops rest (i+1) (acc++[(⟨false,bn ops o,o.dst,[],false⟩,an)]) (σ1.mk' σ1.L (p.1*8) p.1 p.2) K else none
      |none=>bif gn ⟨false,bn ops o,o.dst,[],true⟩ an acc 0 then
       lm V σ1 o λσ'=>gp V ops rest (i+1) (acc++[(⟨false,bn ops o,o.dst,[],true⟩,an)]) σ' K else none)
     else fy (cq acc o.after.toList) λan=>fy (fR σ1 (looks o)) λks=>bif calm V o&&gn ⟨isV V o,bn ops o++looks o,o.dst,ks,false⟩ an acc 0 then
     opD V (iW σ1 o) o λσ'=>bif ij (cX σ1 o) o.dst σ' then
      gp V ops rest (i+1) (acc++[(⟨isV V o,bn ops o++looks o,o.dst,ks,false⟩,an)]) (nP V σ1 o σ') K else none
     else none)
    (λσ1=>fy (cq acc o.after.toList) λan=>bif gn ⟨true,bn ops o,o.dst,[],false⟩ an acc 0 then
     gp V ops rest (i+1) (acc++[(⟨true,bn ops o,o.dst,[],false⟩,an)]) (σ1.aW o.dst (.cst undef)) K else none)
  else none
section
variable {R:Type} {V:Env}
def Tr.fp(V:Env)(t:Tr):Fp:=bif t.run then(match mvE t.st t.o with|some _=>⟨true,t.re,t.o.dst,[],false⟩|none=>bif dZ V.TT t.o.op then⟨false,t.re,t.o.dst,[],t.wh.isSome⟩else⟨isV V t.o,t.re,t.o.dst,fR t.st (looks t.o),false⟩)else⟨true,t.re,t.o.dst,[],false⟩
theorem Tr.lD(t:Tr):(t.fp V).dst=t.o.dst:=by
 unfold Tr.fp;cases t.run
 ·rfl
 ·simp only[cond_true];split
  ·rfl
  ·cases dZ V.TT t.o.op <;> rfl
theorem Tr.FN(t:Tr):(t.fp V).re=t.re:=by
 unfold Tr.fp;cases t.run
 ·rfl
 ·simp only[cond_true];split
  ·rfl
  ·cases dZ V.TT t.o.op <;> rfl
theorem AQ{ks2:List Nat}{d2:Option Nat}{ks:List Nat}(h:AN ks2 d2 ks=true){k:Nat}(hk:dn k ks=true):dn k ks2=false/\lC k d2=true:=by
 induction ks with
 |nil=>cases hk
 |cons x xs ih=>
  simp only[AN,Bool.and_eq_true,Bool.not_eq_true']at h
  simp only[dn,Bool.or_eq_true]at hk
  rcases hk with hk|hk
  ·rw[Nat.eq_of_beq_eq_true hk];exact h.1
  ·exact ih h.2 hk
theorem AR{d1:Option Nat}{ks:List Nat}(h:AO d1 ks=true){k:Nat}(hk:dn k ks=true):lC k d1=true:=by
 induction ks with
 |nil=>cases hk
 |cons x xs ih=>
  simp only[AO,Bool.and_eq_true]at h
  simp only[dn,Bool.or_eq_true]at hk
  rcases hk with hk|hk
  ·rw[Nat.eq_of_beq_eq_true hk];exact h.1
  ·exact ih h.2 hk
theorem qm{t:Nat}{l:List Nat}(h:t∈l):dn t l=true:=by
 induction l with
 |nil=>simp at h
 |cons x xs ih=>
  simp only[dn,Bool.or_eq_true]
  rcases List.mem_cons.1 h with rfl|h
  ·exact .inl (Nat.beq_refl _)
  ·exact .inr (ih h)
theorem AS{ks1 ks2:List Nat}{d1 d2:Option Nat}(h1:AN ks2 d2 ks1=true)(h2:AO d1 ks2=true)(hd:neO d1 d2=true){l:Nat}(v1:oE ks1 d1 l=true)(v2:oE ks2 d2 l=true):False:=by
 unfold oE at v1 v2
 simp only[Bool.or_eq_true]at v1 v2
 rcases v1 with v1|v1
 ·obtain⟨q1,q2⟩:=AQ h1 v1
  rcases v2 with v2|v2
  ·rw[q1]at v2;cases v2
  ·cases d2 with
   |none=>cases v2
   |some d2=>simp only[lC]at q2 v2;rw[v2]at q2;cases q2
 ·cases d1 with
  |none=>cases v1
  |some d1=>
   simp only at v1
   rcases v2 with v2|v2
   ·have q:=AR h2 v2
    simp only[lC]at q
    rw[v1]at q;cases q
   ·cases d2 with
    |none=>cases v2
    |some d2=>
     simp only[neO]at hd v2
     have e1:=Nat.eq_of_beq_eq_true v1
     have e2:=Nat.eq_of_beq_eq_true v2
     rw[<-e1,<-e2,Nat.beq_refl]at hd
     cases hd
structure Loc(V:Env)(t:Tr):Prop where
 t1:∀ l,t.T l=true->(t.fp V).v=false/\oE (t.fp V).ks t.o.dst l=true
 t2:∀ l,t.TR l=true->oE (t.fp V).ks t.o.dst l=true
 t3:(t.fp V).b=false->t.wh=none
theorem AT{s t:Tr}(hs:Loc V s)(ht:Loc V t)(h:ql (s.fp V) (t.fp V)=true):e6 s t:=by
 unfold ql I5 at h
 simp only[Bool.and_eq_true,Bool.or_eq_true,Bool.not_eq_true',Bool.or_eq_false_iff]at h
 obtain⟨⟨hb1,hb2⟩,h1,h2,h3,h4⟩:=h
 have dis:∀ l,((s.fp V).v=false\/(t.fp V).v=false)->oE (s.fp V).ks s.o.dst l=true->oE (t.fp V).ks t.o.dst l=true->False:=by
  intro l hv v1 v2
  rcases h4 with h4|h4
  ·rcases hv with hv|hv
   ·rw[hv]at h4;exact absurd h4.1 (by simp)
   ·rw[hv]at h4;exact absurd h4.2 (by simp)
  ·exact AS h4.1 h4.2 h3 (by rw[Tr.lD];exact v1) (by rw[Tr.lD];exact v2)
 refine⟨λd hd hm=>?_,λd hd hm=>?_,λd hd hd'=>?_,λl a b=>dis l (.inl (hs.t1 l a).1) (hs.t1 l a).2 (ht.t2 l b),λl a b=>dis l (.inr (ht.t1 l a).1) (hs.t2 l b) (ht.t1 l a).2,λl a b=>dis l (.inl (hs.t1 l a).1) (hs.t1 l a).2 (ht.t1 l b).2,hs.t3 hb1,ht.t3 hb2⟩
 ·have e:(s.fp V).dst=some d:=(Tr.lD s).trans hd
  rw[e]at h1
  simp only[wK,Bool.not_eq_true']at h1
  have:dn d t.re=true:=qm hm
  rw[show(t.fp V).re=t.re from Tr.FN t]at h1
  rw[this]at h1;cases h1
 ·have e:(t.fp V).dst=some d:=(Tr.lD t).trans hd
  rw[e]at h2
  simp only[wK,Bool.not_eq_true']at h2
  have:dn d s.re=true:=qm hm
  rw[show(s.fp V).re=s.re from Tr.FN s]at h2
  rw[this]at h2;cases h2
 ·have e1:(s.fp V).dst=some d:=(Tr.lD s).trans hd
  have e2:(t.fp V).dst=some d:=(Tr.lD t).trans hd'
  rw[e1,e2]at h3
  simp[neO,Nat.beq_refl]at h3
theorem yF{fp:Fp}{an:List Nat}:∀ {acc:List (Fp×List Nat)} {j:Nat},gn fp an acc j=true->∀ k p,acc[k]?=some p->j+k∉an->ql p.1 fp=true:=by
 intro acc
 induction acc with
 |nil=>intro j _ k p h;simp at h
 |cons q acc ih=>
  intro j h k p hk hn
  simp only[gn,Bool.and_eq_true,Bool.or_eq_true]at h
  cases k with
  |zero=>
   simp at hk
   subst hk
   rcases h.1 with h1|h1
   ·exact absurd (nF h1) hn
   ·exact h1
  |succ k=>
   simp at hk
   exact ih h.2 k p hk (by rw[show j+1+k=j+(k+1) by omega];exact hn)
theorem ma{i:Nat}{es:List Edge}(h:jF i es=true):∀ e∈es,Region.binds .any e=true->e.on<i:=by
 induction es with
 |nil=>intro e he;simp at he
 |cons x xs ih=>
  intro e he hb
  simp only[jF,Bool.and_eq_true,Bool.or_eq_true,Bool.not_eq_true']at h
  rcases List.mem_cons.1 he with rfl|he
  ·rcases h.1 with h1|h1
   ·rw[hb]at h1;cases h1
   ·exact Nat.le_of_ble_eq_true h1
  ·exact ih h.2 e he hb
theorem yG{acc:List (Fp×List Nat)}{es:List Edge}{m:Nat}(h:m∈cq acc es):∃ e,e∈es/\Region.binds .any e=true/\(m=e.on\/∃ p,acc[e.on]?=some p/\m∈p.2):=by
 induction es with
 |nil=>simp[cq]at h
 |cons x xs ih=>
  simp only[cq]at h
  cases hb:Region.binds .any x
  ·rw[hb]at h
   obtain⟨e,q1,q2,q3⟩:=ih h
   exact⟨e,by simp[q1],q2,q3⟩
  ·rw[hb]at h
   simp only[cond_true,kb]at h
   have tail:m∈cq acc xs->∃ e,e∈x::xs/\Region.binds .any e=true/\(m=e.on\/∃ p,acc[e.on]?=some p/\m∈p.2):=λh=>by
    obtain⟨e,q1,q2,q3⟩:=ih h
    exact⟨e,by simp[q1],q2,q3⟩
   cases hm:dn x.on (cq acc xs)
   ·rw[hm]at h
    simp only[cond_false,List.mem_cons]at h
    rcases h with h|h
    ·exact⟨x,by simp,hb,.inl h⟩
    ·rcases nO h with h|h
     ·cases ha:acc[x.on]? with
      |none=>rw[ha]at h;simp at h
      |some p=>rw[ha]at h;exact⟨x,by simp,hb,.inr ⟨p,ha,h⟩⟩
     ·exact tail h
   ·rw[hm]at h;exact tail h
theorem sH{σ:St}{ops:List Oper}{o:Oper}{Ky Kn:St->Option R}{r:R}(hk:lv σ ops o Ky Kn=some r):(nN σ ops o=some true/\Ky σ=some r)\/(nN σ ops o=some false/\Kn σ=some r):=by
 unfold lv at hk
 unfold nN
 split at hk
 ·rename_i hg;rw[hg];exact .inl ⟨rfl,hk⟩
 ·rename_i j want hg
  rw[hg]
  simp only
  cases hs:iR ops j with
  |none=>rw[hs]at hk;cases hk
  |some s=>
  rw[hs]at hk
  simp only at hk |-
  split at hk
  ·rename_i b hE
   rw[hE]
   dsimp only
   split at hk
   ·rw[jA hE]at hk
    cases want
    ·exact .inr ⟨rfl,hk⟩
    ·exact .inl ⟨rfl,hk⟩
   ·rw[jA hE]at hk
    cases want
    ·exact .inl ⟨rfl,hk⟩
    ·exact .inr ⟨rfl,hk⟩
  ·rename_i v hE
   rw[hE]
   simp only
   split at hk
   ·rename_i b
    cases b <;> cases want
    ·exact .inl ⟨rfl,hk⟩
    ·exact .inr ⟨rfl,hk⟩
    ·exact .inr ⟨rfl,hk⟩
    ·exact .inl ⟨rfl,hk⟩
   ·rename_i hnb
    refine .inr ⟨?_,hk⟩
    split
    ·rename_i b;exact absurd rfl (hnb b)
    ·rfl
  ·cases hk
end
section
variable {R:Type} {V:Env} {ops:List Oper} {σ0:St}
theorem eH{D:Nat->Bool}:∀ (tr:List Tr) (m:Nat) (σ:St) (t:Tr),bz D (tr++[t]) m σ=bif D (m+tr.length)then t.U (bz D tr m σ)else bz D tr m σ:=by
 intro tr
 induction tr with
 |nil=>intro m σ t;simp only[List.nil_append,bz,List.length_nil,Nat.add_zero]
 |cons s tr ih=>
  intro m σ t
  simp only[List.cons_append,bz,List.length_cons]
  rw[ih,show m+1+tr.length=m+(tr.length+1) by omega]
theorem db{tr:List Tr}{t:Tr}{i:Nat}{s:Tr}(h:(tr++[t])[i]?=some s):(i<tr.length/\tr[i]?=some s)\/(i=tr.length/\s=t):=by
 rcases Nat.lt_or_ge i tr.length with hi|hi
 ·rw[List.getElem?_append_left hi]at h;exact .inl ⟨hi,h⟩
 ·rw[List.getElem?_append_right hi]at h
  cases hk:i-tr.length with
  |zero=>rw[hk]at h;simp at h;exact .inr ⟨by omega,h.symm⟩
  |succ n=>rw[hk]at h;simp at h
theorem GX{tr:List Tr}{i:Nat}{s:Tr}(h:tr[i]?=some s):i<tr.length:=(List.getElem?_eq_some_iff.1 h).1
theorem sI{tr:List Tr}{t:Tr}{i:Nat}{s:Tr}(h:tr[i]?=some s):(tr++[t])[i]?=some s:=by
 rw[List.getElem?_append_left (GX h)];exact h
theorem o5{tr:List Tr}{t:Tr}{i:Nat}(h:i<=tr.length):(tr++[t]).take i=tr.take i:=List.take_append_of_le_length h
section
variable {R':Type} (G:R->Option R')
theorem fG(V:Env)(t:TypeId)(K:Ty->IntKind->Option R):(iQ V t K).bind G=iQ V t λa b=>(K a b).bind G:=by
 unfold iQ
 repeat' split
 all_goals rfl
theorem o6(σ:St)(e:ag)(k v:Ty)(K:List (k.T×v.T)->Option R):(qa σ e k v K).bind G=qa σ e k v λx=>(K x).bind G:=by
 unfold qa
 split
 ·rw[cF]
  congr 1
  funext l b π c
  split <;> rfl
 ·exact aV G _ _ _
theorem lE(σ:St)(e:ag)(k v:Ty)(K:Nat->Lab->List Stp->List (k.T×v.T)->Option R):(oC σ e k v K).bind G=oC σ e k v λl b π x=>(K l b π x).bind G:=by
 unfold oC
 split
 ·rw[cF]
  congr 1
  funext l b π c
  rw[ar]
  congr 1
  split <;> rfl
 ·rfl
theorem iX(σ:St)(l:Nat)(b:Lab)(π:List Stp)(k v:Ty)(y:List (k.T×v.T))(K:St->Option R):(gx σ l b π k v y K).bind G=gx σ l b π k v y λx=>(K x).bind G:=by
 unfold gx
 split
 ·rw[jC]
 ·rfl
theorem yH(V:Env)(σ:St)(o:Oper)(K:St->Option R):(lm V σ o K).bind G=lm V σ o λx=>(K x).bind G:=by
 unfold lm
 split
 ·split
  ·rw[fG]
   congr 1
   funext k q
   rw[ar]
   rfl
  ·rfl
 ·rw[fG]
  congr 1
  funext k q
  split
  ·split
   ·rw[o6]
    congr 1
    funext l
    rw[aV]
    congr 1
    funext y
    split <;> rfl
   ·rfl
  ·rfl
 ·rw[fG]
  congr 1
  funext k q
  split
  ·split
   ·split
    ·rw[lE]
     congr 1
     funext l b π xs
     rw[aV]
     congr 1
     funext y
     rw[aV]
     congr 1
     funext z
     rw[iX]
    ·rfl
   ·rfl
  ·rfl
 ·rw[fG]
  congr 1
  funext k q
  split
  ·split
   ·rw[lE]
    congr 1
    funext l b π xs
    rw[aV]
    congr 1
    funext y
    rw[ar,iX]
    rfl
   ·rfl
  ·rfl
 ·rw[fG]
  congr 1
  funext k q
  split
  ·split
   ·split
    ·rw[lE]
     congr 1
     funext l b π xs
     rw[aV]
     congr 1
     funext y
     rw[ar,aV]
     congr 1
     congr 1
     funext z
     rw[iX]
    ·rfl
   ·rfl
  ·rfl
 ·split
  ·rw[fG]
   congr 1
   funext k q
   split
   ·rw[o6]
    congr 1
    funext l
    rw[ar]
    rfl
   ·rfl
  ·rfl
 ·rfl
end
theorem GY{V:Env}{σ σ':St}{o:Oper}(h:lm V σ o some=some σ'):∀ j,o.dst≠some j->σ'.E j=σ.E j:=by
 have sv:∀ (σ1:St) (e:ag),σ1.E=σ.E->∀ j,o.dst≠some j->(σ1.aW o.dst e).E j=σ.E j:=by
  intro σ1 e h1 j hj
  unfold St.aW
  split
  ·rename_i d hd
   exact(au _ _ (λe=>hj (by rw[hd,e]))).trans (congrFun h1 j)
  ·exact congrFun h1 j
 have stt:∀ (σ1:St) (es:List ag),σ1.E=σ.E->∀ j,o.dst≠some j->(σ1.fP o.dst es).E j=σ.E j:=by
  intro σ1 e h1 j hj
  unfold St.fP
  split
  ·rename_i d hd
   exact(au _ _ (λe=>hj (by rw[hd,e]))).trans (congrFun h1 j)
  ·exact congrFun h1 j
 have su:∀ (σ1:St),σ1.E=σ.E->∀ j,o.dst≠some j->(σ1.fx o.dst).E j=σ.E j:=by
  intro σ1 h1 j hj
  unfold St.fx
  split
  ·rename_i d hd
   exact(au _ _ (λe=>hj (by rw[hd,e]))).trans (congrFun h1 j)
  ·exact congrFun h1 j
 have ms:∀ (l:Nat) (b:Lab) (π:List Stp) (k v:Ty) (y:List (k.T×v.T)) (K:St->Option St),gx σ l b π k v y K=some σ'->∃ L,K (σ.fo L)=some σ':=by
  intro l b π k v y K h
  unfold gx at h
  split at h
  ·rw[dW]at h
   obtain⟨x',_,h⟩:=Option.bind_eq_some_iff.1 h
   exact⟨_,h⟩
  ·cases h
 have mt:∀ (t:TypeId) (K:Ty->IntKind->Option St),iQ V t K=some σ'->∃ k q,K k q=some σ':=by
  intro t K h
  unfold iQ at h
  repeat' split at h
  all_goals first
   |exact⟨_,_,h⟩
   |cases h
 have mr:∀ (e:ag) (k v:Ty) (K:List (k.T×v.T)->Option St),qa σ e k v K=some σ'->∃ x,K x=some σ':=by
  intro e k v K h
  unfold qa at h
  split at h
  ·obtain⟨l,b,π,c,h⟩:=qk h
   split at h
   ·exact⟨_,h⟩
   ·cases h
  ·obtain⟨x,h⟩:=iN h
   exact⟨x,h⟩
 have mw:∀ (e:ag) (k v:Ty) (K:Nat->Lab->List Stp->List (k.T×v.T)->Option St),oC σ e k v K=some σ'->∃ l b π x,K l b π x=some σ':=by
  intro e k v K h
  unfold oC at h
  split at h
  ·obtain⟨l,b,π,c,h⟩:=qk h
   simp only[Bool.cond_eq_ite]at h
   split at h
   ·split at h
    ·exact⟨_,_,_,_,h⟩
    ·cases h
   ·cases h
  ·cases h
 unfold lm at h
 split at h
 ·split at h
  ·rename_i d hd
   obtain⟨k,q,h⟩:=mt _ _ h
   simp only[Bool.cond_eq_ite]at h
   split at h
   ·cases h
   ·injection h with h
    intro j hj
    rw[<-h]
    exact au _ _ (λe=>hj (by rw[hd,e]))
  ·cases h
 ·obtain⟨k,q,h⟩:=mt _ _ h
  split at h
  case h_2=>cases h
  split at h
  case h_2=>cases h
  obtain⟨l,h⟩:=mr _ _ _ _ h
  obtain⟨y,h⟩:=iN h
  split at h
  ·injection h with h;rw[<-h];exact sv σ _ rfl
  ·injection h with h;rw[<-h];exact stt σ _ rfl
 ·obtain⟨k,q,h⟩:=mt _ _ h
  split at h
  case h_2=>cases h
  split at h
  case h_2=>cases h
  split at h
  case h_2=>cases h
  obtain⟨l,b,π,xs,h⟩:=mw _ _ _ _ h
  obtain⟨y,h⟩:=iN h
  obtain⟨z,h⟩:=iN h
  obtain⟨L,h⟩:=ms _ _ _ _ _ _ _ h
  injection h with h;rw[<-h];exact su _ rfl
 ·obtain⟨k,q,h⟩:=mt _ _ h
  split at h
  case h_2=>cases h
  split at h
  case h_2=>cases h
  obtain⟨l,b,π,xs,h⟩:=mw _ _ _ _ h
  obtain⟨y,h⟩:=iN h
  simp only[Bool.cond_eq_ite]at h
  split at h
  case isFalse=>cases h
  obtain⟨L,h⟩:=ms _ _ _ _ _ _ _ h
  injection h with h;rw[<-h];exact stt _ _ rfl
 ·obtain⟨k,q,h⟩:=mt _ _ h
  split at h
  case h_2=>cases h
  split at h
  case h_2=>cases h
  split at h
  case h_2=>cases h
  obtain⟨l,b,π,xs,h⟩:=mw _ _ _ _ h
  obtain⟨s,h⟩:=iN h
  simp only[Bool.cond_eq_ite]at h
  split at h
  case isFalse=>cases h
  obtain⟨z,h⟩:=iN h
  obtain⟨L,h⟩:=ms _ _ _ _ _ _ _ h
  injection h with h;rw[<-h];exact su _ rfl
 ·split at h
  case h_2=>cases h
  obtain⟨k,q,h⟩:=mt _ _ h
  split at h
  case h_2=>cases h
  obtain⟨l,h⟩:=mr _ _ _ _ h
  simp only[Bool.cond_eq_ite]at h
  split at h
  case isFalse=>cases h
  injection h with h;rw[<-h];exact sv σ _ rfl
 ·cases h
theorem GoodP.snoc{tr:List Tr}(G:GoodP V ops tr σ0){t:Tr}(h1:ops[tr.length]?=some t.o)(h2:t.st=bz (λ_=>true) tr 0 σ0)(h3:nN t.st ops t.o=some t.run/\∀ s∈bn ops t.o,s∈t.re)
 (h4:t.run=true->gm V t)
 (h5:t.run=false->∀ σ,σ.aW t.o.dst (.cst undef)=t.U σ) (h6:∀ e,e∈t.o.after->Region.binds .any e=true->e.on<tr.length)
 (h7:∀ m,m∈t.anc->∃ e:Edge,e∈t.o.after/\Region.binds .any e=true/\(m=e.on\/∃ s:Tr,tr[e.on]?=some s/\m∈s.anc))
 (h8:∀ i s,tr[i]?=some s->i∉t.anc->e6 s t) (h9:∀ σ',t.wh=some σ'->∀ j,t.o.dst≠some j->σ'.E j=t.st.E j):GoodP V ops (tr++[t]) σ0 where
 op:=λi s hs=>by
  rcases db hs with⟨_,hs⟩|⟨rfl,rfl⟩
  ·exact G.op i s hs
  ·exact h1
 st:=λi s hs=>by
  rcases db hs with⟨hi,hs⟩|⟨rfl,rfl⟩
  ·rw[o5 (by omega)];exact G.st i s hs
  ·rw[o5 (Nat.le_refl _),List.take_length];exact h2
 gv:=λi s hs=>by
  rcases db hs with⟨_,hs⟩|⟨rfl,rfl⟩
  ·exact G.gv i s hs
  ·exact h3
 run:=λi s hs=>by
  rcases db hs with⟨_,hs⟩|⟨rfl,rfl⟩
  ·exact G.run i s hs
  ·exact h4
 skip:=λi s hs=>by
  rcases db hs with⟨_,hs⟩|⟨rfl,rfl⟩
  ·exact G.skip i s hs
  ·exact h5
 yC:=λi s e hs he hb=>by
  rcases db hs with⟨_,hs⟩|⟨rfl,rfl⟩
  ·exact G.yC i s e hs he hb
  ·exact h6 e he hb
 anc:=λi s m hs hm=>by
  rcases db hs with⟨_,hs⟩|⟨rfl,rfl⟩
  ·obtain⟨q1,e,q2,q3,q4⟩:=G.anc i s m hs hm
   refine⟨q1,e,q2,q3,q4.imp id ?_⟩
   rintro⟨s2,q5,q6⟩
   exact⟨s2,sI q5,q6⟩
  ·obtain⟨e,q2,q3,q4⟩:=h7 m hm
   have hlt:=h6 e q2 q3
   refine⟨?_,e,q2,q3,q4.imp id ?_⟩
   ·rcases q4 with rfl|⟨s2,q5,q6⟩
    ·exact hlt
    ·have:=(G.anc _ s2 m q5 q6).1;omega
   ·rintro⟨s2,q5,q6⟩
    exact⟨s2,sI q5,q6⟩
 wE:=λi s σ' hs hw=>by
  rcases db hs with⟨_,hs⟩|⟨rfl,rfl⟩
  ·exact G.wE i s σ' hs hw
  ·exact h9 σ' hw
 apart:=λi j s u hij hs hu hn=>by
  rcases db hu with⟨hj,hu⟩|⟨rfl,rfl⟩
  ·rcases db hs with⟨_,hs⟩|⟨rfl,rfl⟩
   ·exact G.apart i j s u hij hs hu hn
   ·omega
  ·rcases db hs with⟨_,hs⟩|⟨e,rfl⟩
   ·exact h8 i s hs hn
   ·omega
theorem AU{σ:St}{dst:Option Nat}{e:ag}:σ.aW dst e=⟨match dst with|some d=>upd σ.E d (some (.one e))|none=>σ.E,σ.L,σ.U⟩:=by
 cases dst <;> rfl
theorem uY{K:St->Option R}{r:R}:∀ (rest:List Oper) (i:Nat) (acc:List (Fp×List Nat)) (σ:St) (tr0:List Tr),gp V ops rest i acc σ K=some r->ops.drop i=rest->tr0.length=i->acc=tr0.map (λt=>((t.fp V),t.anc))->σ=bz (λ_=>true) tr0 0 σ0->GoodP V ops tr0 σ0->(∀ t∈tr0,Loc V t)->
 ∃ tr,Good V ops tr σ0/\K (bz (λ_=>true) tr 0 σ0)=some r:=by
 intro rest
 induction rest with
 |nil=>
  intro i acc σ tr0 hk hd hl ha hσ G _
  subst hσ
  have hle:ops.length<=i:=by
   have:=congrArg List.length hd
   simp at this;omega
  have hge:i<=ops.length:=by
   rcases Nat.eq_zero_or_pos tr0.length with h0|h0
   ·omega
   ·have⟨t,ht⟩:∃ t,tr0[tr0.length-1]?=some t:=⟨tr0[tr0.length-1]'(by omega),by simp[show tr0.length-1<tr0.length by omega]⟩
    have:=(List.getElem?_eq_some_iff.1 (G.op _ t ht)).1
    omega
  exact⟨tr0,⟨G,by omega⟩,hk⟩
 |cons o rest ih=>
  intro i acc σ tr0 hk hd hl ha hσ G sD
  have hoi:ops[i]?=some o:=by
   have:=congrArg (·[0]?) hd
   simpa using this
  have hd':ops.drop (i+1)=rest:=by rw[<-List.tail_drop,hd];rfl
  simp only[gp,kb]at hk
  cases hed:jF i o.after.toList
  ·rw[hed]at hk;cases hk
  rw[hed]at hk
  simp only[cond_true]at hk
  have sJ:∀ e,e∈o.after->Region.binds .any e=true->e.on<tr0.length:=λe he hb=>by rw[hl];exact ma hed e (by simpa using he) hb
  have sG:∀ m,m∈cq acc o.after.toList->∃ e:Edge,e∈o.after/\Region.binds .any e=true/\(m=e.on\/∃ s:Tr,tr0[e.on]?=some s/\m∈s.anc):=λm hm=>by
   obtain⟨e,q1,q2,q3⟩:=yG hm
   refine⟨e,by simpa using q1,q2,q3.imp id ?_⟩
   rintro⟨p,q4,q5⟩
   rw[ha,List.getElem?_map]at q4
   obtain⟨s,q6,rfl⟩:=Option.map_eq_some_iff.1 q4
   exact⟨s,q6,q5⟩
  have hap:∀ (t:Tr),Loc V t->t.anc=cq acc o.after.toList->gn (t.fp V) (cq acc o.after.toList) acc 0=true->∀ k s,tr0[k]?=some s->k∉t.anc->e6 s t:=λt ht hta hok k s hs hn=>by
   refine AT (sD s (List.mem_of_getElem? hs)) ht (yF hok k ((s.fp V),s.anc) (by rw[ha,List.getElem?_map,hs];rfl) (by rw[Nat.zero_add,<-hta];exact hn))
  rcases sH hk with⟨hg,hk⟩|⟨hg,hk⟩
  ·cases hmv:mvE σ o with
   |some e0=>
   rw[hmv]at hk
   simp only at hk
   cases hc:gn ⟨true,bn ops o++looks o,o.dst,[],false⟩ (cq acc o.after.toList) acc 0
   ·rw[hc]at hk;cases hk
   rw[hc]at hk
   simp only[cond_true]at hk
   let t:Tr:={o:=o,st:=σ,run:=true,e:=some (.one e0),T:=λ_=>false,L':=λ_=>none,U':=λ_=>false,re:=bn ops o++looks o,TR:=λ_=>false,anc:=cq acc o.after.toList}
   have hfp:(t.fp V)=⟨true,bn ops o++looks o,o.dst,[],false⟩:=by simp[t,Tr.fp,hmv]
   have hlt:Loc V t:=⟨λl hl=>(by cases hl),λl hl=>(by cases hl),λ_=>rfl⟩
   have hU:∀ σ1:St,σ1.aW o.dst e0=t.U σ1:=λσ1=>AU
   refine ih (i+1) _ _ (tr0++[t]) hk hd' (by simp[hl]) (by rw[ha,List.map_append,<-hfp,<-ha];rfl) (by rw[eH,<-hσ];exact hU σ) ?_ (λs hs=>by
    rcases List.mem_append.1 hs with hs|hs
    ·exact sD s hs
    ·simp at hs;rw[hs];exact hlt)
   exact G.snoc (by rw[hl];exact hoi) hσ ⟨hg,λs hs=>List.mem_append.2 (.inl hs)⟩ (λ_=>gm.mv (t:=t) hmv (λx hx=>List.mem_append.2 (.inr hx)) hU) (λh=>(by cases h)) sJ sG (hap t hlt rfl (by rw[hfp];exact hc)) (λ_ h=>by cases h)
   |none=>
   rw[hmv]at hk
   simp only at hk
   cases hmo:dZ V.TT o.op
   case true=>
    rw[hmo]at hk
    simp only[cond_true]at hk
    cases hmk:mkE V o with
    |some p=>
     obtain⟨d,b⟩:=p
     rw[hmk]at hk
     simp only at hk
     cases hU:σ.U (d*8)
     case true=>rw[hU]at hk;cases hk
     rw[hU]at hk
     simp only[cond_false]at hk
     cases hc:gn ⟨false,bn ops o,o.dst,[],false⟩ (cq acc o.after.toList) acc 0
     ·rw[hc]at hk;cases hk
     rw[hc]at hk
     simp only[cond_true]at hk
     obtain⟨hd0,_⟩:=AM hmk
     let t:Tr:={o:=o,st:=σ,run:=true,e:=some (.one (.hdr (d*8) b.v [] ⟨b.t,b.x⟩)),T:=λl=>Nat.beq l (d*8),L':=λ_=>some b,U':=λ_=>true,re:=bn ops o,TR:=λl=>Nat.beq l (d*8),anc:=cq acc o.after.toList}
     have hfp:(t.fp V)=⟨false,bn ops o,o.dst,[],false⟩:=by simp[t,Tr.fp,hmv,hmo]
     have I6:∀ l,Nat.beq l (d*8)=true->oE [] o.dst l=true:=by
      intro l hl
      rw[Nat.eq_of_beq_eq_true hl,hd0]
      simp[oE,dn]
     have hlt:Loc V t:=⟨λl hl=>by rw[hfp];exact⟨rfl,I6 l hl⟩,λl hl=>by rw[hfp];exact I6 l hl,λ_=>rfl⟩
     have hUU:∀ σ1:St,σ1.mk' σ1.L (d*8) d b=t.U σ1:=by
      intro σ1
      have hU1:(λj=>Nat.beq j (d*8)||σ1.U j)=fY (λl=>Nat.beq l (d*8)) (λ_=>true) σ1.U:=by
       funext j
       show _=bif Nat.beq j (d*8)then true else σ1.U j
       cases Nat.beq j (d*8) <;> rfl
      show St.mk _ _ _=St.mk _ _ _
      rw[hU1]
      simp only[t,hd0]
      rfl
     refine ih (i+1) _ _ (tr0++[t]) hk hd' (by simp[hl]) (by rw[ha,List.map_append,<-hfp,<-ha];rfl) (by rw[eH,<-hσ];exact hUU σ) ?_ (λs hs=>by
      rcases List.mem_append.1 hs with hs|hs
      ·exact sD s hs
      ·simp at hs;rw[hs];exact hlt)
     exact G.snoc (by rw[hl];exact hoi) hσ ⟨hg,λs hs=>hs⟩ (λ_=>gm.mk (t:=t) hmk hU (Nat.beq_refl _) hUU) (λh=>(by cases h)) sJ sG (hap t hlt rfl (by rw[hfp];exact hc)) (λ_ h=>by cases h)
    |none=>
     rw[hmk]at hk
     simp only at hk
     cases hc:gn ⟨false,bn ops o,o.dst,[],true⟩ (cq acc o.after.toList) acc 0
     ·rw[hc]at hk;cases hk
     rw[hc]at hk
     simp only[cond_true]at hk
     have hb:=yH (λσ'=>gp V ops rest (i+1) (acc++[(⟨false,bn ops o,o.dst,[],true⟩,cq acc o.after.toList)]) σ' K) V σ o some
     rw[show(lm V σ o λx=>(some x).bind λσ'=>gp V ops rest (i+1) (acc++[(⟨false,bn ops o,o.dst,[],true⟩,cq acc o.after.toList)]) σ' K)=some r from hk]at hb
     obtain⟨σ',hop,hk⟩:=Option.bind_eq_some_iff.1 hb
     let t:Tr:={o:=o,st:=σ,run:=true,e:=none,T:=λ_=>false,L':=λ_=>none,U':=λ_=>false,re:=bn ops o,TR:=λ_=>false,anc:=cq acc o.after.toList,wh:=some σ'}
     have hfp:(t.fp V)=⟨false,bn ops o,o.dst,[],true⟩:=by simp[t,Tr.fp,hmv,hmo]
     have hlt:Loc V t:=⟨λl hl=>(by cases hl),λl hl=>(by cases hl),λh=>by rw[hfp]at h;cases h⟩
     refine ih (i+1) _ _ (tr0++[t]) hk hd' (by simp[hl]) (by rw[ha,List.map_append,<-hfp,<-ha];rfl) (by rw[eH];rfl) ?_ (λs hs=>by
      rcases List.mem_append.1 hs with hs|hs
      ·exact sD s hs
      ·simp at hs;rw[hs];exact hlt)
     exact G.snoc (by rw[hl];exact hoi) hσ ⟨hg,λs hs=>hs⟩ (λ_=>gm.wh (t:=t) rfl hop) (λh=>(by cases h)) sJ sG (hap t hlt rfl (by rw[hfp];exact hc)) (λσ2 h=>by injection h with h;rw[<-h];exact GY hop)
   rw[hmo]at hk
   simp only[cond_false]at hk
   cases hc:calm V o&&gn ⟨isV V o,bn ops o++looks o,o.dst,fR σ (looks o),false⟩ (cq acc o.after.toList) acc 0
   ·rw[hc]at hk;cases hk
   rw[hc]at hk
   simp only[cond_true]at hk
   simp only[Bool.and_eq_true]at hc
   have hb:=sy (λσ'=>bif ij (cX σ o) o.dst σ' then gp V ops rest (i+1) (acc++[(⟨isV V o,bn ops o++looks o,o.dst,fR σ (looks o),false⟩,cq acc o.after.toList)]) (nP V σ o σ') K else none) V (iW σ o) o some
   rw[show(opD V (iW σ o) o λe=>(some e).bind λσ'=>bif ij (cX σ o) o.dst σ' then gp V ops rest (i+1) (acc++[(⟨isV V o,bn ops o++looks o,o.dst,fR σ (looks o),false⟩,cq acc o.after.toList)]) (nP V σ o σ') K else none)=some r from hk]at hb
   obtain⟨σ',hop,hk⟩:=Option.bind_eq_some_iff.1 hb
   cases hin:ij (cX σ o) o.dst σ'
   ·rw[hin]at hk;cases hk
   rw[hin]at hk
   simp only[cond_true]at hk
   let t:Tr:={o:=o,st:=σ,run:=true,e:=match o.dst with|some d=>σ'.E d|none=>none,T:=λl=>bif isV V o then false else cX σ o l,L':=σ'.L,U':=σ'.U,re:=bn ops o++looks o,TR:=cX σ o,anc:=cq acc o.after.toList}
   have hfp:(t.fp V)=⟨isV V o,bn ops o++looks o,o.dst,fR σ (looks o),false⟩:=by simp[t,Tr.fp,hmv,hmo]
   have hlt:Loc V t:=by
    refine⟨λl hl=>?_,λl hl=>by rw[hfp];exact hl,λ_=>rfl⟩
    rw[hfp]
    simp only[t]at hl
    cases hv:isV V o
    ·rw[hv]at hl;exact⟨rfl,hl⟩
    ·rw[hv]at hl;cases hl
   have hU:∀ σ1,Ag t σ1 σ->kC (cX σ o) o.dst σ1 σ'=t.U σ1:=by
    intro σ1 hag
    have hE:iU σ1.E o.dst σ'.E=match o.dst with|some d=>upd σ1.E d (match o.dst with|some d=>σ'.E d|none=>none)|none=>σ1.E:=by
     unfold iU
     cases o.dst <;> rfl
    unfold kC Tr.U
    simp only[t]
    cases hv:isV V o
    ·simp only[cond_false]
     rw[hE]
     try rfl
    ·simp only[cond_true]
     obtain⟨he1,he2⟩:=DE hv hop
     have e1:σ'.L=fj σ.L (cX σ o):=he1
     have e2:σ'.U=fk σ.U (cX σ o):=he2
     have f1:gJ (cX σ o) σ'.L σ1.L=gJ (λ_=>false) σ'.L σ1.L:=by
      funext l
      unfold gJ
      cases hvl:cX σ o l
      ·rfl
      ·rw[e1];simp only[fj,hvl,cond_true,cond_false];exact(hag.2 l hvl).1.symm
     have f2:fY (cX σ o) σ'.U σ1.U=fY (λ_=>false) σ'.U σ1.U:=by
      funext l
      unfold fY
      cases hvl:cX σ o l
      ·rfl
      ·rw[e2];simp only[fk,hvl,cond_true,cond_false];exact(hag.2 l hvl).2.symm
     rw[hE,f1,f2]
     try rfl
   have AV:nP V σ o σ'=t.U σ:=by
    unfold nP
    cases hv:isV V o
    ·exact hU σ (Ag.refl _ _)
    ·simp only[cond_true,Tr.U,t,hv]
     unfold iU
     cases o.dst <;> rfl
   refine ih (i+1) _ _ (tr0++[t]) hk hd' (by simp[hl]) (by rw[ha,List.map_append,<-hfp,<-ha];rfl) (by rw[eH,<-hσ];exact AV) ?_ (λs hs=>by
    rcases List.mem_append.1 hs with hs|hs
    ·exact sD s hs
    ·simp at hs;rw[hs];exact hlt)
   exact G.snoc (by rw[hl];exact hoi) hσ ⟨hg,λs hs=>List.mem_append.2 (.inl hs)⟩ (λ_=>gm.of (t:=t) ⟨λx hx=>List.mem_append.2 (.inr hx),λl hl=>hl,hc.1,σ',hop,hin,hU⟩) (λh=>(by cases h)) sJ sG (hap t hlt rfl (by rw[hfp];exact hc.2)) (λ_ h=>by cases h)
  ·cases hc:gn ⟨true,bn ops o,o.dst,[],false⟩ (cq acc o.after.toList) acc 0
   ·rw[hc]at hk;cases hk
   rw[hc]at hk
   simp only[cond_true]at hk
   let t:Tr:={o:=o,st:=σ,run:=false,e:=some (.one (.cst undef)),T:=λ_=>false,L':=λ_=>none,U':=λ_=>false,re:=bn ops o,TR:=λ_=>false,anc:=cq acc o.after.toList}
   have hfp:(t.fp V)=⟨true,bn ops o,o.dst,[],false⟩:=by simp[t,Tr.fp]
   have hlt:Loc V t:=⟨λl hl=>(by cases hl),λl hl=>(by cases hl),λ_=>rfl⟩
   have hU:∀ σ1:St,σ1.aW o.dst (.cst undef)=t.U σ1:=λσ1=>AU
   refine ih (i+1) _ _ (tr0++[t]) hk hd' (by simp[hl]) (by rw[ha,List.map_append,<-hfp,<-ha];rfl) (by rw[eH,<-hσ];exact hU σ) ?_ (λs hs=>by
    rcases List.mem_append.1 hs with hs|hs
    ·exact sD s hs
    ·simp at hs;rw[hs];exact hlt)
   exact G.snoc (by rw[hl];exact hoi) hσ ⟨hg,λs hs=>hs⟩ (λh=>(by cases h)) (λ_=>hU) sJ sG (hap t hlt rfl (by rw[hfp];exact hc)) (λ_ h=>by cases h)
end
inductive Alt where
 |leaf (perm:List Nat)
 |split (i j:Nat) (a b:Alt)
def mo(q:Nat):List Nat->Nat
 |[]=>0
 |x::xs=>bif Nat.beq x q then 0 else mo q xs+1
def nQ:List Edge->List Nat
 |[]=>[]
 |e::es=>bif Region.binds .any e then e.on::nQ es else nQ es
def uZ(q:Nat):List (Nat×Nat)->List Nat
 |[]=>[]
 |p::ps=>bif Nat.beq p.2 q then p.1::uZ q ps else uZ q ps
def jG(perm:List Nat):List Nat->List Edge
 |[]=>[]
 |m::ms=>⟨mo m perm,.phase⟩::jG perm ms
def reO(perm:List Nat)(ex:List (Nat×Nat))(q:Nat)(o:Oper):Oper:={o with after:=(jG perm (nQ o.after.toList++uZ q ex)).toArray}
def dE(ops:List Oper)(perm:List Nat)(ex:List (Nat×Nat)):List Nat->List Oper
 |[]=>[]
 |q::qs=>match ops[q]? with|some o=>reO perm ex q o::dE ops perm ex qs|none=>dE ops perm ex qs
def gL:List Oper->Bool
 |[]=>true
 |o::os=>(match o.guard with|none=>true|some _=>false)&&gL os
def wM(n:Nat):List Nat->Bool
 |[]=>true
 |x::xs=>Nat.blt x n&&wM n xs
def qn:List Nat->Bool
 |[]=>true
 |x::xs=>!dn x xs&&qn xs
def iY(ops:List Oper):Nat->List Oper->Bool
 |_,[]=>true
 |i,o::os=>jF i o.after.toList&&iY ops (i+1) os
def qo(l:List Nat):Nat->Bool
 |0=>true
 |k+1=>dn k l&&qo l k
def u0(n:Nat)(perm:List Nat):Bool:=Nat.beq perm.length n&&(wM n perm&&(qn perm&&qo perm n))
def yI{R:Type}(V:Env)(ops:List Oper)(σ:St)(K:St->Option R):Alt->List (Nat×Nat)->Option R
 |.leaf perm,ex=>bif u0 ops.length perm then gp V (dE ops perm ex perm) (dE ops perm ex perm) 0 [] σ K else none
 |.split i j a b,ex=>bif Nat.blt i ops.length&&(Nat.blt j ops.length&&!Nat.beq i j)then rO (yI V ops σ K a ((i,j)::ex)) (yI V ops σ K b ((j,i)::ex))else none
def GZ{R:Type}(V:Env)(ops:List Oper)(σ:St)(K:St->Option R)(t:Alt):Option R:=
 bif gL ops&&iY ops 0 ops then yI V ops σ K t []else none
def Lin(E:Nat->Nat->Prop)(n:Nat)(D:Nat->Prop):List Nat->Prop
 |[]=>∀ k,k<n->D k
 |i::r=>i<n/\¬D i/\(∀ m,m<n->E m i->D m)/\Lin E n (λk=>D k\/k=i) r
section
variable {E E':Nat->Nat->Prop} {n:Nat}
theorem Lin.congr:∀ {r:List Nat} {D D':Nat->Prop},(∀ k,k<n->(D k↔D' k))->Lin E n D r->Lin E n D' r:=by
 intro r
 induction r with
 |nil=>intro D D' h hl k hk;exact(h k hk).1 (hl k hk)
 |cons i r ih=>
  intro D D' h hl
  obtain⟨h1,h2,h3,h4⟩:=hl
  exact⟨h1,λhd=>h2 ((h i h1).2 hd),λm hm he=>(h m hm).1 (h3 m hm he),ih (λk hk=>or_congr (h k hk) Iff.rfl) h4⟩
theorem Lin.add{i j:Nat}:∀ {r:List Nat} {D:Nat->Prop},D i->Lin E n D r->Lin (λm k=>E m k\/(m=i/\k=j)) n D r:=by
 intro r
 induction r with
 |nil=>intro D _ h;exact h
 |cons x r ih=>
  intro D hD h
  obtain⟨h1,h2,h3,h4⟩:=h
  exact⟨h1,h2,λm hm he=>he.elim (h3 m hm) (λe=>e.1 ▸ hD),ih (.inl hD) h4⟩
theorem Lin.split{i j:Nat}(hij:i≠j)(hi:i<n)(hj:j<n):∀ {r:List Nat} {D:Nat->Prop},¬D i->¬D j->Lin E n D r->Lin (λm k=>E m k\/(m=i/\k=j)) n D r\/Lin (λm k=>E m k\/(m=j/\k=i)) n D r:=by
 intro r
 induction r with
 |nil=>intro D h1 _ h;exact absurd (h i hi) h1
 |cons x r ih=>
  intro D hi' hj' h
  obtain⟨h1,h2,h3,h4⟩:=h
  by_cases ei:x=i
  ·subst ei
   exact .inl ⟨h1,h2,λm hm he=>he.elim (h3 m hm) (λe=>absurd e.2 hij),Lin.add (.inr rfl) h4⟩
  ·by_cases ej:x=j
   ·subst ej
    exact .inr ⟨h1,h2,λm hm he=>he.elim (h3 m hm) (λe=>absurd e.2 (Ne.symm hij)),Lin.add (.inr rfl) h4⟩
   ·rcases ih (D:=λk=>D k\/k=x) (λh=>h.elim hi' (λe=>ei e.symm)) (λh=>h.elim hj' (λe=>ej e.symm)) h4 with h4|h4
    ·exact .inl ⟨h1,h2,λm hm he=>he.elim (h3 m hm) (λe=>absurd e.2 ej),h4⟩
    ·exact .inr ⟨h1,h2,λm hm he=>he.elim (h3 m hm) (λe=>absurd e.2 ei),h4⟩
theorem Lin.mono(hE:∀ m k,E' m k->E m k):∀ {r:List Nat} {D:Nat->Prop},Lin E n D r->Lin E' n D r:=by
 intro r
 induction r with
 |nil=>intro D h;exact h
 |cons x r ih=>intro D h;exact⟨h.1,h.2.1,λm hm he=>h.2.2.1 m hm (hE _ _ he),ih h.2.2.2⟩
theorem Lin.map{π inv:Nat->Nat}(hπ:∀ k,k<n->π k<n)(hinv:∀ k,k<n->inv k<n)(hl:∀ k,k<n->π (inv k)=k)(hr:∀ k,k<n->inv (π k)=k):∀ {r:List Nat} {D:Nat->Prop},Lin E n D r->Lin (λm k=>E (π m) (π k)) n (λk=>D (π k)) (r.map inv):=by
 intro r
 induction r with
 |nil=>intro D h k hk;exact h _ (hπ k hk)
 |cons x r ih=>
  intro D h
  obtain⟨h1,h2,h3,h4⟩:=h
  refine⟨hinv x h1,by show ¬D (π (inv x));rw[hl x h1];exact h2,λm hm he=>h3 _ (hπ m hm) (by have he:E (π m) (π (inv x)):=he;rw[hl x h1]at he;exact he),?_⟩
  refine(ih h4).congr (λk hk=>or_congr Iff.rfl ⟨λe=>by rw[<-e,hr k hk],λe=>by rw[e,hl x h1]⟩)
end
section
variable {P:Program} {ops I7:Array Oper} {Q:Exit->Act->World->Prop}
theorem yJ{E:Nat->Nat->Prop}(hE:∀ (i:Nat) (o:Oper) (e:Edge),ops[i]?=some o->e∈o.after->Region.binds .any e=true->E e.on i/\e.on<ops.size):∀ (r:List Nat) (aP:Nat) (listed:Array Bool) (a:Act) (w:World),listed.size=ops.size->Lin E ops.size (λk=>listed.getD k false=true) r->wpAny P .any ops Q aP listed a w->wpOps P ops Q r a w:=by
 have set:∀ (listed:Array Bool) (i k:Nat),i<listed.size->((listed.setIfInBounds i true).getD k false=true↔(listed.getD k false=true\/k=i)):=by
  intro listed i k hi
  by_cases e:k=i
  ·subst e
   simp[hi]
  ·rw[getD_set_ne false (Ne.symm e)]
   exact⟨.inl,λh=>h.resolve_right e⟩
 intro r
 induction r with
 |nil=>
  intro aP listed a w hs hl h
  have hr:Region.ready .any ops listed=[]:=by
   cases hr:Region.ready .any ops listed with
   |nil=>rfl
   |cons i is=>
    exfalso
    have hm:i∈Region.ready .any ops listed:=by rw[hr];simp
    obtain⟨h1,o,h2,_⟩:=mem_ready.1 hm
    have hi:i<ops.size:=(Array.getElem?_eq_some_iff.1 h2).1
    have:=hl i hi
    rw[Array.getD_eq_getD_getElem?]at h1 this
    simp[show i<listed.size by omega]at h1 this
    rw[this]at h1;cases h1
  cases aP with
  |zero=>exact h.2
  |succ aP=>exact h.1 hr
 |cons i r ih=>
  intro aP listed a w hs hl h
  obtain⟨h1,h2,h3,h4⟩:=hl
  have ho:ops[i]?=some ops[i]:=Array.getElem?_eq_getElem h1
  have hm:i∈Region.ready .any ops listed:=by
   rw[mem_ready]
   refine⟨?_,ops[i],ho,λe he hb=>?_⟩
   ·have h2:¬listed.getD i false=true:=h2
    rw[Array.getD_eq_getD_getElem?]at h2 |-
    simp[show i<listed.size by omega]at h2 |-
    exact h2
   ·obtain⟨q1,q2⟩:=hE i _ e ho he hb
    exact h3 _ q2 q1
  cases aP with
  |zero=>rw[h.1]at hm;cases hm
  |succ aP=>
   rw[wpOps_cons]
   refine wpOp_mono (λa' w' h'=>?_) (h.2 i hm)
   exact ih aP _ a' w' (by simpa using hs) (h4.congr (λk _=>(set listed i k (by omega)).symm)) h'
theorem yK{inv:Nat->Nat}{n:Nat}(h:∀ i,i<n->∃ o o',ops[i]?=some o/\I7[inv i]?=some o'/\o'.dst=o.dst/\o'.op=o.op/\o'.type=o.type/\o'.pos=o.pos/\o.guard=none/\o'.guard=none):∀ (r:List Nat) (a:Act) (w:World),(∀ i∈r,i<n)->wpOps P I7 Q (r.map inv) a w->wpOps P ops Q r a w:=by
 intro r
 induction r with
 |nil=>intro a w _ h;exact h
 |cons i r ih=>
  intro a w hr hw
  obtain⟨o,o',h1,h2,e1,e2,e3,e4,g,g'⟩:=h i (hr i (by simp))
  rw[List.map_cons,wpOps_cons]at hw
  rw[wpOps_cons]
  have hw:=wpOp_mono (λa w h=>ih a w (λi hi=>hr i (by simp[hi])) h) hw
  unfold wpOp at hw |-
  rw[h2]at hw
  rw[h1]
  simp only[Region.wanted,g,g',if_true]at hw |-
  have hx:o={o' with after:=o.after}:=by
   cases o;cases o'
   simp only at e1 e2 e3 e4 g g'
   subst e1;subst e2;subst e3;subst e4;subst g;subst g'
   rfl
  rw[hx]
  exact hw
theorem qp{l:List Oper}(h:gL l=true):∀ o∈l,o.guard=none:=by
 induction l with
 |nil=>intro o ho;simp at ho
 |cons x xs ih=>
  simp only[gL,Bool.and_eq_true]at h
  intro o ho
  rcases List.mem_cons.1 ho with rfl|ho
  ·cases hg:o.guard with
   |none=>rfl
   |some g=>rw[hg]at h;exact absurd h.1 (by simp)
  ·exact ih h.2 o ho
theorem qq{os0:List Oper}:∀ {l:List Oper} {i:Nat},iY os0 i l=true->∀ k o,l[k]?=some o->∀ e∈o.after,Region.binds .any e=true->e.on<i+k:=by
 intro l
 induction l with
 |nil=>intro i _ k o h;simp at h
 |cons x xs ih=>
  intro i h k o hk e he hb
  simp only[iY,Bool.and_eq_true]at h
  cases k with
  |zero=>
   simp at hk
   subst hk
   exact ma h.1 e (by simpa using he) hb
  |succ k=>
   simp at hk
   have:=ih h.2 k o hk e he hb
   omega
theorem yL{n:Nat}{l:List Nat}(h:wM n l=true):∀ x∈l,x<n:=by
 induction l with
 |nil=>intro x hx;simp at hx
 |cons y ys ih=>
  simp only[wM,Bool.and_eq_true]at h
  intro x hx
  rcases List.mem_cons.1 hx with rfl|hx
  ·exact Nat.le_of_ble_eq_true h.1
  ·exact ih h.2 x hx
theorem yM{l:List Nat}(h:qn l=true):l.Nodup:=by
 induction l with
 |nil=>simp
 |cons x xs ih=>
  simp only[qn,Bool.and_eq_true,Bool.not_eq_true']at h
  refine List.nodup_cons.2 ⟨λhm=>?_,ih h.2⟩
  rw[qm hm]at h
  exact absurd h.1 (by simp)
theorem gM{q:Nat}:∀ {l:List Nat},q∈l->l[mo q l]?=some q:=by
 intro l
 induction l with
 |nil=>intro h;simp at h
 |cons x xs ih=>
  intro h
  simp only[mo]
  cases hb:Nat.beq x q
  ·have hne:q≠x:=λe=>by rw[e,Nat.beq_refl]at hb;cases hb
   simp only[cond_false,List.getElem?_cons_succ]
   exact ih ((List.mem_cons.1 h).resolve_left hne)
  ·simp only[cond_true,List.getElem?_cons_zero]
   rw[Nat.eq_of_beq_eq_true hb]
theorem yN{m:Nat}{es:List Edge}(h:m∈nQ es):∃ e∈es,Region.binds .any e=true/\e.on=m:=by
 induction es with
 |nil=>simp[nQ]at h
 |cons x xs ih=>
  simp only[nQ]at h
  cases hb:Region.binds .any x
  ·rw[hb]at h
   obtain⟨e,q1,q2⟩:=ih h
   exact⟨e,by simp[q1],q2⟩
  ·rw[hb]at h
   rcases List.mem_cons.1 h with rfl|h
   ·exact⟨x,by simp,hb,rfl⟩
   ·obtain⟨e,q1,q2⟩:=ih h
    exact⟨e,by simp[q1],q2⟩
theorem AW{m q:Nat}{ps:List (Nat×Nat)}(h:m∈uZ q ps):(m,q)∈ps:=by
 induction ps with
 |nil=>simp[uZ]at h
 |cons x xs ih=>
  simp only[uZ]at h
  cases hb:Nat.beq x.2 q
  ·rw[hb]at h
   simp only[cond_false]at h
   simp[ih h]
  ·rw[hb]at h
   have e:=Nat.eq_of_beq_eq_true hb
   rcases List.mem_cons.1 h with rfl|h
   ·rw[<-e];simp
   ·simp[ih h]
theorem sK{perm:List Nat}{e:Edge}:∀ {ms:List Nat},e∈jG perm ms->∃ m∈ms,e.on=mo m perm:=by
 intro ms
 induction ms with
 |nil=>intro h;simp[jG]at h
 |cons x xs ih=>
  intro h
  simp only[jG,List.mem_cons]at h
  rcases h with rfl|h
  ·exact⟨x,by simp,rfl⟩
  ·obtain⟨m,q1,q2⟩:=ih h
   exact⟨m,by simp[q1],q2⟩
theorem u9{ops:List Oper}{perm:List Nat}{ex:List (Nat×Nat)}:∀ {qs:List Nat},(∀ q∈qs,q<ops.length)->(dE ops perm ex qs).length=qs.length/\∀ (k q:Nat),qs[k]?=some q->∃ o,ops[q]?=some o/\(dE ops perm ex qs)[k]?=some (reO perm ex q o):=by
 intro qs
 induction qs with
 |nil=>intro _;exact⟨rfl,λk q h=>by simp at h⟩
 |cons x xs ih=>
  intro h
  obtain⟨i1,i2⟩:=ih (λq hq=>h q (by simp[hq]))
  have hx:ops[x]?=some (ops[x]'(h x (by simp))):=List.getElem?_eq_getElem _
  simp only[dE,hx]
  refine⟨by simp[i1],λk q hk=>?_⟩
  cases k with
  |zero=>simp at hk;subst hk;exact⟨_,hx,rfl⟩
  |succ k=>simp at hk;obtain⟨o,q1,q2⟩:=i2 k q hk;exact⟨o,q1,by simpa using q2⟩
end
theorem vd{l:List Nat}:∀ {n:Nat},qo l n=true->∀ q,q<n->q∈l:=by
 intro n
 induction n with
 |zero=>intro _ q hq;omega
 |succ n ih=>
  intro h q hq
  simp only[qo,Bool.and_eq_true]at h
  by_cases e:q=n
  ·subst e;exact sF h.1
  ·exact ih h.2 q (by omega)
theorem mG{q:Nat}:∀ {l:List Nat},q∈l->mo q l<l.length:=λ{l} h=>(List.getElem?_eq_some_iff.1 (gM h)).1
theorem ve{l:List Nat}(hn:l.Nodup){k q:Nat}(h:l[k]?=some q):mo q l=k:=by
 have hm:=List.mem_of_getElem? h
 have h1:=gM hm
 have hk:=(List.getElem?_eq_some_iff.1 h).1
 exact(List.getElem?_inj (mG hm) hn).1 (h1.trans h.symm)
section
variable {P:Program} {ops:Array Oper}
def Eo(ops:Array Oper)(m k:Nat):Prop:=∃ o e,ops[k]?=some o/\e∈o.after/\Region.binds .any e=true/\e.on=m
theorem G0(hE:∀ (k:Nat) (o:Oper) (e:Edge),ops[k]?=some o->e∈o.after->Region.binds .any e=true->e.on<k):∀ (aP t:Nat) (listed:Array Bool),listed.size=ops.size->(List.range ops.size).countP (λk=>!listed.getD k false)<=aP->Lin (Eo ops) ops.size (λk=>listed.getD k false=true) (Region.linearise.go .any ops aP t listed []):=by
 have set:∀ (listed:Array Bool) (i k:Nat),i<listed.size->((listed.setIfInBounds i true).getD k false=true↔(listed.getD k false=true\/k=i)):=by
  intro listed i k hi
  by_cases e:k=i
  ·subst e
   simp[hi]
  ·rw[getD_set_ne false (Ne.symm e)]
   exact⟨.inl,λh=>h.resolve_right e⟩
 intro aP
 induction aP with
 |zero=>
  intro t listed hs hc
  intro k hk
  have h0:(List.range ops.size).countP (λk=>!listed.getD k false)=0:=by omega
  rw[List.countP_eq_zero]at h0
  have:=h0 k (by simpa using hk)
  simpa using this
 |succ aP ih=>
  intro t listed hs hc
  simp only[Region.linearise.go]
  change Lin (Eo ops) ops.size (λk=>listed.getD k false=true) (match(Region.ready .any ops listed)[t % (Region.ready .any ops listed).length]? with
   |some i=>Region.linearise.go .any ops aP (t / (Region.ready .any ops listed).length) (listed.setIfInBounds i true) [i]
   |none=>[].reverse)
  cases hi:(Region.ready .any ops listed)[t % (Region.ready .any ops listed).length]? with
  |none=>
   have zZ:Region.ready .any ops listed=[]:=by
    cases hr:Region.ready .any ops listed with
    |nil=>rfl
    |cons x xs=>
     rw[hr]at hi
     have hlt:t % (x::xs).length<(x::xs).length:=Nat.mod_lt _ (by simp)
     simp at hi
     simp at hlt
     omega
   show ∀ k,k<ops.size->_
   intro k
   induction k using Nat.strongRecOn with
   |_ k ihk=>
    intro hk
    show listed.getD k false=true
    cases hl:listed.getD k false with
    |true=>rfl
    |false=>
     exfalso
     have:k∈Region.ready .any ops listed:=by
      rw[mem_ready]
      refine⟨?_,ops[k],Array.getElem?_eq_getElem hk,λe he hb=>?_⟩
      ·rw[Array.getD_eq_getD_getElem?]at hl |-
       simp[show k<listed.size by omega]at hl |-
       exact hl
      ·have:=hE k _ e (Array.getElem?_eq_getElem hk) he hb
       exact ihk e.on this (by omega)
     rw[zZ]at this
     simp at this
  |some i=>
   simp only[]
   rw[linearise_go_acc,List.reverse_singleton,List.singleton_append]
   have hm:=List.mem_of_getElem? hi
   obtain⟨h1,o,h2,h3⟩:=mem_ready.1 hm
   have yE:i<ops.size:=(Array.getElem?_eq_some_iff.1 h2).1
   have hlf:listed.getD i false=false:=by
    rw[Array.getD_eq_getD_getElem?]at h1 |-
    simp[show i<listed.size by omega]at h1 |-
    exact h1
   refine⟨yE,by show ¬listed.getD i false=true;rw[hlf];simp,?_,?_⟩
   ·rintro m hm' ⟨o',e,q1,q2,q3,rfl⟩
    rw[h2]at q1
    injection q1 with q1
    subst q1
    exact h3 e q2 q3
   ·have:=o4 (p:=λk=>!listed.getD k false) (p':=λk=>!(listed.setIfInBounds i true).getD k false) (l:=List.range ops.size) (i:=i) (λk hk=>by
     cases hl:listed.getD k false with
     |false=>rfl
     |true=>rw[getD_set_true hl]at hk;simp at hk) (by simpa using yE) (by simp only[hlf];rfl) (by simp[show i<listed.size by omega])
    exact(ih _ (listed.setIfInBounds i true) (by simpa using hs) (by omega)).congr (λk _=>set listed i k (by omega))
end
section
variable {P:Program} {B:bO} {V:Env} {σ:St} {a:Act} {w:World} {R:Type}
theorem G1{V:Env}{ops:List Oper}{tr:List Tr}{σ:St}(G:GoodP V ops tr σ){j:Nat}(h:∀ t∈tr,t.o.dst≠some j):∀ n,n<=tr.length->(bz (λ_=>true) (tr.take n) 0 σ).E j=σ.E j:=by
 intro n
 induction n with
 |zero=>intro _;rfl
 |succ n ih=>
  intro hn
  have hg:tr[n]?=some tr[n]:=List.getElem?_eq_getElem hn
  have hst:=G.st n _ hg
  have hw:=G.wE n tr[n]
  have hm:=h _ (List.getElem_mem hn)
  rw[List.take_add_one,hg]
  generalize tr[n]=t at *
  simp only[Option.toList]
  rw[eH,<-hst]
  simp only[cond_true]
  rw[<-hst]at ih
  rw[<-ih (by omega)]
  cases hw':t.wh with
  |some σ'=>simp only[Tr.U,hw'];exact hw σ' hg hw' j hm
  |none=>
   simp only[Tr.U,hw']
   cases hd:t.o.dst with
   |none=>rfl
   |some d=>exact au _ _ (λe=>hm (by rw[hd,e]))
theorem o7{ops:List Oper}{j:Nat}(h:da ops j=false):∀ o∈ops,o.dst≠some j:=by
 induction ops with
 |nil=>intro o ho;simp at ho
 |cons x xs ih=>
  simp only[da,Bool.or_eq_false_iff]at h
  intro o ho
  rcases List.mem_cons.1 ho with rfl|ho
  ·intro e
   rw[e]at h
   simp[Nat.beq_refl]at h
  ·exact ih h.2 o ho
theorem vf:∀ (tr:List Tr) (m:Nat) (σ:St),bz (λ_=>false) tr m σ=σ:=by
 intro tr
 induction tr with
 |nil=>intro m σ;rfl
 |cons t tr ih=>intro m σ;simp only[bz,cond_false];exact ih _ _
theorem yO{N:Nat}{ops:List Oper}(h:dx N ops=true):∀ o∈ops,∀ d,o.dst=some d->d<N:=by
 induction ops with
 |nil=>intro o ho;simp at ho
 |cons x xs ih=>
  simp only[dx,Bool.and_eq_true]at h
  intro o ho d hd
  rcases List.mem_cons.1 ho with rfl|ho
  ·rw[hd]at h;exact Nat.le_of_ble_eq_true h.1
  ·exact ih h.2 o ho d hd
theorem AX{N:Nat}{ops:List Oper}(h:∀ o∈ops,∀ d,o.dst=some d->d<N):dx N ops=true:=by
 induction ops with
 |nil=>rfl
 |cons x xs ih=>
  simp only[dx,Bool.and_eq_true]
  refine⟨?_,ih (λo ho=>h o (by simp[ho]))⟩
  cases hd:x.dst with
  |none=>rfl
  |some d=>exact Nat.ble_eq_true_of_le (h x (by simp) d hd)
theorem sL(hV:cE P V){ops:Array Oper}(hN:dx B.N ops.toList=true){K:St->Option R}{r:R}(hk:gp V ops.toList ops.toList 0 [] σ K=some r)(h:Inv B σ a w){Q:Exit->Act->World->Prop}(hQ:∀ σ' a' w',K σ'=some r->Inv B σ' a' w'->ES σ σ' (da ops.toList)->Q .normal a' w'):
 wpAny P .any ops Q ops.size (Array.replicate ops.size false) a w:=by
 obtain⟨tr,G,hK⟩:=uY (σ0:=σ) ops.toList 0 [] σ [] hk rfl rfl rfl rfl
  {op:=λi t h=>(by simp at h),st:=λi t h=>(by simp at h),gv:=λi t h=>(by simp at h),run:=λi t h=>(by simp at h),skip:=λi t h=>(by simp at h),yC:=λi t e h=>(by simp at h),anc:=λi t m h=>(by simp at h),apart:=λi j s t _ h=>(by simp at h),wE:=λi t σ' h=>(by simp at h)} (λt ht=>(by simp at ht))
 have hES:ES σ (bz (λ_=>true) tr 0 σ) (da ops.toList):=by
  intro j hj
  refine .inl ((congrArg (λl=>(bz (λ_=>true) l 0 σ).E j) (List.take_length (l:=tr)).symm).trans (G1 G.toGoodP (λt ht=>?_) tr.length (Nat.le_refl _)))
  obtain⟨i,hi⟩:=List.mem_iff_getElem?.1 ht
  exact o7 hj t.o (List.mem_of_getElem? (G.op i t hi))
 refine DG G hV hN (B:=B) (λa' w' h'=>hQ _ a' w' hK h' hES) ops.size _ a _ (by simp) (λi t e _ hl=>?_) ?_ ?_
 ·simp[Array.getD_eq_getD_getElem?,Array.getElem?_replicate]at hl
  split at hl <;> simp at hl
 ·exact Nat.le_trans List.countP_le_length (by simp)
 ·rw[show bz (λk=>(Array.replicate ops.size false).getD k false) tr 0 σ=σ by
   refine(lB tr 0 σ (D':=λ_=>false) (λk _ _=>?_)).trans (vf tr 0 σ)
   simp[Array.getD_eq_getD_getElem?,Array.getElem?_replicate]
   split <;> rfl]
  exact h
theorem DH(hV:cE P V){ops:Array Oper}(hN:dx B.N ops.toList=true)(hg:gL ops.toList=true){K:St->Option R}{r:R}(h:Inv B σ a w){Q:Exit->Act->World->Prop}(hQ:∀ σ' a' w',K σ'=some r->Inv B σ' a' w'->ES σ σ' (da ops.toList)->Q .normal a' w')
 (hE:∀ (k:Nat) (o:Oper) (e:Edge),ops[k]?=some o->e∈o.after->Region.binds .any e=true->e.on<k):
 ∀ (t:Alt) (ex:List (Nat×Nat)),(∀ p∈ex,p.1<ops.size)->yI V ops.toList σ K t ex=some r->∀ ord,Lin (λm k=>Eo ops m k\/(m,k)∈ex) ops.size (λ_=>False) ord->wpOps P ops Q ord a w:=by
 intro t
 induction t with
 |leaf perm=>
  intro ex hx hk ord hl
  simp only[yI]at hk
  cases hp:u0 ops.toList.length perm
  ·rw[hp]at hk;cases hk
  rw[hp]at hk
  simp only[cond_true]at hk
  unfold u0 at hp
  simp only[Bool.and_eq_true]at hp
  obtain⟨p1,p2,p3,p4⟩:=hp
  have p1:perm.length=ops.size:=by rw[Nat.eq_of_beq_eq_true p1];simp
  have p2:∀ x∈perm,x<ops.size:=λx hx=>by have:=yL p2 x hx;simpa using this
  have p3:=yM p3
  have p4:∀ q,q<ops.size->q∈perm:=λq hq=>vd p4 q (by simpa using hq)
  obtain⟨l1,l2⟩:=u9 (ops:=ops.toList) (perm:=perm) (ex:=ex) (qs:=perm) (λq hq=>by simpa using p2 q hq)
  have AY:(dE ops.toList perm ex perm)=(dE ops.toList perm ex perm).toArray.toList:=by simp
  have pJ:∀ o'∈dE ops.toList perm ex perm,∃ q o,ops.toList[q]?=some o/\o'=reO perm ex q o:=by
   intro o' ho'
   obtain⟨k,hk'⟩:=List.mem_iff_getElem?.1 ho'
   have hlt:=(List.getElem?_eq_some_iff.1 hk').1
   obtain⟨o,q1,q2⟩:=l2 k perm[k] (List.getElem?_eq_getElem (by omega))
   rw[hk']at q2
   injection q2 with q2
   exact⟨_,o,q1,q2⟩
  have hN':dx B.N (dE ops.toList perm ex perm).toArray.toList=true:=by
   rw[<-AY]
   refine AX (λo' ho' d hd=>?_)
   obtain⟨q,o,q1,rfl⟩:=pJ o' ho'
   exact yO hN o (List.mem_of_getElem? q1) d hd
  have hsz:(dE ops.toList perm ex perm).toArray.size=ops.size:=by simp[l1,p1]
  have any:=sL (B:=B) (a:=a) (w:=w) hV (ops:=(dE ops.toList perm ex perm).toArray) hN' (by rw[<-AY];exact hk) h (Q:=Q) (λσ' a' w' h1 h2 h3=>hQ σ' a' w' h1 h2 (λj hj=>h3 j (by
   rw[<-AY]
   cases hw:da (dE ops.toList perm ex perm) j
   ·rfl
   ·exfalso
    have:∀ (l:List Oper),da l j=true->∃ o∈l,o.dst=some j:=by
     intro l
     induction l with
     |nil=>intro h;cases h
     |cons x xs ih=>
      intro h
      simp only[da,Bool.or_eq_true]at h
      rcases h with h|h
      ·cases hd:x.dst with
       |none=>rw[hd]at h;cases h
       |some d=>rw[hd]at h;exact⟨x,by simp,by rw[hd,Nat.eq_of_beq_eq_true h]⟩
      ·obtain⟨o,q1,q2⟩:=ih h;exact⟨o,by simp[q1],q2⟩
    obtain⟨o',ho',hd⟩:=this _ hw
    obtain⟨q,o,q1,rfl⟩:=pJ o' ho'
    exact o7 hj o (List.mem_of_getElem? q1) hd)))
  have hπ:∀ k,k<ops.size->perm[k]?.getD 0<ops.size:=λk hk=>by
   rw[List.getElem?_eq_getElem (by omega)]
   exact p2 _ (List.getElem_mem _)
  have I8:∀ k,k<ops.size->perm[k]?=some (perm[k]?.getD 0):=λk hk=>by
   rw[List.getElem?_eq_getElem (by omega)];rfl
  have hli:∀ k,k<ops.size->perm[mo k perm]?.getD 0=k:=λk hk=>by rw[gM (p4 k hk)];rfl
  have I9:=Lin.map (π:=λk=>perm[k]?.getD 0) (inv:=λq=>mo q perm) hπ (λk hk=>by rw[<-p1];exact mG (p4 k hk)) hli (λk hk=>ve p3 (I8 k hk)) hl
  rw[<-hsz]at I9
  have hw:=yJ (P:=P) (Q:=Q) (ops:=(dE ops.toList perm ex perm).toArray) (E:=λm k=>Eo ops (perm[m]?.getD 0) (perm[k]?.getD 0)\/(perm[m]?.getD 0,perm[k]?.getD 0)∈ex) ?_ (ord.map λq=>mo q perm) _ _ a w (by simp) (I9.congr (λk hk=>by
   simp[Array.getD_eq_getD_getElem?,Array.getElem?_replicate]
   split <;> simp)) any
  ·refine yK (n:=ops.size) (inv:=λq=>mo q perm) ?_ ord a w ?_ hw
   ·intro i hi
    obtain⟨o,q1,q2⟩:=l2 (mo i perm) i (gM (p4 i hi))
    have hgo:=qp hg o (List.mem_of_getElem? q1)
    exact⟨o,reO perm ex i o,by simpa using q1,by simpa using q2,rfl,rfl,rfl,rfl,hgo,hgo⟩
   ·have:∀ (r:List Nat) (E:Nat->Nat->Prop) (D:Nat->Prop),Lin E ops.size D r->∀ i∈r,i<ops.size:=by
     intro r
     induction r with
     |nil=>intro E D _ i hi;simp at hi
     |cons x xs ih=>
      intro E D h i hi
      rcases List.mem_cons.1 hi with rfl|hi
      ·exact h.1
      ·exact ih E _ h.2.2.2 i hi
    exact this _ _ _ hl
  ·intro i o' e ho' he hb
   have ho':(dE ops.toList perm ex perm)[i]?=some o':=by simpa using ho'
   have hi:i<perm.length:=by have:=(List.getElem?_eq_some_iff.1 ho').1;omega
   obtain⟨o,q1,q2⟩:=l2 i perm[i] (List.getElem?_eq_getElem hi)
   rw[ho']at q2
   injection q2 with q2
   subst q2
   have he:e∈jG perm (nQ o.after.toList++uZ perm[i] ex):=by simpa [reO]using he
   obtain⟨m,hm,he2⟩:=sK he
   have hpi:perm[i]?.getD 0=perm[i]:=by rw[List.getElem?_eq_getElem hi];rfl
   have hoi:ops[perm[i]]?=some o:=by simpa using q1
   have yE:perm[i]<ops.size:=p2 _ (List.getElem_mem _)
   rcases List.mem_append.1 hm with hm|hm
   ·obtain⟨e0,r1,r2,rfl⟩:=yN hm
    have hlt:=hE perm[i] o e0 hoi (by simpa using r1) r2
    have fi:=p4 e0.on (by omega)
    rw[he2]
    refine⟨.inl ?_,?_⟩
    ·rw[gM fi,hpi]
     exact⟨o,e0,hoi,by simpa using r1,r2,rfl⟩
    ·rw[hsz,<-p1];exact mG fi
   ·have hex:=AW hm
    have fi:=p4 m (hx _ hex)
    rw[he2]
    refine⟨.inr ?_,by rw[hsz,<-p1];exact mG fi⟩
    rw[gM fi,hpi]
    exact hex
 |split i j x y ihx ihy=>
  intro ex hx hk ord hl
  simp only[yI]at hk
  cases hp:Nat.blt i ops.toList.length&&(Nat.blt j ops.toList.length&&!Nat.beq i j)
  ·rw[hp]at hk;cases hk
  rw[hp]at hk
  simp only[cond_true]at hk
  simp only[Bool.and_eq_true,Bool.not_eq_true']at hp
  obtain⟨p1,p2,p3⟩:=hp
  have p1:i<ops.size:=by have:=Nat.le_of_ble_eq_true p1;simp at this;omega
  have p2:j<ops.size:=by have:=Nat.le_of_ble_eq_true p2;simp at this;omega
  have p3:i≠j:=λe=>by rw[e,Nat.beq_refl]at p3;cases p3
  obtain⟨k1,k2⟩:=rP hk
  rcases Lin.split p3 p1 p2 (λh=>h) (λh=>h) hl with hl|hl
  ·exact ihx ((i,j)::ex) (λp hp=>(List.mem_cons.1 hp).elim (λe=>by rw[e];exact p1) (hx p)) k1 ord (hl.mono (λm k he=>by
    rcases he with he|he
    ·exact .inl (.inl he)
    ·rcases List.mem_cons.1 he with he|he
     ·injection he with e1 e2
      exact .inr ⟨e1,e2⟩
     ·exact .inl (.inr he)))
  ·exact ihy ((j,i)::ex) (λp hp=>(List.mem_cons.1 hp).elim (λe=>by rw[e];exact p2) (hx p)) k2 ord (hl.mono (λm k he=>by
    rcases he with he|he
    ·exact .inl (.inl he)
    ·rcases List.mem_cons.1 he with he|he
     ·injection he with e1 e2
      exact .inr ⟨e1,e2⟩
     ·exact .inl (.inr he)))
theorem sM(h:Inv B σ a w):Inv B σ a {w with drawn:=w.drawn+1}:=by
 obtain⟨F,Sg,cg,h⟩:=h
 exact⟨F,Sg,cg,h.world rfl rfl rfl (Nat.le_refl _) (λ_ _=>rfl)⟩
theorem DI(hV:cE P V){id:Nat}{ops:Array Oper}(hN:dx B.N ops.toList=true){K:St->Option R}{r:R}{t:Alt}(hk:GZ V ops.toList σ K t=some r)(h:Inv B σ a w){Q:Exit->Act->World->Prop}(hQ:∀ σ' a' w',K σ'=some r->Inv B σ' a' w'->ES σ σ' (da ops.toList)->Q .normal a' w'):
 (Code.region id ops true).wp P Q a w:=by
 unfold GZ at hk
 cases hc:gL ops.toList&&iY ops.toList 0 ops.toList
 ·rw[hc]at hk;cases hk
 rw[hc]at hk
 simp only[cond_true]at hk
 simp only[Bool.and_eq_true]at hc
 have hE:∀ (k:Nat) (o:Oper) (e:Edge),ops[k]?=some o->e∈o.after->Region.binds .any e=true->e.on<k:=λk o e ho he hb=>by
  have:=qq hc.2 k o (by simpa using ho) e he hb
  omega
 refine wp_region_draw λt'=>?_
 simp only[Region.schedule,hV.mix,Bool.true_or,if_true]
 have hl:=G0 (ops:=ops) hE ops.size t' (Array.replicate ops.size false) (by simp) (Nat.le_trans List.countP_le_length (by simp))
 refine DH (a:=a) hV hN hc.1 (sM h) hQ hE t [] (λp hp=>by simp at hp) hk _ ((hl.mono (λm k he=>?_)).congr (λk hk=>?_))
 ·exact he.resolve_right (by simp)
 ·simp[Array.getD_eq_getD_getElem?,Array.getElem?_replicate]
  split <;> simp
end
def wpN(P:Program)(c:Code)(Q:Exit->Act->World->Prop)(a:Act)(w:World):Prop:=
 ∀ (b:Frame) (k:List Item) (cs:List Frame),b.kind=.normal->∃ e a' w',Q e a' w'/\Arrives P (lone (b.at a (.code c::k)) cs w) b k cs e a' w'
section
variable {P:Program} {Q:Exit->Act->World->Prop} {a:Act} {w:World}
theorem lF{c:Code}(h:c.wp P Q a w):wpN P c Q a w:=λb k cs _=>h b k cs
theorem eo{c:Code}{Q':Exit->Act->World->Prop}(h:wpN P c Q a w)(hq:∀ e a w,Q e a w->Q' e a w):wpN P c Q' a w:=by
 intro b k cs hb
 obtain⟨e,a',w',q,r⟩:=h b k cs hb
 exact⟨e,a',w',hq e a' w' q,r⟩
theorem DJ{x y:Code}(h:wpN P x (Exit.then (wpN P y Q) Q) a w):wpN P (.seq x y) Q a w:=by
 intro b k cs hb
 obtain⟨e,a1,w1,hq,har⟩:=h b (.code y::k) cs hb
 by_cases he:e=.normal
 ·subst he
  obtain⟨e2,a2,w2,hq2,G2⟩:=hq b k cs hb
  exact⟨e2,a2,w2,hq2,.of_steps (.head step_seq har) G2⟩
 ·refine⟨e,a1,w1,?_,.of_steps (.one step_seq) (.pass (x:=.code y) rfl (λ_ _=>.inl he) har)⟩
  cases e <;> first|exact absurd rfl he|exact hq
theorem AZ{c:Operand}{x y:Code}{t:Bool}(hc:a.eval c=.bool t)(h:wpN P (if t then x else y) Q a w):wpN P (.cond c x y) Q a w:=by
 intro b k cs hb
 obtain⟨e,a1,w1,hq,har⟩:=h b k cs hb
 exact⟨e,a1,w1,hq,.of_steps (.one (step_cond hc)) har⟩
theorem yP{id:Nat}{c:Code}(h:wpN P c (Exit.inBlock id Q) a w):wpN P (.block id c) Q a w:=by
 intro b k cs hb
 obtain⟨e,a1,w1,hq,har⟩:=h b (.inBlock id::k) cs hb
 cases e with
 |normal=>exact⟨.normal,a1,w1,hq,.head step_block (Steps.trans har (.one step_inBlock))⟩
 |exit j=>
  by_cases hj:j=id
  ·have hq:Q .normal a1 w1:=by simpa [Exit.inBlock,hj]using hq
   exact⟨.normal,a1,w1,hq,.head step_block (har k (by simp[exitTo,hj]))⟩
  ·have hq:Q (.exit j) a1 w1:=by simpa [Exit.inBlock,hj]using hq
   have hn:(id == j)=false:=by simpa using λe:id=j=>hj e.symm
   exact⟨.exit j,a1,w1,hq,λk' hk=>.head step_block (har k' (by simp[exitTo,hn,hk]))⟩
 |goto l=>exact⟨_,a1,w1,hq,λk' hk=>.head step_block (har k' (by simp[gotoIn,hk]))⟩
 |ret=>exact⟨_,a1,w1,hq,.of_steps (.one step_block) har⟩
 |panic _=>exact⟨_,a1,w1,hq,.of_steps (.one step_block) har⟩
 |outgrown=>exact⟨_,a1,w1,hq,.of_steps (b:=b) (k:=k) (cs:=cs) (e:=.outgrown) (.one step_block) har⟩
theorem Ba{c:Code}(I:Nat->Act->World->Prop)(h0:∀ a w,¬I 0 a w)(round:∀ m a w,I (m+1) a w->wpN P c (Exit.then (I m) Q) a w)(m:Nat)(a:Act)(w:World)(h:I m a w):wpN P (.loop c) Q a w:=by
 intro b k cs hb
 have key:∀ m a w,I m a w->∃ e a' w',Q e a' w'/\Arrives P (lone (b.at a (.code c::.inLoop c::k)) cs w) b k cs e a' w':=by
  intro m
  induction m with
  |zero=>intro a w h;exact absurd h (h0 a w)
  |succ m ih=>
   intro a w hI
   obtain⟨e,a1,w1,hq,har⟩:=round m a w hI b (.inLoop c::k) cs hb
   by_cases he:e=.normal
   ·subst he
    obtain⟨e2,a2,w2,hq2,G2⟩:=ih a1 w1 hq
    exact⟨e2,a2,w2,hq2,.of_steps (Steps.trans har (.one step_inLoop)) G2⟩
   ·refine⟨e,a1,w1,?_,.pass (x:=.inLoop c) rfl (λ_ _=>.inl he) har⟩
    cases e <;> first|exact absurd rfl he|exact hq
 obtain⟨e,a',w',hq,har⟩:=key m a w h
 exact⟨e,a',w',hq,.of_steps (.one step_loop) har⟩
theorem qt{f:FuncId}{fn:Func}{c:Code}{args:Array Value}{R:Ending->World->Prop}(hf:P.funcs[f]?=some fn)(hb:fn.body=some c)
 (h:wpN P c (bodyPost P fn R) {tmps:=args++Array.replicate (fn.ntmps-args.size) undef,defers:=[]} w):Calls P f args w R:=by
 intro cs
 have hen:Frame.enter P f args .normal=({(default:Frame)with fn:=f,kind:=.normal}:Frame).at {tmps:=args++Array.replicate (fn.ntmps-args.size) undef,defers:=[]} [.code c]:=by
  simp[Frame.enter,Frame.at,hf,hb]
 obtain⟨e,a',w',hq,har⟩:=h {(default:Frame)with fn:=f,kind:=.normal} [] cs rfl
 rw[<-hen]at har
 cases e with
 |normal=>
  obtain⟨hd,v,hr,hR⟩:=hq
  exact⟨.returned v,w',_,hR,Steps.trans har (.one step_end),rfl,rfl,hd,rfl,fn,hf,hr⟩
 |ret=>
  obtain⟨hd,v,hr,hR⟩:=hq
  obtain⟨todo,hs⟩:=har
  exact⟨.returned v,w',_,hR,hs,rfl,rfl,hd,rfl,fn,hf,hr⟩
 |panic chain=>
  obtain⟨hd,hR⟩:=hq
  obtain⟨todo,hs⟩:=har
  exact⟨.panicked chain,w',_,hR,hs,rfl,rfl,hd,fn,hf⟩
 |exit id=>exact hq.elim
 |goto l=>exact hq.elim
 |outgrown=>exact⟨.outgrown,w',{(default:Frame)with fn:=f,kind:=.normal},hq,har.resolve_left (by simp),rfl,trivial⟩
end
def o8(x:Nat×List Int):Bool:=!(List.isEmpty x.2)
def G3(x:Nat×List Int):Int:=x.2.headD 0
def vg(x:Nat×List Int):Nat×List Int:=(x.1,x.2.tail)
def ik(x:Nat×List Int):Bool:=Nat.blt (List.length x.2) x.1
def iC(x:Nat×List Int)(v:Int):Nat×List Int:=(x.1,bif ik x then x.2++[v]else x.2)
def yQ(b:Bool):Int:=bif b then 0 else -1
def sN{R:Type}(σ:St)(l:Nat)(b:Lab)(π:List Stp)(y:Nat×List Int)(K:St->Option R):Option R:=
 match dA b.t b.m π (.own .ro)with
 |some mr=>eC b.t b.x π .chan y λx'=>K (σ.fo (upd σ.L l (some ⟨b.v+1,b.t,mr,x'⟩)))
 |none=>none
def wN{R:Type}(σ:St)(e:ag)(K:Nat->Lab->List Stp->Nat×List Int->Option R):Option R:=
 match e with
 |.hdr l n π c=>fM σ (.hdr l n π c) λl b π c=>match c with
  |⟨.chan,x⟩=>bif(atM b.t b.m π).cJ then K l b π x else none
  |_=>none
 |_=>none
def qu{R:Type}(TT:Tab)(σ:St)(t:TypeId)(dst:Nat)(e:ag)(K:St->Option R):Option R:=
 match TT t with
 |some d=>(match d.kd with
  |.chan te=>(match TT te with
   |some de=>bif σ.U (dst*8)||!(Nat.beq de.bytes 8)then none else fm e λn=>bif decide (0<=n)&&decide (n<=1024)then K (σ.mk' σ.L (dst*8) dst ⟨0,.chan,.own .ro,(n.toNat,[])⟩)else none
   |none=>none)
  |_=>none)
 |none=>none
def Bb(k:TK):Bool:=match k with|.int .i64=>true|_=>false
def Bc{R:Type}(V:Env)(σ:St)(o:Oper)(K:St->Option R):Option R:=
 match o.op with
 |.select cs false=>(match cs.toList with
  |[c]=>(match opd σ c.chan with
   |some e=>wN σ e λl b π x=>(match V.TT c.elem with
    |some td=>bif Bb td.kd then(match c.send with
     |none=>sN σ l b π (vg x) λσ'=>K (σ'.fP o.dst [.val (.int .i64) (yQ (o8 x)),.val .bool (o8 x),.val (.int .i64) (G3 x)])
     |some y=>(match opd σ y with
      |some ey=>asT ey (.int .i64) λn=>sN σ l b π (iC x n) λσ'=>K (σ'.fP o.dst [.val (.int .i64) (yQ (ik x)),.val .bool false])
      |none=>none))else none
    |none=>none)
   |none=>none)
  |_=>none)
 |.makeChan t x=>(match o.dst with|some d=>(match opd σ x with|some e=>qu V.TT σ t d e K|none=>none)|none=>none)
 |.send c y=>(match opd σ c with
  |some e=>wN σ e λl b π x=>(match opd σ y with
   |some ey=>asT ey (.int .i64) λn=>bif ik x then sN σ l b π (iC x n) λσ'=>K (σ'.fx o.dst)else none
   |none=>none)
  |none=>none)
 |_=>none
def isComm:Op->Bool
 |.select .. |.send .. |.makeChan ..=>true
 |_=>false
def DK:Op->Bool
 |.move _|.nilCheck _|.fieldAddr .. |.load ..=>true
 |_=>false
def qv:List Oper->Bool
 |[]=>false
 |o::os=>isComm o.op||qv os
def Bd{R:Type}(V:Env)(ops:List Oper):List Oper->St->(St->Option R)->Option R
 |[],_,_=>none
 |o::rest,σ,K=>(match o.guard with
  |some _=>none
  |none=>bif isComm o.op then Bc V σ o λσ1=>uH V ops rest σ1 K else bif DK o.op then opK V σ o λσ1=>Bd V ops rest σ1 K else none)
section
variable {P:Program} {B:bO} {F:ae} {Sg:Nat->ae} {cg:Nat->List Value} {σ:St} {a:Act} {w:World}
theorem DL{w:World}{c cap s r:Nat}{buf:Array Value}{cl tm:Bool}{k:Nat}(h:k≠c):(w.setChan c cap buf cl s r tm).heap[k]?=w.heap[k]?:=by
 simp only[World.setChan];rw[Array.getElem?_setIfInBounds_ne (by omega)]
theorem sO(h:aw B F Sg cg σ a w){R:Type}{e:ag}{K:Nat->Lab->List Stp->Nat×List Int->Option R}{r:R}(hk:wN σ e K=some r){v:Value}(he:al F w σ.L σ.U cg e v):
 ∃ l b π x cb buf s rr,K l b π x=some r/\v=.chan (some cb)/\w.heap[cb]?=some (.chan x.1 buf false s rr false)/\buf.toList=x.2.map (λn=>.int .i64 n)/\(∀ n∈x.2,inK .i64 n)/\List.length x.2<=x.1/\x.1<=maxLen/\
  ∀ (y:Nat×List Int) (qw:Array Value) (s' rr':Nat) (K':St->Option R) (r':R),y.1=x.1->qw.toList=y.2.map (λn=>.int .i64 n)->(∀ n∈y.2,inK .i64 n)->List.length y.2<=x.1->sN σ l b π y K'=some r'->
   ∃ σ' Sg',K' σ'=some r'/\σ'.E=σ.E/\aw B F Sg' cg σ' a (w.setChan cb x.1 qw false s' rr' false):=by
 unfold wN at hk
 split at hk
 case h_2=>cases hk
 obtain⟨l,b,π,c,hl,hk,hg,ho,ds,s0,S',aZ,aK,dX,di,hv⟩:=cV h hk he
 split at hk
 case h_2=>cases hk
 rename_i x
 cases hm:atM b.t b.m π with
 |ro=>rw[hm]at hk;cases hk
 |pr _ _=>rw[hm]at hk;cases hk
 |own m1=>
 simp only[hm]at aK
 rw[hm]at hk
 obtain⟨cb,buf,s,rr,rfl,hb,h1,⟨h2,h3,h4⟩,hS⟩:=aK
 simp[VR,Ty.agg]at hv
 have hk:K l b π x=some r:=hk
 refine⟨l,b,π,x,cb,buf,s,rr,hk,hv.1.symm,hb,h1,h2,h3,h4,?_⟩
 intro y qw s' rr' K' r' hy1 hyb hyk hyl a9
 obtain⟨y1,y2⟩:=y
 simp only at hy1 hyb hyk hyl
 subst hy1
 unfold sN at a9
 cases hM:dA b.t b.m π (.own .ro)with
 |none=>rw[hM]at a9;cases a9
 |some mr=>
 rw[hM]at a9
 simp only at a9
 rw[dW]at a9
 obtain⟨x',hx',a9⟩:=Option.bind_eq_some_iff.1 a9
 have hlt:cb<w.heap.size:=by
  rcases Nat.lt_or_ge cb w.heap.size with h0|h0
  ·exact h0
  ·rw[Array.getElem?_eq_none h0]at hb;cases hb
 have fN:∀ k,k≠cb->(w.setChan cb x.1 qw false s' rr' false).heap[k]?=w.heap[k]?:=λk hk=>DL hk
 have hFw:∀ k,F k->(w.setChan cb x.1 qw false s' rr' false).heap[k]?=w.heap[k]?:=λk hk=>fN k (λe=>h.bY l b hl cb (dX cb hS) (e ▸ hk))
 have uG:Rep F (w.setChan cb x.1 qw false s' rr' false) .chan (.own .ro) (x.1,y2) [.chan (some cb)] S':=
  ⟨cb,qw,s',rr',rfl,Conc.heap_setChan _ _ _ _ _ _ _ _ hlt,hyb,⟨hyk,hyl,h4⟩,hS⟩
 have aK:Rep F (w.setChan cb x.1 qw false s' rr' false) b.t mr x' (cg l) (λk=>(Sg l k/\¬S' k)\/S' k):=by
  rcases di with⟨pre,post,hc,_,w2⟩|⟨bb,o,_,hSb,hnb,cP,w2⟩
  ·rw[hc]
   exact w2 F _ (x.1,y2) _ S' x' (.own .ro) mr (gZ _ _ _ _ _ hM) (Sub.refl _) hx' uG rfl (λk a _=>a) (λk _ hn=>fN k (λe=>hn (e ▸ hS))) hFw
  ·obtain⟨c,e,hbb,l1,r1,hcl,hll⟩:=cP
   have hbc:bb≠cb:=λe=>hnb (e ▸ hS)
   exact w2 F _ (x.1,y2) _ S' x' (.own .ro) mr (gZ _ _ _ _ _ hM) (Sub.refl _) hx' uG rfl (λk a _=>a) (λk _ hn _=>fN k (λe=>hn (e ▸ hS))) ⟨c,c,e,l1,r1,hbb,(fN bb hbc).trans hbb,hcl,hcl,hll⟩ hFw
 exact⟨_,_,a9,rfl,h.kn (w':=w.setChan cb x.1 qw false s' rr' false) rfl rfl rfl (by rw[Conc.size_setChan];exact Nat.le_refl _) hl (λk _ hn=>fN k (λe=>hn (e ▸ dX cb hS))) (b':=⟨b.v+1,b.t,mr,x'⟩) (λ_ h=>h) (λ_ _ h=>h) (Nat.lt_succ_self _) (Sub.refl _) aK (upd σ.L l (some ⟨b.v+1,b.t,mr,x'⟩)) (ap _ _ _) (λj hj=>by rw[au _ _ hj];exact .inr rfl) (λk hk=>.inl hk) (λk hk=>.inl (hk.elim (λh=>h.1) (λh=>dX k h)))⟩
theorem vj(h:aw B F Sg cg σ a w){R:Type}{TT:Tab}(hT:bw P TT){t:TypeId}{dst:Nat}(hN:dst<B.N){e:ag}{K:St->Option R}{r:R}(hk:qu TT σ t dst e K=some r){v:Value}(he:al F w σ.L σ.U cg e v):
 ∃ σ' z w' Sg' cg',K σ'=some r/\(Instr.makeChan t v).run P w=.ok z w'/\aw B F Sg' cg' σ' (a.put (some dst) z) w'/\EF σ σ' dst:=by
 unfold qu at hk
 cases ht:TT t with
 |none=>rw[ht]at hk;cases hk
 |some d=>
 rw[ht]at hk
 simp only at hk
 split at hk
 case h_2=>cases hk
 rename_i te hkd
 have hd:=(hT t d ht).desc
 rw[hkd]at hd
 obtain⟨dir,hd⟩:=hd
 cases hte:TT te with
 |none=>rw[hte]at hk;cases hk
 |some de=>
 rw[hte]at hk
 simp only at hk
 cases hU:σ.U (dst*8)||!(Nat.beq de.bytes 8)
 ·rw[hU]at hk
  simp only[cond_false]at hk
  simp only[Bool.or_eq_false_iff,Bool.not_eq_false']at hU
  obtain⟨hU,hb8⟩:=hU
  have hb8:=Nat.eq_of_beq_eq_true hb8
  obtain⟨i,z,hi,hi1,hi2,hi3,hi4⟩:=(hT te de hte).mQ
  obtain⟨k,n,hk,rfl,hn⟩:=dF hk he
  cases hr:decide (0<=n)&&decide (n<=1024)
  ·rw[hr]at hk;cases hk
  rw[hr]at hk
  simp only[cond_true]at hk
  simp only[Bool.and_eq_true,decide_eq_true_eq]at hr
  obtain⟨m,rfl⟩:∃ m:Nat,n=(m:Int):=⟨n.toNat,by omega⟩
  have aO:=Conc.run_makeChan (w:=w) hd hi k m (by omega) (by rw[hi2,hb8];omega)
  simp only[Int.toNat_natCast]at hk
  have i1:=h.fh (w':=w.alloc (.chan m #[] false 0 0 false)) rfl rfl rfl (by rw[bI];omega) (l:=dst*8) (b:=⟨0,.chan,.own .ro,(m,[])⟩) hU (upd σ.L (dst*8) (some ⟨0,.chan,.own .ro,(m,[])⟩)) (λk hk _=>cd _ _ hk) (cs:=[.chan (some w.heap.size)]) (S2:=λk=>k=w.heap.size)
   ⟨w.heap.size,#[],0,0,rfl,fF _ _,rfl,⟨λn hn=>by simp at hn,Nat.zero_le _,by simp only[maxLen];omega⟩,rfl⟩ (ap _ _ _) (λj hj=>by rw[au _ _ hj];exact .inr rfl) (λk hk=>by
    subst hk
    refine⟨λj bj hj hbj hs=>?_,λhf=>Nat.lt_irrefl _ (h.fl _ hf),by rw[bI];exact Nat.lt_succ_self _,λhlt=>?_⟩
    ·rw[au _ _ hj]at hbj
     exact Nat.lt_irrefl _ (h.lt j bj hbj _ hs)
    ·have:=h.fr.size;omega)
  exact⟨_,_,_,_,_,hk,aO,i1.mT hN (e:=.one (.hdr (dst*8) 0 [] ⟨.chan,(m,[])⟩)) (dj i1 (l:=dst*8) (b:=⟨0,.chan,.own .ro,(m,[])⟩) (ap _ _ _) (by simp[VR,Ty.agg,Value.oneCell'])),iA⟩
 ·rw[hU]at hk;cases hk
theorem fS{x:Nat×List Int}:ik x=true↔List.length x.2<x.1:=by unfold ik;rw[Nat.blt_eq]
theorem FO{L:Nat->Option Lab}{U:Nat->Bool}{e1 e2:ag}{v1 v2:Value}(h1:al F w L U cg e1 v1)(h2:al F w L U cg e2 v2):dO F w L U cg (.tup [e1,e2]) (.tuple #[v1,v2]):=
 ⟨[v1,v2],rfl,_,_,rfl,h1,_,_,rfl,h2,rfl⟩
theorem FP{L:Nat->Option Lab}{U:Nat->Bool}{e1 e2 e3:ag}{v1 v2 v3:Value}(h1:al F w L U cg e1 v1)(h2:al F w L U cg e2 v2)(h3:al F w L U cg e3 v3):dO F w L U cg (.tup [e1,e2,e3]) (.tuple #[v1,v2,v3]):=
 ⟨[v1,v2,v3],rfl,_,_,rfl,h1,_,_,rfl,h2,_,_,rfl,h3,rfl⟩
theorem o9{L:Nat->Option Lab}{U:Nat->Bool}{n m:Int}(h:n=m)(hm:inK .i64 m):al F w L U cg (.val (.int .i64) n) (.int .i64 m):=by subst h;exact bu hm
theorem wO{L:Nat->Option Lab}{U:Nat->Bool}{n m:Bool}(h:n=m):al F w L U cg (.val .bool n) (.bool m):=by subst h;exact bA
theorem in0:inK .i64 0:=by simp[inK,kLo,kHi]
theorem in1:inK .i64 (-1):=by simp[inK,kLo,kHi]
def wP(P:Program)(o:Oper)(a:Act)(w:World)(v:Value)(w':World):Prop:=
 ∀ (ops:Array Oper) (i:Nat) (rest:List Nat) (b:Frame) (k:List Item) (cs:List Frame),ops[i]?=some o->Region.wanted o (yielded ops a.tmps)=true->b.kind=.normal->
  step P (lone (b.at a (.inRegion ops (i::rest)::k)) cs w)=.next (lone (b.at (a.put o.dst v) (.inRegion ops rest::k)) cs w')
theorem mb{o:Oper}{v:Value}{w':World}(hr:(execOp a.eval o).run P w=.ok (.value v) w'):wP P o a w v w':=by
 intro ops i rest b k cs ho hw hb
 have yR:(b.at a (.inRegion ops (i::rest)::k)).finish v=b.at (a.put o.dst v) (.inRegion ops rest::k):=by rw[Frame.finish_at,ho];rfl
 exact step_lone_go (by rw[stepG_op ho hw,<-yR];simp[stepG.apply,hr])
theorem fT{o:Oper}{cases:Array CommCase}{bl:Bool}{sh:CommShape}{v:Value}{w':World}(hr:(execOp a.eval o).run P w=.ok (.comm cases bl sh) w)
 (hs:∀ (fr:Frame) (cs:List Frame) (es:Array Event),stepG P true (Conc.G fr cs) w=.comm (Conc.G fr cs) cases bl sh w es->step P (Conc.solo (Conc.G fr cs) w)=.next (Conc.solo (Conc.G (fr.finish v) cs) w')):wP P o a w v w':=by
 intro ops i rest b k cs ho hw hb
 have yR:(b.at a (.inRegion ops (i::rest)::k)).finish v=b.at (a.put o.dst v) (.inRegion ops rest::k):=by rw[Frame.finish_at,ho];rfl
 rw[Conc.lone_eq_solo,Conc.lone_eq_solo,<-yR]
 exact hs _ _ _ (Conc.stepG_comm ho hw (by rw[hb];simp) hr)
theorem Be{R:Type}{V:Env}(hV:cE P V)(h:aw B F Sg cg σ a w){o:Oper}{K:St->Option R}{r:R}(hN:∀ d,o.dst=some d->d<B.N)(hk:Bc V σ o K=some r):
 ∃ σ' v w',K σ'=some r/\Inv B σ' (a.put o.dst v) w'/\ESo σ σ' o.dst/\wP P o a w v w':=by
 unfold Bc at hk
 split at hk
 ·rename_i cs ho
  split at hk
  case h_2=>cases hk
  rename_i c hc
  obtain⟨cch,csd,cel⟩:=c
  have hcs:cs=#[⟨cch,csd,cel⟩]:=by rw[<-Array.toArray_toList (xs:=cs),hc]
  subst hcs
  cases ho1:opd σ cch with
  |none=>rw[ho1]at hk;cases hk
  |some e=>
  rw[ho1]at hk
  simp only at hk
  obtain⟨l,b,π,x,cb,buf,s,rr,hk,hv,hb,h1,h2,h3,h4,a9⟩:=sO h hk (aG h ho1)
  cases ht:V.TT cel with
  |none=>rw[ht]at hk;cases hk
  |some td=>
  rw[ht]at hk
  simp only at hk
  cases hi:Bb td.kd
  ·rw[hi]at hk;cases hk
  rw[hi]at hk
  simp only[cond_true]at hk
  have hkd:td.kd=.int .i64:=by
   unfold Bb at hi
   split at hi
   ·assumption
   ·cases hi
  obtain⟨inf,Ja,hz⟩:=(hV.tab _ _ ht).zi _ hkd
  have hbs:buf.size=List.length x.2:=by rw[<-Array.length_toList,h1,List.length_map]
  cases csd with
  |none=>
   simp only at hk
   have aO:(execOp a.eval o).run P w=.ok (.comm #[Conc.rcase cb (.int .i64 0)] false .select) w:=by
    simp[execOp,ho,Conc.rcase,hv,zeroValue,typeInfo,Ja,hz]
   obtain⟨xc,xl⟩:=x
   cases xl with
   |nil=>
    have hb0:buf=#[]:=by
     rw[<-Array.toArray_toList (xs:=buf),h1];rfl
    subst hb0
    obtain⟨σ',Sg',hk,hE,hi'⟩:=a9 (vg (xc,[])) #[] s rr _ _ rfl rfl (λn hn=>by simp[vg]at hn) (by simp[vg]) hk
    have hw':w.setChan cb xc #[] false s rr false=w:=by
     simp only[World.setChan]
     have:w.heap.setIfInBounds cb (.chan xc #[] false s rr false)=w.heap:=by
      apply Array.ext_getElem?
      intro j
      by_cases hj:j=cb
      ·subst hj
       have hlt:j<w.heap.size:=by
        rcases Nat.lt_or_ge j w.heap.size with h0|h0
        ·exact h0
        ·rw[Array.getElem?_eq_none h0]at hb;cases hb
       rw[Array.getElem?_setIfInBounds_self_of_lt hlt,hb]
      ·rw[Array.getElem?_setIfInBounds_ne (by omega)]
     rw[this]
    rw[hw']at hi'
    refine⟨_,.tuple #[goInt (-1),.bool false,.int .i64 0],w,hk,?_,?_,fT aO (λfr cs es hst=>Conc.step_lone_select_default hst hb)⟩
    ·exact hi'.fP hN (FP (o9 rfl in1) (wO rfl) (o9 rfl in0))
    ·intro j hj
     have:=eY (σ:=σ') (dst:=o.dst) (es:=[.val (.int .i64) (yQ (o8 (xc,[]))),.val .bool (o8 (xc,[])),.val (.int .i64) (G3 (xc,[]))]) j hj
     rw[hE]at this
     exact this
   |cons n ns=>
    have hb0:buf=(Value.int .i64 n::ns.map (λn=>.int .i64 n)).toArray:=by
     rw[<-Array.toArray_toList (xs:=buf),h1];rfl
    subst hb0
    have Lz:((Value.int .i64 n::ns.map (λn=>.int .i64 n)).toArray.extract 1 (Value.int .i64 n::ns.map (λn=>.int .i64 n)).toArray.size).toList=ns.map (λn=>.int .i64 n):=by simp[List.take_of_length_le]
    obtain⟨σ',Sg',hk,hE,hi'⟩:=a9 (vg (xc,n::ns)) ((Value.int .i64 n::ns.map (λn=>.int .i64 n)).toArray.extract 1 (Value.int .i64 n::ns.map (λn=>.int .i64 n)).toArray.size) s (rr+1) _ _ rfl Lz (λm hm=>h2 m (by simp[vg]at hm;simp[hm])) (by simp[vg]at h3 |-;omega) hk
    refine⟨_,.tuple #[goInt 0,.bool true,.int .i64 n],w.setChan cb xc ((Value.int .i64 n::ns.map (λn=>.int .i64 n)).toArray.extract 1 (Value.int .i64 n::ns.map (λn=>.int .i64 n)).toArray.size) false s (rr+1) false,hk,?_,?_,fT aO (λfr cs es hst=>Conc.step_lone_select_recv_buf hst hb (by simp))⟩
    ·exact hi'.fP hN (FP (o9 rfl in0) (wO rfl) (o9 rfl (h2 n (by simp))))
    ·intro j hj
     have:=eY (σ:=σ') (dst:=o.dst) (es:=[.val (.int .i64) (yQ (o8 (xc,n::ns))),.val .bool (o8 (xc,n::ns)),.val (.int .i64) (G3 (xc,n::ns))]) j hj
     rw[hE]at this
     exact this
  |some y=>
   simp only at hk
   cases ho2:opd σ y with
   |none=>rw[ho2]at hk;cases hk
   |some ey=>
   rw[ho2]at hk
   simp only at hk
   obtain⟨n,cy,hk,hry,hvy⟩:=dB hk (aG h ho2)
   obtain⟨hy,hn⟩:=gV hry hvy
   have aO:(execOp a.eval o).run P w=.ok (.comm #[Conc.scase cb (.int .i64 n) (.int .i64 0)] false .select) w:=by
    simp[execOp,ho,Conc.scase,hv,hy,zeroValue,typeInfo,Ja,hz]
   obtain⟨xc,xl⟩:=x
   simp only at hbs h3
   cases cf:ik (xc,xl)
   ·have Jb:xc<=buf.size:=by
     have:¬List.length xl<xc:=λhh=>by rw[fS.2 hh]at cf;cases cf
     omega
    have LA:iC (xc,xl) n=(xc,xl):=by simp[iC,cf]
    rw[LA]at hk
    obtain⟨σ',Sg',hk,hE,hi'⟩:=a9 (xc,xl) buf s rr _ _ rfl h1 h2 h3 hk
    have hw':w.setChan cb xc buf false s rr false=w:=by
     simp only[World.setChan]
     have:w.heap.setIfInBounds cb (.chan xc buf false s rr false)=w.heap:=by
      apply Array.ext_getElem?
      intro j
      by_cases hj:j=cb
      ·subst hj
       have hlt:j<w.heap.size:=by
        rcases Nat.lt_or_ge j w.heap.size with h0|h0
        ·exact h0
        ·rw[Array.getElem?_eq_none h0]at hb;cases hb
       rw[Array.getElem?_setIfInBounds_self_of_lt hlt,hb]
      ·rw[Array.getElem?_setIfInBounds_ne (by omega)]
     rw[this]
    rw[hw']at hi'
    refine⟨_,.tuple #[goInt (-1),.bool false],w,hk,?_,?_,fT aO (λfr cs es hst=>Conc.step_lone_select_send_full hst hb Jb)⟩
    ·exact hi'.fP hN (FO (o9 (by rw[cf];rfl) in1) (wO rfl))
    ·intro j hj
     have:=eY (σ:=σ') (dst:=o.dst) (es:=[.val (.int .i64) (yQ (ik (xc,xl))),.val .bool false]) j hj
     rw[hE]at this
     exact this
   ·have hlt:buf.size<xc:=by
     have:List.length xl<xc:=fS.1 cf
     omega
    obtain⟨σ',Sg',hk,hE,hi'⟩:=a9 (iC (xc,xl) n) (buf.push (.int .i64 n)) (s+1) rr _ _ rfl (by simp[iC,cf,h1]) (λm hm=>by
     simp[iC,cf]at hm
     rcases hm with hm|rfl
     ·exact h2 m hm
     ·exact hn) (by have:=fS.1 cf;simp[iC,cf]at this |-;omega) hk
    refine⟨_,.tuple #[goInt 0,.bool false],_,hk,?_,?_,fT aO (λfr cs es hst=>Conc.step_lone_select_send_room hst hb hlt)⟩
    ·exact hi'.fP hN (FO (o9 (by rw[cf];rfl) in0) (wO rfl))
    ·intro j hj
     have:=eY (σ:=σ') (dst:=o.dst) (es:=[.val (.int .i64) (yQ (ik (xc,xl))),.val .bool false]) j hj
     rw[hE]at this
     exact this
 ·rename_i t x ho
  cases hd:o.dst with
  |none=>rw[hd]at hk;cases hk
  |some d=>
  rw[hd]at hk
  simp only at hk
  cases ho1:opd σ x with
  |none=>rw[ho1]at hk;cases hk
  |some e=>
  rw[ho1]at hk
  simp only at hk
  obtain⟨σ',z,w',Sg',cg',g1,g2,g3,g4⟩:=vj h hV.tab (hN d hd) hk (aG h ho1)
  refine⟨σ',z,w',g1,⟨F,Sg',cg',g3⟩,gw g4,?_⟩
  have:=mb (P:=P) (o:=o) (a:=a) (w:=w) (v:=z) (w':=w') (by simp[execOp,ho,g2])
  exact this
 ·rename_i c y ho
  cases ho1:opd σ c with
  |none=>rw[ho1]at hk;cases hk
  |some e=>
  rw[ho1]at hk
  simp only at hk
  obtain⟨l,b,π,x,cb,buf,s,rr,hk,hv,hb,h1,h2,h3,h4,a9⟩:=sO h hk (aG h ho1)
  cases ho2:opd σ y with
  |none=>rw[ho2]at hk;cases hk
  |some ey=>
  rw[ho2]at hk
  simp only at hk
  obtain⟨n,cy,hk,hry,hvy⟩:=dB hk (aG h ho2)
  obtain⟨hy,hn⟩:=gV hry hvy
  obtain⟨xc,xl⟩:=x
  simp only at h1 h2 h3
  cases cf:ik (xc,xl)
  ·rw[cf]at hk;cases hk
  rw[cf]at hk
  simp only[cond_true]at hk
  have hbs:buf.size=List.length xl:=by rw[<-Array.length_toList,h1,List.length_map]
  have hlt:buf.size<xc:=by
   have:List.length xl<xc:=fS.1 cf
   omega
  have aO:(execOp a.eval o).run P w=.ok (.comm #[Conc.scase cb (.int .i64 n) (.tuple #[])] true .send) w:=by
   simp[execOp,ho,Conc.scase,hv,hy]
  obtain⟨σ',Sg',hk,hE,hi'⟩:=a9 (iC (xc,xl) n) (buf.push (.int .i64 n)) (s+1) rr _ _ rfl (by simp[iC,cf,h1]) (λm hm=>by
   simp[iC,cf]at hm
   rcases hm with hm|rfl
   ·exact h2 m hm
   ·exact hn) (by have:=fS.1 cf;simp[iC,cf]at this |-;omega) hk
  exact⟨_,undef,_,hk,hi'.fx hN,iO hE,fT aO (λfr cs es hst=>Conc.step_lone_send_room hst hb hlt)⟩
 ·cases hk
theorem vk{o:Oper}(hp:DK o.op=true)(hn:∀ x,o.op=.nilCheck x->∀ w' n,(execOp a.eval {o with op:=.nilCheck x}).run P w=.ok n w'->∃ v,n=.value v){next:Act->World->Prop}(h:o.wp P a w next (λ_ _ _=>False)):∃ v w',next (a.put o.dst v) w'/\wP P o a w v w':=by
 unfold Oper.wp at h
 have key:∀ n w',(execOp a.eval o).run P w=.ok n w'->∃ v,n=.value v:=by
  intro n w' hr
  unfold execOp at hr
  cases ho:o.op <;> rw[ho]at hp hr <;> simp only[DK,Bool.false_eq_true]at hp
  case move x=>
   simp only[Sem.run_pure]at hr
   injection hr with hr _
   exact⟨_,hr.symm⟩
  case nilCheck x=>exact hn x ho w' n hr
  case load t x=>
   simp only[Sem.run_bind]at hr
   generalize Sem.run P _ w=q at hr
   cases q with
   |ok v w1=>
    simp only[Result.andThen_ok,Sem.run_pure]at hr
    injection hr with hr _
    exact⟨_,hr.symm⟩
   |halt x w1=>simp[Result.andThen]at hr
  case fieldAddr s x f=>
   simp only[Sem.run_bind]at hr
   generalize Sem.run P _ w=q at hr
   cases q with
   |ok v w1=>
    simp only[Result.andThen_ok,Sem.run_pure]at hr
    injection hr with hr _
    exact⟨_,hr.symm⟩
   |halt x w1=>simp[Result.andThen]at hr
 cases hr:(execOp a.eval o).run P w with
 |ok n w'=>
  obtain⟨v,rfl⟩:=key n w' hr
  rw[hr]at h
  exact⟨v,w',h,mb hr⟩
 |halt x w'=>
  rw[hr]at h
  cases x <;> simp only[Oper.upon]at h
theorem G4{N:Nat}{l:List Oper}(h:dx N l=true):∀ o∈l,∀ d,o.dst=some d->d<N:=by
 induction l with
 |nil=>intro o ho;simp at ho
 |cons x l ih=>
  intro o ho d hd
  simp only[dx,Bool.and_eq_true]at h
  rcases List.mem_cons.1 ho with rfl|ho
  ·rw[hd]at h;exact Nat.le_of_ble_eq_true h.1
  ·exact ih h.2 o ho d hd
theorem DM{R:Type}{V:Env}(hV:cE P V){ops:Array Oper}(hN:dx B.N ops.toList=true){K:St->Option R}{r:R}{Q:Exit->Act->World->Prop}:∀ (rest:List Oper) (i:Nat) (σ:St) (a:Act) (w:World),ops.toList.drop i=rest->Inv B σ a w->Bd V ops.toList rest σ K=some r->
 (∀ σ' a' w',K σ'=some r->Inv B σ' a' w'->ES σ σ' (da rest)->Q .normal a' w')->∀ (b:Frame) (k:List Item) (cs:List Frame),b.kind=.normal->∃ e a' w',Q e a' w'/\Arrives P (lone (b.at a (.inRegion ops (List.range' i rest.length)::k)) cs w) b k cs e a' w':=by
 intro rest
 induction rest with
 |nil=>intro i σ a w hd h hk;cases hk
 |cons o rest ih=>
  intro i σ a w hd h hk hQ b k cs hb
  have hoi:ops[i]?=some o:=by
   rw[<-Array.getElem?_toList]
   have:=congrArg (·[0]?) hd
   simpa using this
  have rS:=G4 hN o (List.mem_of_getElem? (by rw[Array.getElem?_toList];exact hoi))
  have hd':ops.toList.drop (i+1)=rest:=by
   rw[<-List.tail_drop,hd];rfl
  have wr:∀ j,da (o::rest) j=false->o.dst≠some j/\da rest j=false:=λj hj=>by
   simp only[da,Bool.or_eq_false_iff]at hj
   refine⟨λe=>?_,hj.2⟩
   rw[e]at hj
   simp[Nat.beq_refl]at hj
  simp only[Bd]at hk
  split at hk
  ·cases hk
  rename_i hg
  have hw:Region.wanted o (yielded ops a.tmps)=true:=by unfold Region.wanted;rw[hg]
  rw[List.length_cons,List.range'_succ]
  cases hc:isComm o.op
  ·rw[hc]at hk
   simp only[cond_false]at hk
   cases hp:DK o.op
   ·rw[hp]at hk;cases hk
   rw[hp]at hk
   simp only[cond_true]at hk
   obtain⟨F,Sg,cg,h⟩:=h
   have zZ:∀ x,o.op=.nilCheck x->∀ w' n,(execOp a.eval {o with op:=.nilCheck x}).run P w=.ok n w'->∃ v,n=.value v:=by
    intro x hx w' n hr
    have hk':=hk
    unfold opK at hk'
    rw[hx]at hk'
    simp only at hk'
    cases ho1:opd σ x with
    |none=>rw[ho1]at hk';cases hk'
    |some e=>
    rw[ho1]at hk'
    obtain⟨_,ad,hv⟩:=we h hk' (aG h ho1)
    simp only[execOp,hv,Sem.run_pure]at hr
    injection hr with hr _
    exact⟨_,hr.symm⟩
   obtain⟨v,w',⟨σ',g1,g2,g3⟩,hst⟩:=vk hp zZ (pZ hV h rS hk)
   obtain⟨e,a2,w2,q1,q2⟩:=ih (i+1) σ' _ w' hd' g2 g1 (λiS a'' w'' q1 q2 q3=>hQ iS a'' w'' q1 q2 (λj hj=>(g3 j (wr j hj).1).trans (q3 j (wr j hj).2))) b k cs hb
   exact⟨e,a2,w2,q1,.of_steps (.one (hst ops i _ b k cs hoi hw hb)) q2⟩
  ·rw[hc]at hk
   simp only[cond_true]at hk
   obtain⟨F,Sg,cg,h⟩:=h
   obtain⟨σ',v,w',g1,g2,g3,hst⟩:=Be hV h rS hk
   have AY:=wA (Q:=Q) hV hN rest (i+1) σ' _ w' hd' g2 g1 (λiS a'' w'' q1 q2 q3=>hQ iS a'' w'' q1 q2 (λj hj=>(g3 j (wr j hj).1).trans (q3 j (wr j hj).2)))
   obtain⟨e,a2,w2,q1,q2⟩:=wp_ops _ _ _ AY b k cs
   exact⟨e,a2,w2,q1,.of_steps (.one (hst ops i _ b k cs hoi hw hb)) q2⟩
theorem vm{R:Type}{V:Env}(hV:cE P V){id:Nat}{ops:Array Oper}(hN:dx B.N ops.toList=true)(h:Inv B σ a w){K:St->Option R}{r:R}{Q:Exit->Act->World->Prop}(hk:Bd V ops.toList ops.toList σ K=some r)
 (hQ:∀ σ' a' w',K σ'=some r->Inv B σ' a' w'->ES σ σ' (da ops.toList)->Q .normal a' w'):wpN P (Code.region id ops false) Q a w:=by
 intro b k cs hb
 obtain⟨e,a2,w2,q1,q2⟩:=DM hV hN ops.toList 0 σ a w rfl h hk hQ b k cs hb
 refine⟨e,a2,w2,q1,.of_steps (.one step_region) ?_⟩
 rw[List.range_eq_range',<-Array.length_toList]
 exact q2
end
inductive Ann where
 |nop
 |seq (x y:Ann)
 |cond (j:Option Spec) (x y:Ann)
 |block (j:Option Spec) (x:Ann)
 |loop (s:Spec) (x:Ann)
 |reg (j:Option Spec) (fz:List Nat)
 |rgf (j:Option Spec) (pf fz:List Nat)
 |rgp (j:Option Spec) (pf fz:List Nat) (pz:List (Nat×List Stp))
 |rga (j:Option Spec) (pf fz:List Nat) (t:Alt)
def Ann.a1:Ann->Ann
 |.seq x _=>x
 |.cond _ x _=>x
 |.block _ x=>x
 |.loop _ x=>x
 |_=>.nop
def Ann.a2:Ann->Ann
 |.seq _ y=>y
 |.cond _ _ y=>y
 |_=>.nop
def Ann.j:Ann->Option Spec
 |.cond j _ _=>j
 |.block j _=>j
 |.loop s _=>some s
 |.reg j _=>j
 |.rgf j _ _=>j
 |.rgp j _ _ _=>j
 |.rga j _ _ _=>j
 |_=>none
def Ann.fz:Ann->List Nat
 |.reg _ l=>l
 |.rgf _ _ l=>l
 |.rgp _ _ l _=>l
 |.rga _ _ l _=>l
 |_=>[]
def Ann.alt:Ann->Option Alt
 |.rga _ _ _ t=>some t
 |_=>none
def Ann.pf:Ann->List Nat
 |.rgf _ l _=>l
 |.rgp _ l _ _=>l
 |.rga _ l _ _=>l
 |_=>[]
def Ann.pz:Ann->List (Nat×List Stp)
 |.rgp _ _ _ l=>l
 |_=>[]
def iZ:Ty->List Stp->Bool
 |_,[]=>true
 |.st t,.st::π=>iZ t π
 |.pair a _,.fst::π=>iZ a π
 |.pair _ b,.snd::π=>iZ b π
 |.box t,.deref::π=>iZ t π
 |_,_=>false
def DN(σ:St)(s:Nat)(π:List Stp):St:=
 match σ.E s with
 |some (.one (.hdr l _ [] _))=>(match σ.L l with
  |some b=>bif iZ b.t π then(match dA b.t b.m π .ro with
   |some mr=>{σ with L:=upd σ.L l (some ⟨b.v+1,b.t,mr,b.x⟩)}
   |none=>σ)else σ
  |none=>σ)
 |_=>σ
def sP(σ:St):List (Nat×List Stp)->St
 |[]=>σ
 |p::ps=>sP (DN σ p.1 p.2) ps
def qx(σ:St):List Nat->St
 |[]=>σ
 |s::ss=>match σ.E s with
  |some (.one (.hdr l _ _ _))=>(match σ.L l with|some b=>qx (σ.frz l b) ss|none=>qx σ ss)
  |_=>qx σ ss
structure Ks(R:Type)where
 nrm:St->Option R
 ext:Nat->St->Option R
 ret:St->Option R
def aj{A R:Type}(J:A->Option R)(body:(A->Option R)->Option R):Option R:=body J
def aq{A R:Type}(body:A->(A->Option R)->Option R):Nat->A->Option R
 |0,_=>none
 |n+1,x=>body x (aq body n)
def sQ{R:Type}(o:Option Spec)(W:Nat->Bool)(σ:St)(K:St->Option R)(body:(St->Option R)->Option R):Option R:=
 match o with
 |none=>body K
 |some s=>bif iT σ s W then aj (λx=>K (stJ σ s x)) (λj=>body λσ1=>rU σ s σ1 j)else none
def wrC:Code->Nat->Bool
 |.region _ ops _,j=>da ops.toList j
 |.seq x y,j=>wrC x j||wrC y j
 |.cond _ x y,j=>wrC x j||wrC y j
 |.block _ x,j=>wrC x j
 |.loop x,j=>wrC x j
 |_,_=>false
def G5{R:Type}(V:Env)(N:Nat)(ops:Array Oper)(draw:Bool)(alt:Option Alt)(σ:St)(K:St->Option R):Option R:=
 bif dx N ops.toList then(bif draw then(match alt with|none=>gp V ops.toList ops.toList 0 [] σ K|some t=>GZ V ops.toList σ K t)else bif qv ops.toList then Bd V ops.toList ops.toList σ K else uH V ops.toList ops.toList σ K)else none
def exec{R:Type}(V:Env)(N n:Nat):Code->Ann->St->Ks R->Option R
 |.skip,_,σ,k=>k.nrm σ
 |.region _ ops draw,an,σ,k=>sQ an.j (da ops.toList) σ k.nrm λnrm=>G5 V N ops draw an.alt (qx σ an.pf) λσ1=>nrm (sP (qx σ1 an.fz) an.pz)
 |.seq x y,an,σ,k=>exec V N n x an.a1 σ {k with nrm:=λσ1=>exec V N n y an.a2 σ1 k}
 |.cond c x y,an,σ,k=>sQ an.j (λj=>wrC x j||wrC y j) σ k.nrm λnrm=>(match opd σ c with
  |some (.val .bool b)=>(match(b:Bool)with
   |true=>exec V N n x an.a1 σ {k with nrm:=nrm}
   |false=>exec V N n y an.a2 σ {k with nrm:=nrm})
  |_=>none)
 |.block id x,an,σ,k=>sQ an.j (wrC x) σ k.nrm λnrm=>exec V N n x an.a1 σ {nrm:=nrm,ext:=λi σ1=>bif Nat.beq i id then nrm σ1 else k.ext i σ1,ret:=k.ret}
 |.loop x,an,σ,k=>(match an.j with
  |some s=>bif iT σ s (wrC x)then rU σ s σ λx0=>aq (λy cont=>exec V N n x an.a1 (stJ σ s y) {k with nrm:=λσ1=>rU σ s σ1 cont}) n x0 else none
  |none=>none)
 |.exit id,_,σ,k=>k.ext id σ
 |.ret,_,σ,k=>k.ret σ
 |_,_,_,_=>none
def nR{R:Type}(B:bO)(σ:St)(W:Nat->Bool)(k:Ks R)(r:R):Exit->Act->World->Prop
 |.normal,a,w=>∃ σ',k.nrm σ'=some r/\Inv B σ' a w/\ES σ σ' W
 |.exit id,a,w=>∃ σ',k.ext id σ'=some r/\Inv B σ' a w/\ES σ σ' W
 |.ret,a,w=>∃ σ',k.ret σ'=some r/\Inv B σ' a w
 |_,_,_=>False
section
variable {P:Program} {B:bO} {σ:St} {a:Act} {w:World}
theorem nR.imp{R:Type}{σ σ1:St}{W W1:Nat->Bool}{k k1:Ks R}{r:R}(hes:ES σ σ1 W)(hW:∀ j,W j=false->W1 j=false)(hn:∀ σ' a w,k1.nrm σ'=some r->Inv B σ' a w->ES σ σ' W->∃ iS,k.nrm iS=some r/\Inv B iS a w/\ES σ iS W)
 (he:∀ i σ',k1.ext i σ'=k.ext i σ') (hr:∀ σ',k1.ret σ'=k.ret σ') {e:Exit} {a:Act} {w:World} (h:nR B σ1 W1 k1 r e a w):nR B σ W k r e a w:=by
 cases e with
 |normal=>
  obtain⟨σ',h1,h2,h3⟩:=h
  exact hn σ' a w h1 h2 (hes.trans h3 (λ_ h=>h) hW)
 |exit id=>
  obtain⟨σ',h1,h2,h3⟩:=h
  exact⟨σ',by rw[<-he];exact h1,h2,hes.trans h3 (λ_ h=>h) hW⟩
 |ret=>
  obtain⟨σ',h1,h2⟩:=h
  exact⟨σ',by rw[<-hr];exact h1,h2⟩
 |goto _=>exact h
 |panic _=>exact h
 |outgrown=>exact h
theorem nS{R:Type}{o:Option Spec}{c:Code}{W:Nat->Bool}(h:Inv B σ a w){k:Ks R}{r:R}{body:(St->Option R)->Option R}(hk:sQ o W σ k.nrm body=some r)(main:∀ nrm,body nrm=some r->wpN P c (nR B σ W {k with nrm:=nrm} r) a w):
 wpN P c (nR B σ W k r) a w:=by
 unfold sQ at hk
 split at hk
 ·exact main _ hk
 ·rename_i s
  cases hs:iT σ s W
  ·rw[hs]at hk;cases hk
  rw[hs]at hk
  simp only[cond_true]at hk
  have hv:wC σ:=by obtain⟨F,Sg,cg,h⟩:=h;exact h.ver
  have hvf:wD B σ:=by obtain⟨F,Sg,cg,h⟩:=h;exact h.FL
  refine eo (main _ hk) (λe a' w' hp=>nR.imp (k:=k) (k1:={k with nrm:=λσ1=>rU σ s σ1 λx=>k.nrm (stJ σ s x)}) (ES.refl _ _) (λ_ h=>h) (λσ' a w h1 h2 h3=>?_) (λ_ _=>rfl) (λ_=>rfl) hp)
  have h1:(rU σ s σ' λx=>k.nrm (stJ σ s x))=some r:=h1
  obtain⟨x,g1,g2⟩:=uJ h2 hv hvf h3 hs h1
  exact⟨_,g1,g2,uK hs x⟩
theorem DO{R:Type}{V:Env}(hV:cE P V){id:Nat}{ops:Array Oper}{draw:Bool}{alt:Option Alt}(h:Inv B σ a w){k:Ks R}{r:R}(hk:G5 V B.N ops draw alt σ k.nrm=some r):wpN P (Code.region id ops draw) (nR B σ (da ops.toList) k r) a w:=by
 unfold G5 at hk
 cases hN:dx B.N ops.toList
 ·rw[hN]at hk;cases hk
 rw[hN]at hk
 simp only[cond_true]at hk
 cases draw
 ·simp only[cond_false]at hk
  cases hc:qv ops.toList
  ·rw[hc]at hk
   exact lF (yi hV hN h hk (λσ' a' w' h1 h2 h3=>⟨σ',h1,h2,h3⟩))
  ·rw[hc]at hk
   exact vm hV hN h hk (λσ' a' w' h1 h2 h3=>⟨σ',h1,h2,h3⟩)
 ·simp only[cond_true]at hk
  cases alt with
  |none=>exact lF (wp_region_any hV.mix (sL hV hN hk (sM h) (λσ' a' w' h1 h2 h3=>⟨σ',h1,h2,h3⟩)))
  |some t=>exact lF (DI hV hN hk h (λσ' a' w' h1 h2 h3=>⟨σ',h1,h2,h3⟩))
theorem wQ:∀ (ss:List Nat) {σ:St},Inv B σ a w->Inv B (qx σ ss) a w/\∀ j,ER (σ.E j) ((qx σ ss).E j):=by
 intro ss
 induction ss with
 |nil=>intro σ h;exact⟨h,λ_=>.refl _⟩
 |cons s ss ih=>
  intro σ h
  simp only[qx]
  split
  ·rename_i l n π c hE
   cases hl:σ.L l with
   |none=>simp only;exact ih h
   |some b=>
    simp only
    obtain⟨F,Sg,cg,h⟩:=h
    obtain⟨g1,g2⟩:=ih ⟨_,Sg,cg,h.frz hl⟩
    exact⟨g1,λj=>(Aa j).trans (g2 j)⟩
  ·exact ih h
theorem Bf:∀ (π:List Stp) (t:Ty) (m mr:Md) (x:t.T) (cs:List Value) (S F:ae) (w:World),Rep F w t m x cs S->iZ t π=true->dA t m π .ro=some mr->
 ∃ Sp S':ae,Sub Sp S/\Sub S' S/\Dis Sp S'/\∀ F',Sub F F'->Sub Sp F'->Rep F' w t mr x cs S':=by
 intro π
 induction π with
 |nil=>
  intro t m mr x cs S F w h _ hm
  have hmr:Md.ro=mr:=by unfold dA at hm;cases t <;> (injection hm)
  subst hmr
  exact⟨S,ae.none,Sub.refl _,λ_ h=>h.elim,λ_ _ h=>h.elim,λF' hF hS=>fJ hF _ _ _ _ _ _ h hS⟩
 |cons p π ih=>
  intro t m mr x cs S F w h hp hm
  cases t <;> cases p <;> simp only[iZ,Bool.false_eq_true]at hp
  case st.st t=>
   simp only[dA]at hm
   exact ih t m mr x cs S F w h hp hm
  case pair.fst a b=>
   simp only[dA]at hm
   cases h1:dA a m.fst π .ro with
   |none=>rw[h1]at hm;cases hm
   |some r=>
    obtain⟨c1,c2,S1,S2,rfl,g1,g2,s1,s2,d⟩:=h
    obtain⟨Sp,S1',q1,q2,q3,q4⟩:=ih a m.fst r x.1 c1 S1 F w g1 hp h1
    refine⟨Sp,S1'.or S2,q1.trans s1,λk hk=>hk.elim (λh=>s1 k (q2 k h)) (λh=>s2 k h),λk a b=>b.elim (λb=>q3 k a b) (λb=>d k (q1 k a) b),λF' hF hS=>?_⟩
    have hx1:=q4 F' hF hS
    have hx2:=aA (w':=w) hF (λ_ _=>rfl) _ _ _ _ _ _ g2 (Sub.refl _) (λ_ _=>rfl)
    rw[h1]at hm
    simp only at hm
    have fin:∀ mm:Md,mm.fst=r->mm.snd=m.snd->Rep F' w (.pair a b) mm x (c1++c2) (S1'.or S2):=λmm e1 e2=>
     ⟨c1,c2,S1',S2,rfl,by rw[e1];exact hx1,by rw[e2];exact hx2,λ_ h=>.inl h,λ_ h=>.inr h,λk a b=>d k (q2 k a) b⟩
    split at hm
    ·rename_i he
     injection hm with hm;subst hm;exact fin _ he.symm rfl
    ·injection hm with hm;subst hm;exact fin _ rfl rfl
  case pair.snd a b=>
   simp only[dA]at hm
   cases h1:dA b m.snd π .ro with
   |none=>rw[h1]at hm;cases hm
   |some r=>
    obtain⟨c1,c2,S1,S2,rfl,g1,g2,s1,s2,d⟩:=h
    obtain⟨Sp,S2',q1,q2,q3,q4⟩:=ih b m.snd r x.2 c2 S2 F w g2 hp h1
    refine⟨Sp,S1.or S2',q1.trans s2,λk hk=>hk.elim (λh=>s1 k h) (λh=>s2 k (q2 k h)),λk a b=>b.elim (λb=>d k b (q1 k a)) (λb=>q3 k a b),λF' hF hS=>?_⟩
    have hx2:=q4 F' hF hS
    have hx1:=aA (w':=w) hF (λ_ _=>rfl) _ _ _ _ _ _ g1 (Sub.refl _) (λ_ _=>rfl)
    rw[h1]at hm
    simp only at hm
    have fin:∀ mm:Md,mm.fst=m.fst->mm.snd=r->Rep F' w (.pair a b) mm x (c1++c2) (S1.or S2'):=λmm e1 e2=>
     ⟨c1,c2,S1,S2',rfl,by rw[e1];exact hx1,by rw[e2];exact hx2,λ_ h=>.inl h,λ_ h=>.inr h,λk a b=>d k a (q2 k b)⟩
    split at hm
    ·rename_i he
     injection hm with hm;subst hm;exact fin _ rfl he.symm
    ·injection hm with hm;subst hm;exact fin _ rfl rfl
  case box.deref t=>
   cases m with
   |ro=>simp[dA]at hm
   |pr _ _=>simp[dA]at hm
   |own e=>
    simp only[dA]at hm
    cases h1:dA t e π .ro with
    |none=>rw[h1]at hm;cases hm
    |some r=>
     rw[h1]at hm
     simp only[Option.some.injEq]at hm
     subst hm
     obtain⟨b,c,ee,rfl,hb,hS,S1,hr,s1,n1⟩:=h
     obtain⟨Sp,S1',q1,q2,q3,q4⟩:=ih t e r x _ S1 F w hr hp h1
     refine⟨Sp,λk=>S1' k\/k=b,q1.trans s1,λk hk=>hk.elim (λh=>s1 k (q2 k h)) (λh=>h ▸ hS),λk a c=>c.elim (λc=>q3 k a c) (λc=>n1 (c ▸ q1 k a)),λF' hF hSp=>?_⟩
     exact⟨b,c,ee,rfl,hb,.inr rfl,S1',q4 F' hF hSp,λk h=>.inl h,λh=>n1 (q2 b h)⟩
theorem DP(h:Inv B σ a w)(s:Nat)(π:List Stp):Inv B (DN σ s π) a w/\(DN σ s π).E=σ.E:=by
 unfold DN
 split
 case h_2=>exact⟨h,rfl⟩
 rename_i l n c hE
 cases hl:σ.L l with
 |none=>exact⟨h,rfl⟩
 |some b=>
 simp only
 cases hp:iZ b.t π
 ·exact⟨h,rfl⟩
 simp only[cond_true]
 cases hm:dA b.t b.m π .ro with
 |none=>exact⟨h,rfl⟩
 |some mr=>
 obtain⟨F,Sg,cg,h⟩:=h
 obtain⟨Sp,S',q1,q2,q3,q4⟩:=Bf π b.t b.m mr b.x (cg l) (Sg l) F w (h.lab l b hl) hp hm
 have hL:∀ j bj,upd σ.L l (some ⟨b.v+1,b.t,mr,b.x⟩) j=some bj->(j=l/\bj=⟨b.v+1,b.t,mr,b.x⟩)\/(j≠l/\σ.L j=some bj):=λj bj hj=>by
  rcases cZ hj with⟨e,e2⟩|e
  ·injection e2 with e2;exact .inl ⟨e,e2.symm⟩
  ·exact .inr e
 refine⟨⟨λk=>F k\/Sp k,λj=>if j=l then S' else Sg j,cg,h.step (w':=w) (S:=ae.none) ⟨rfl,rfl,rfl,Nat.le_refl _,λ_ _ _=>rfl⟩ (λ_ h=>h.elim) (λ_ h=>h.elim) ?_ ?_ ?_ ?_ ?_ (λ_ h=>.inl h) ?_ ?_⟩,rfl⟩
 ·intro j bj hj
  rcases hL j bj hj with⟨rfl,rfl⟩|⟨hne,hj⟩
  ·right
   exact⟨b,hl,Nat.lt_succ_self _,rfl,by rw[if_pos rfl];exact q4 _ (λ_ h=>.inl h) (λ_ h=>.inr h)⟩
  ·left
   exact⟨hj,if_neg hne,λ_ _ h=>h.elim⟩
 ·intro j j' bj bj' hne hj hj'
  rcases hL j bj hj with⟨rfl,rfl⟩|⟨h1,hj1⟩ <;> rcases hL j' bj' hj' with⟨rfl,rfl⟩|⟨h2,hj2⟩
  ·exact absurd rfl hne
  ·rw[if_pos rfl,if_neg h2];exact(h.dis j j' b bj' hne hl hj2).mono q2 (Sub.refl _)
  ·rw[if_pos rfl,if_neg h1];exact(h.dis j j' bj b hne hj1 hl).mono (Sub.refl _) q2
  ·rw[if_neg h1,if_neg h2];exact h.dis j j' bj bj' hne hj1 hj2
 ·intro j bj hj
  rcases hL j bj hj with⟨rfl,rfl⟩|⟨h1,hj⟩
  ·rw[if_pos rfl]
   rintro k hk (hf|hf)
   ·exact h.bY j b hl k (q2 k hk) hf
   ·exact q3 k hf hk
  ·rw[if_neg h1]
   rintro k hk (hf|hf)
   ·exact h.bY j bj hj k hk hf
   ·exact h.dis j l bj b h1 hj hl k hk (q1 k hf)
 ·intro j bj hj k hk
  rcases hL j bj hj with⟨rfl,rfl⟩|⟨h1,hj⟩
  ·rw[if_pos rfl]at hk;exact h.lt j b hl k (q2 k hk)
  ·rw[if_neg h1]at hk;exact h.lt j bj hj k hk
 ·intro j bj hj k hk hlt
  rcases hL j bj hj with⟨rfl,rfl⟩|⟨h1,hj⟩
  ·rw[if_pos rfl]at hk;exact h.may j b hl k (q2 k hk) hlt
  ·rw[if_neg h1]at hk;exact h.may j bj hj k hk hlt
 ·rintro k (hk|hk)
  ·exact h.fl k hk
  ·exact h.lt l b hl k (q1 k hk)
 ·rintro k (hk|hk) hlt hn
  ·exact h.fs k hk hlt hn
  ·exact absurd (h.may l b hl k (q1 k hk) hlt) hn
theorem Bg:∀ (ps:List (Nat×List Stp)) {σ:St},Inv B σ a w->Inv B (sP σ ps) a w/\(sP σ ps).E=σ.E:=by
 intro ps
 induction ps with
 |nil=>intro σ h;exact⟨h,rfl⟩
 |cons p ps ih=>
  intro σ h
  obtain⟨h1,h2⟩:=DP h p.1 p.2
  obtain⟨h3,h4⟩:=ih h1
  exact⟨h3,h4.trans h2⟩
theorem DR{R:Type}{V:Env}(hV:cE P V)(n:Nat):∀ (c:Code) (an:Ann) (σ:St) (k:Ks R) (r:R) (a:Act) (w:World),exec V B.N n c an σ k=some r->Inv B σ a w->wpN P c (nR B σ (wrC c) k r) a w:=by
 intro c
 induction c with
 |skip=>intro an σ k r a w hk h;exact lF (wp_skip ⟨σ,hk,h,ES.refl _ _⟩)
 |region id ops draw=>
  intro an σ k r a w hk h
  refine nS h hk (λnrm hk=>?_)
  obtain⟨h',xY⟩:=wQ an.pf h
  have hwp:=DO (id:=id) hV (k:={k with nrm:=λσ1=>nrm (sP (qx σ1 an.fz) an.pz)}) h' hk
  refine eo hwp (λe a' w' hp=>?_)
  cases e with
  |normal=>
   obtain⟨σ1,q1,q2,q3⟩:=hp
   obtain⟨g1,g2⟩:=wQ an.fz q2
   obtain⟨g3,g4⟩:=Bg an.pz g1
   exact⟨_,q1,g3,λj hj=>(xY j).trans ((q3 j hj).trans (by rw[g4];exact g2 j))⟩
  |exit i=>obtain⟨σ1,q1,q2,q3⟩:=hp;exact⟨σ1,q1,q2,λj hj=>(xY j).trans (q3 j hj)⟩
  |ret=>exact hp
  |goto _=>exact hp
  |panic _=>exact hp
  |outgrown=>exact hp
 |seq x y ihx ihy=>
  intro an σ k r a w hk h
  simp only[exec]at hk
  have wx:∀ j,wrC (.seq x y) j=false->wrC x j=false:=λj hj=>by simp only[wrC,Bool.or_eq_false_iff]at hj;exact hj.1
  have wy:∀ j,wrC (.seq x y) j=false->wrC y j=false:=λj hj=>by simp only[wrC,Bool.or_eq_false_iff]at hj;exact hj.2
  refine DJ (eo (ihx an.a1 σ _ r a w hk h) (λe a' w' hp=>?_))
  cases e with
  |normal=>
   obtain⟨σ1,h1,h2,h3⟩:=hp
   exact eo (ihy an.a2 σ1 k r a' w' h1 h2) (λe a'' w'' hp=>nR.imp (h3.mono wx) wy (λσ' a w q1 q2 q3=>⟨σ',q1,q2,q3⟩) (λ_ _=>rfl) (λ_=>rfl) hp)
  |exit id=>obtain⟨σ1,h1,h2,h3⟩:=hp;exact⟨σ1,h1,h2,h3.mono wx⟩
  |ret=>exact hp
  |goto _=>exact hp
  |panic _=>exact hp
  |outgrown=>exact hp
 |cond c x y ihx ihy=>
  intro an σ k r a w hk h
  refine nS (W:=wrC (.cond c x y)) h hk (λnrm hk=>?_)
  have wx:∀ j,wrC (.cond c x y) j=false->wrC x j=false:=λj hj=>by simp only[wrC,Bool.or_eq_false_iff]at hj;exact hj.1
  have wy:∀ j,wrC (.cond c x y) j=false->wrC y j=false:=λj hj=>by simp only[wrC,Bool.or_eq_false_iff]at hj;exact hj.2
  split at hk
  ·rename_i b hc
   have hcv:a.eval c=.bool b:=by obtain⟨F,Sg,cg,h⟩:=h;exact eV (aG h hc)
   refine AZ hcv ?_
   split at hk
   ·exact eo (ihx an.a1 σ _ r a w hk h) (λe a' w' hp=>nR.imp (k:={k with nrm:=nrm}) (ES.refl _ _) wx (λσ' a w q1 q2 q3=>⟨σ',q1,q2,q3⟩) (λ_ _=>rfl) (λ_=>rfl) hp)
   ·exact eo (ihy an.a2 σ _ r a w hk h) (λe a' w' hp=>nR.imp (k:={k with nrm:=nrm}) (ES.refl _ _) wy (λσ' a w q1 q2 q3=>⟨σ',q1,q2,q3⟩) (λ_ _=>rfl) (λ_=>rfl) hp)
  ·cases hk
 |block id x ihx=>
  intro an σ k r a w hk h
  refine nS (W:=wrC (.block id x)) h hk (λnrm hk=>?_)
  refine yP (eo (ihx an.a1 σ _ r a w hk h) (λe a' w' hp=>?_))
  cases e with
  |normal=>exact hp
  |exit i=>
   obtain⟨σ1,h1,h2,h3⟩:=hp
   simp only at h1
   show(if i=id then _ else _:Prop)
   cases hb:Nat.beq i id
   ·rw[hb]at h1
    rw[if_neg (λe=>by rw[e,Nat.beq_refl]at hb;cases hb)]
    exact⟨σ1,h1,h2,h3⟩
   ·rw[hb]at h1
    rw[if_pos (Nat.eq_of_beq_eq_true hb)]
    exact⟨σ1,h1,h2,h3⟩
  |ret=>exact hp
  |goto _=>exact hp
  |panic _=>exact hp
  |outgrown=>exact hp
 |loop x ihx=>
  intro an σ k r a w hk h
  simp only[exec]at hk
  cases hj:an.j with
  |none=>rw[hj]at hk;cases hk
  |some s=>
  rw[hj]at hk
  simp only at hk
  cases hs:iT σ s (wrC x)
  ·rw[hs]at hk;cases hk
  rw[hs]at hk
  simp only[cond_true]at hk
  have hv:wC σ:=by obtain⟨F,Sg,cg,h⟩:=h;exact h.ver
  have hvf:wD B σ:=by obtain⟨F,Sg,cg,h⟩:=h;exact h.FL
  obtain⟨x0,hk,h0⟩:=uJ h hv hvf (ES.refl σ (wrC x)) hs hk
  refine Ba (λm a w=>∃ y,aq (λy cont=>exec V B.N n x an.a1 (stJ σ s y) {k with nrm:=λσ1=>rU σ s σ1 cont}) m y=some r/\Inv B (stJ σ s y) a w) (λa w h=>by obtain⟨y,h1,_⟩:=h;cases h1) ?_ n a w ⟨x0,hk,h0⟩
  rintro m a w ⟨y,h1,h2⟩
  simp only[aq]at h1
  refine eo (ihx an.a1 _ _ r a w h1 h2) (λe a' w' hp=>?_)
  cases e with
  |normal=>
   obtain⟨σ1,q1,q2,q3⟩:=hp
   exact uJ q2 hv hvf ((uK hs y).trans q3 (λ_ h=>h) (λ_ h=>h)) hs q1
  |exit i=>obtain⟨σ1,q1,q2,q3⟩:=hp;exact⟨σ1,q1,q2,(uK hs y).trans q3 (λ_ h=>h) (λ_ h=>h)⟩
  |ret=>exact hp
  |goto _=>exact hp
  |panic _=>exact hp
  |outgrown=>exact hp
 |exit id=>intro an σ k r a w hk h;exact lF (wp_exit ⟨σ,hk,h,ES.refl _ _⟩)
 |ret=>intro an σ k r a w hk h;exact lF (wp_ret ⟨σ,hk,h⟩)
 |rangeFunc f ps x y _ _=>intro an σ k r a w hk h;cases hk
 |scope x _=>intro an σ k r a w hk h;cases hk
 |label l=>intro an σ k r a w hk h;cases hk
 |goto l=>intro an σ k r a w hk h;cases hk
 |refuse s=>intro an σ k r a w hk h;cases hk
end
def cm:(ps:List (Ty×Md))->(bX ps).T->Nat->St
 |[],_,_=>⟨λ_=>none,λ_=>none,λ_=>false⟩
 |p::ps,x,i=>bif bQ p.2 then(cm ps x.2 (i+1)).mR i (.val p.1 x.1)
  else {E:=upd (cm ps x.2 (i+1)).E i (some (.one (.hdr (i*8+6) 0 [] ⟨p.1,x.1⟩))),L:=upd (cm ps x.2 (i+1)).L (i*8+6) (some ⟨0,p.1,p.2,x.1⟩),U:=λj=>Nat.beq j (i*8+6)||(cm ps x.2 (i+1)).U j}
def DS(TT:Tab)(σ:St):ResultVar->Option ag
 |.tmp t=>match σ.E t with
  |some (.one e)=>some e
  |_=>none
 |.cell a t=>match σ.E a with
  |some (.one e)=>(match TT t with|some td=>mX td σ e some|none=>none)
  |_=>none
def fa(TT:Tab)(σ:St):List ResultVar->Option (List ag)
 |[]=>some []
 |t::ts=>match DS TT σ t with
  |some e=>(match fa TT σ ts with|some es=>some (e::es)|none=>none)
  |none=>none
def DT{R:Type}:(ms:List (Ty×Md))->List Nat->(Nat->Option Lab)->((bX ms).T->(Nat->Option Lab)->Option R)->Option R
 |[],[],L,K=>K () L
 |p::ms,i::mi,L,K=>match L (i*8+6)with
  |some ⟨_,t,m,x⟩=>if h:t=p.1 then(bif decide (m=p.2)&&!p.1.agg then DT ms mi (upd L (i*8+6) none) λys L'=>K (h ▸ x,ys) L' else none)else none
  |none=>none
 |_,_,_,_=>none
def Bh(ps:List (Ty×Md)):List Nat->Bool
 |[]=>true
 |i::mi=>(match ps[i]? with|some p=>!bQ p.2&&!p.1.agg|none=>false)&&Bh ps mi
def DU(TT:Tab)(rs:List (Ty×Md))(mi:List Nat)(ms:List (Ty×Md))(rv:List ResultVar)(σ:St):Option ((bX rs).T×(bX ms).T):=
 match fa TT σ rv with
 |some es=>gC σ rs es σ.L λx L bs=>DT ms mi L λys L'=>bif bs.all λl=>(L' l).isSome then some (x,ys)else none
 |none=>none
def wR(V:Env)(N n:Nat)(c:Code)(an:Ann)(ps rs:List (Ty×Md))(mi:List Nat)(ms:List (Ty×Md))(rv:List ResultVar)(x:(bX ps).T):Option ((bX rs).T×(bX ms).T):=
 exec V N n c an (cm ps x 0) {nrm:=DU V.TT rs mi ms rv,ext:=λ_ _=>none,ret:=DU V.TT rs mi ms rv}
section
variable {P:Program} {F:ae} {w:World} {a:Act}
theorem DV{B:bO}{vs:List Value}{S:ae}(hB:B.w0=w/\B.S0=S/\B.F0=F/\(∀ l,B.fix l=none))(hsz:a.tmps.size=B.N)(hde:a.defers=[])(ha:∀ t,t<vs.length->a.tmps.getD t undef=vs.getD t undef)(hSF:Dis S F)(hF:∀ k,F k->k<w.heap.size)(hS:∀ k,S k->k<w.heap.size):
 ∀ (ps:List (Ty×Md)) (x:(bX ps).T) (i:Nat) (S':ae),fw F w ps x (vs.drop i) S'->Sub S' S->∃ Sg cg,aw B F Sg cg (cm ps x i) a w/\(∀ l b,(cm ps x i).L l=some b->Sub (Sg l) S')/\(∀ l,(cm ps x i).U l=true->i*8<=l/\l % 8=6/\∀ b,(cm ps x i).L l=some b->cg l=(vs.getD (l / 8) undef).cells.toList):=by
 obtain⟨hB1,hB2,hB3,hB4⟩:=hB
 intro ps
 induction ps with
 |nil=>
  intro x i S' h dX
  refine⟨λ_=>ae.none,λ_=>[],?_,λl b h=>(by cases h),λl h=>(by cases h)⟩
  exact
  {fr:=⟨by rw[hB1],by rw[hB1],by rw[hB1],by rw[hB1];exact Nat.le_refl _,λk _ _=>by rw[hB1]⟩
   size:=hsz
   defers:=hde
   f0:=by rw[hB3];exact Sub.refl _
   fl:=hF
   fs:=λk hk _ _=>by rw[hB3];exact hk
   lab:=λl b h=>by cases h
   dis:=λl l' b b' _ h=>by cases h
   bY:=λl b h=>by cases h
   lt:=λl b h=>by cases h
   may:=λl b h=>by cases h
   used:=λl b h=>by cases h
   fix:=λl cs h=>by rw[hB4]at h;cases h
   ent:=λt e h=>by cases h}
 |cons p ps ih=>
  intro x i S' h dX
  obtain⟨v,vs',cs,S1,S2,e,h1,h2,h3,s1,s2,d⟩:=h
  have hi:i<vs.length:=by
   rcases Nat.lt_or_ge i vs.length with h|h
   ·exact h
   ·rw[List.drop_eq_nil_of_le h]at e;cases e
  have hv:vs.getD i undef=v:=by
   rw[List.drop_eq_getElem_cons hi]at e
   injection e with e1 e2
   simp[hi,e1]
  have LB:vs'=vs.drop (i+1):=by
   rw[<-List.tail_drop,e];rfl
  rw[LB]at h3
  obtain⟨Sg,cg,g1,g2,g3⟩:=ih x.2 (i+1) S2 h3 (s2.trans dX)
  have FQ:a.tmps.getD i undef=v:=by rw[ha i hi,hv]
  simp only[cm]
  cases hm:bQ p.2
  ·simp only[cond_false]
   have hU:(cm ps x.2 (i+1)).U (i*8+6)=false:=by
    cases hu:(cm ps x.2 (i+1)).U (i*8+6)
    ·rfl
    ·have:=(g3 _ hu).1;omega
   have i1:=g1.fh (w':=w) rfl rfl rfl (Nat.le_refl _) (l:=i*8+6) (b:=⟨0,p.1,p.2,x.1⟩) hU (upd (cm ps x.2 (i+1)).L (i*8+6) (some ⟨0,p.1,p.2,x.1⟩)) (λ_ _ _=>rfl) h1 (ap _ _ _) (λj hj=>.inr (au _ _ hj))
    (λk hk=>⟨λj bj hj hbj hs=>by rw[au _ _ hj]at hbj;exact d k hk (g2 j bj hbj k hs),λhf=>hSF k (dX k (s1 k hk)) hf,hS k (dX k (s1 k hk)),λ_=>by rw[hB2];exact dX k (s1 k hk)⟩)
   refine⟨_,_,i1.qh (s:=i) (e:=.one (.hdr (i*8+6) 0 [] ⟨p.1,x.1⟩)) (dj i1 (l:=i*8+6) (b:=⟨0,p.1,p.2,x.1⟩) (ap _ _ _) (by rw[FQ];simpa using h2)),λl b hl=>?_,λl hl=>?_⟩
   ·rcases cZ hl with⟨e,_⟩|⟨e,e'⟩
    ·rw[if_pos e];exact s1
    ·rw[if_neg e];exact(g2 l b e').trans s2
   ·by_cases e:l=i*8+6
    ·refine⟨by omega,by omega,λb _=>?_⟩
     rw[if_pos e,show l / 8=i by omega,hv,h2.cells]
    ·have hl':(cm ps x.2 (i+1)).U l=true:=by
      simp only[Bool.or_eq_true]at hl
      rcases hl with hl|hl
      ·exact absurd (Nat.eq_of_beq_eq_true hl) e
      ·exact hl
     obtain⟨q1,q2,q3⟩:=g3 l hl'
     refine⟨by omega,q2,λb hb=>?_⟩
     rw[if_neg e]
     simp only[au _ _ e]at hb
     exact q3 b hb
  ·simp only[cond_true]
   refine⟨Sg,cg,g1.qh (s:=i) (e:=.one (.val p.1 x.1)) ⟨cs,cC _ _ hm _ _ _ _ h1,by rw[FQ];exact h2⟩,λl b hl=>(g2 l b hl).trans s2,λl hl=>?_⟩
   obtain⟨q1,q2,q3⟩:=g3 l hl
   exact⟨by omega,q2,q3⟩
theorem qy{t:TypeId}{v z:Value}(h:(Instr.loadAt t v).run P w=.ok z w):(do loadVar t (<-asAddr v):Sem Value).run P w=.ok z w:=by
 unfold Instr.loadAt Instr.sureAddr at h
 split at h
 ·simpa [asAddr]using h
 ·simp[stuck]at h
theorem sR{B:bO}{Sg:Nat->ae}{cg:Nat->List Value}{σ:St}(h:aw B F Sg cg σ a w){TT:Tab}(hT:bw P TT){f:ResultVar->Sem Value}(hf:∀ t,f (.tmp t)=pure (a.tmps.getD t undef))(hf2:∀ t u,f (.cell t u)=(do loadVar u (<-asAddr (a.tmps.getD t undef)):Sem Value)):
 ∀ {ts:List ResultVar} {es:List ag},fa TT σ ts=some es->∃ vs,bm F w σ.L σ.U cg es vs/\(List.mapM f ts).run P w=.ok vs w:=by
 intro ts
 induction ts with
 |nil=>intro es he;simp only[fa,Option.some.injEq]at he;subst he;exact⟨[],rfl,by simp[Sem.run_pure]⟩
 |cons t ts ih=>
  intro es he
  simp only[fa]at he
  cases h1:DS TT σ t with
  |none=>rw[h1]at he;cases he
  |some e=>
  rw[h1]at he
  simp only at he
  cases h2:fa TT σ ts with
  |none=>rw[h2]at he;cases he
  |some es'=>
  rw[h2]at he
  simp only[Option.some.injEq]at he
  subst he
  obtain⟨vs,g1,g2⟩:=ih h2
  have one:∃ z,al F w σ.L σ.U cg e z/\(f t).run P w=.ok z w:=by
   cases t with
   |tmp t=>
    simp only[DS]at h1
    split at h1
    ·rename_i e' hE
     injection h1 with h1
     subst h1
     exact⟨_,h.ent t _ hE,by rw[hf,Sem.run_pure]⟩
    ·cases h1
   |cell t u=>
    simp only[DS]at h1
    split at h1
    ·rename_i e' hE
     cases hu:TT u with
     |none=>rw[hu]at h1;cases h1
     |some td=>
      rw[hu]at h1
      obtain⟨e2,z,k1,k2,k3⟩:=ri h (hT u td hu) h1 (h.ent t _ hE)
      injection k1 with k1
      subst k1
      exact⟨z,k3,by rw[hf2];exact qy k2⟩
    ·cases h1
  obtain⟨z,o1,o2⟩:=one
  refine⟨z::vs,⟨_,_,rfl,o1,g1⟩,?_⟩
  rw[List.mapM_cons]
  simp only[Sem.run_bind,o2,Result.andThen_ok,g2,Sem.run_pure]
theorem DW{B:bO}{Sg:Nat->ae}{cg:Nat->List Value}{σ:St}(h:aw B F Sg cg σ a w){F2:ae}(hFF:Sub F F2){vs:List Value}{mi0:List Nat}(LC:∀ i,i∈mi0->∀ b,σ.L (i*8+6)=some b->b.t.agg=false->VR b.t (cg (i*8+6)) (vs.getD i undef)){R:Type}:∀ (ms:List (Ty×Md)) (mi:List Nat) (L:Nat->Option Lab) (K:(bX ms).T->(Nat->Option Lab)->Option R) (r:R),DT ms mi L K=some r->(∀ i∈mi,i∈mi0)->(∀ j,L j=none\/L j=σ.L j)->
 ∃ ys L' Sm,K ys L'=some r/\fw F2 w ms ys (mi.map λi=>vs.getD i undef) Sm/\(∀ j,L' j=none\/L' j=L j)/\(∀ k,Sm k->∃ l2 b2,L l2=some b2/\σ.L l2=some b2/\L' l2=none/\Sg l2 k):=by
 intro ms
 induction ms with
 |nil=>
  intro mi L K r hk hmi hL
  cases mi with
  |nil=>exact⟨(),L,ae.none,hk,rfl,λ_=>.inr rfl,λ_ h=>h.elim⟩
  |cons _ _=>cases hk
 |cons p ms ih=>
  intro mi L K r hk hmi hL
  cases mi with
  |nil=>cases hk
  |cons i mi=>
   simp only[DT]at hk
   cases hl:L (i*8+6)with
   |none=>rw[hl]at hk;cases hk
   |some b=>
    rw[hl]at hk
    obtain⟨v,t,m,x⟩:=b
    simp only at hk
    split at hk
    ·rename_i ht
     cases hm:decide (m=p.2)&&!p.1.agg
     ·rw[hm]at hk;cases hk
     rw[hm]at hk
     simp only[cond_true]at hk
     simp only[Bool.and_eq_true,Bool.not_eq_true']at hm
     obtain⟨hm,hag⟩:=hm
     replace hm:=of_decide_eq_true hm
     have hσ:σ.L (i*8+6)=some ⟨v,t,m,x⟩:=by
      rcases hL (i*8+6)with e|e
      ·rw[e]at hl;cases hl
      ·rw[<-e];exact hl
     have hLu:∀ j,upd L (i*8+6) none j=none\/upd L (i*8+6) none j=L j:=λj=>by
      by_cases e:j=i*8+6
      ·subst e;exact .inl (ap _ _ _)
      ·exact .inr (au _ _ e)
     obtain⟨ys,L',Sm,g1,g2,g3,g4⟩:=ih mi _ _ r hk (λi hi=>hmi i (by simp[hi])) (λj=>by
      rcases hLu j with e|e
      ·exact .inl e
      ·rw[e];exact hL j)
     have aK:=aA hFF (λ_ _=>rfl) _ _ _ _ _ _ (h.lab _ _ hσ) (Sub.refl _) (λ_ _=>rfl)
     have hvr:=LC i (hmi i (by simp)) _ hσ (show t.agg=false by rw[ht];exact hag)
     have LD:L' (i*8+6)=none:=by
      rcases g3 (i*8+6)with e|e
      ·exact e
      ·rw[e];exact ap _ _ _
     obtain⟨p1,p2⟩:=p
     simp only at ht hm
     subst ht;subst hm
     refine⟨(x,ys),L',(Sg (i*8+6)).or Sm,g1,⟨_,_,_,Sg (i*8+6),Sm,rfl,aK,hvr,g2,λk h=>.inl h,λk h=>.inr h,λk h1 h2=>?_⟩,λj=>?_,λk hk=>?_⟩
     ·obtain⟨l2,b2,q1,q2,q3,q4⟩:=g4 k h2
      by_cases e:i*8+6=l2
      ·subst e;rw[ap]at q1;cases q1
      ·exact h.dis _ l2 _ b2 e hσ q2 k h1 q4
     ·rcases g3 j with e|e
      ·exact .inl e
      ·rw[e];exact hLu j
     ·rcases hk with hk|hk
      ·exact⟨_,_,hl,hσ,LD,hk⟩
      ·obtain⟨l2,b2,q1,q2,q3,q4⟩:=g4 k hk
       refine⟨l2,b2,?_,q2,q3,q4⟩
       rcases hLu l2 with e|e
       ·rw[e]at q1;cases q1
       ·rw[<-e];exact q1
    ·cases hk
theorem sS{B:bO}{Sg:Nat->ae}{cg:Nat->List Value}{σ:St}(h:aw B F Sg cg σ a w){TT:Tab}(hT:bw P TT){fn:Func}{rv:List ResultVar}(hr:fn.results=rv.toArray){es:List ag}(he:fa TT σ rv=some es):∃ vs,bm F w σ.L σ.U cg es vs/\(results fn a.tmps).run P w=.ok (uA vs) w:=by
 unfold results
 rw[hr,Sem.run_bind,Array.mapM_eq_mapM_toList]
 generalize hf:(λx:ResultVar=>(match x with
  |.tmp t=>pure (a.tmps.getD t undef)
  |.cell c t=>do loadVar t (<-asAddr (a.tmps.getD c undef)):Sem Value))=f
 obtain⟨vs,g1,g2⟩:=sR h hT (f:=f) (λt=>by rw[<-hf]) (λt u=>by rw[<-hf]) he
 refine⟨vs,g1,?_⟩
 rw[show Sem.run P (List.toArray <$> List.mapM f rv.toArray.toList) w=.ok vs.toArray w by
  change Sem.run P (List.mapM f rv >>= λl=>pure l.toArray) w=_
  simp only[Sem.run_bind,g2,Result.andThen_ok,Sem.run_pure]]
 simp only[Result.andThen_ok,Sem.run_pure]
 congr 1
 cases vs with
 |nil=>simp[uA]
 |cons t rv=>
  cases rv with
  |nil=>simp[uA]
  |cons t2 rv=>simp[uA]
theorem fw.get:∀ {ps:List (Ty×Md)} {x:(bX ps).T} {vs:List Value} {S:ae} (i:Nat) (p:Ty×Md),fw F w ps x vs S->ps[i]?=some p->∃ cs,VR p.1 cs (vs.getD i undef):=by
 intro ps
 induction ps with
 |nil=>intro x vs S i p _ h;simp at h
 |cons q ps ih=>
  rintro x vs S i p ⟨v,vs',cs,S1,S2,rfl,h1,h2,h3,_⟩ hi
  cases i with
  |zero=>simp at hi;subst hi;exact⟨cs,h2⟩
  |succ i=>simp at hi;simpa using ih i p h3 hi
theorem G6:∀ (ps:List (Ty×Md)) (x:(bX ps).T) (i j:Nat) (p:Ty×Md),ps[j]?=some p->bQ p.2=false->(cm ps x i).U ((i+j)*8+6)=true:=by
 intro ps
 induction ps with
 |nil=>intro x i j p h;simp at h
 |cons q ps ih=>
  intro x i j p h hp
  cases j with
  |zero=>
   simp at h
   subst h
   simp only[cm,hp,cond_false,Nat.add_zero,Nat.beq_refl,Bool.true_or]
  |succ j=>
   simp at h
   have:=ih x.2 (i+1) j p h hp
   rw[show i+1+j=i+(j+1) by omega]at this
   simp only[cm]
   cases bQ q.2
   ·simp only[cond_false,this,Bool.or_true]
   ·exact this
theorem Bi{ps:List (Ty×Md)}:∀ {mi:List Nat},Bh ps mi=true->∀ i∈mi,∃ p,ps[i]?=some p/\bQ p.2=false/\p.1.agg=false:=by
 intro mi
 induction mi with
 |nil=>intro _ i h;simp at h
 |cons j mi ih=>
  intro h i hi
  simp only[Bh,Bool.and_eq_true]at h
  rcases List.mem_cons.1 hi with rfl|hi
  ·cases hp:ps[i]? with
   |none=>rw[hp]at h;exact absurd h.1 (by simp)
   |some p=>
    rw[hp]at h
    simp only[Bool.and_eq_true,Bool.not_eq_true']at h
    exact⟨p,rfl,h.1⟩
  ·exact ih h.2 i hi
theorem Jc{V:Env}(hV:cE P V){f:FuncId}{fn:Func}{c:Code}(hf:P.funcs[f]?=some fn)(hb:fn.body=some c){ps rs:List (Ty×Md)}{mi:List Nat}{ms:List (Ty×Md)}{rv:List ResultVar}(hr:fn.results=rv.toArray){N:Nat}(hN:fn.ntmps=N)(hps:ps.length<=N)(hmi:Bh ps mi=true)(an:Ann)(n:Nat):
 dC P f ⟨ps,rs,mi,ms,wR V N n c an ps rs mi ms rv⟩:=by
 intro x r hx F w S vs gD hSF hF hS hG
 refine qt hf hb ?_
 have hlen:=gD.len
 simp only at hlen
 have hx:wR V N n c an ps rs mi ms rv x=some r:=hx
 have gD:fw F w ps x vs S:=gD
 generalize ha0:({tmps:=vs.toArray++Array.replicate (fn.ntmps-vs.toArray.size) undef,defers:=[]}:Act)=a0
 have hsz:a0.tmps.size=N:=by rw[<-ha0];simp;omega
 have hde:a0.defers=[]:=by rw[<-ha0]
 have pJ:∀ t,t<vs.length->a0.tmps.getD t undef=vs.getD t undef:=λt ht=>by
  rw[<-ha0]
  simp only[Array.getD_eq_getD_getElem?]
  rw[Array.getElem?_append_left (by simpa using ht)]
  simp
 obtain⟨Sg,cg,i0,_,i2⟩:=DV (a:=a0) (B:=⟨w,S,F,N,λ_=>none,hG,λp hp h=>hSF p h (hG p hp).1,λp hp=>hF p (hG p hp).1⟩) ⟨rfl,rfl,rfl,λ_=>rfl⟩ hsz hde pJ hSF hF hS ps x 0 S (by simpa using gD) (Sub.refl _)
 let B:bO:=⟨w,S,F,N,λl=>if(cm ps x 0).U l=true then some ((vs.getD (l / 8) undef).cells.toList)else none,hG,λp hp h=>hSF p h (hG p hp).1,λp hp=>hF p (hG p hp).1⟩
 have i1:aw B F Sg cg (cm ps x 0) a0 w:=
  {i0 with
   fr:=i0.fr
   fix:=λl cs hl=>by
    simp only[B]at hl
    by_cases hu:(cm ps x 0).U l=true
    ·rw[if_pos hu]at hl
     injection hl with hl
     obtain⟨_,q2,q3⟩:=i2 l hu
     exact⟨⟨hu,q2⟩,λb hb=>by rw[<-hl];exact q3 b hb⟩
    ·rw[if_neg hu]at hl;cases hl}
 have hwp:=DR (B:=B) hV n c an (cm ps x 0) _ r a0 w hx ⟨F,Sg,cg,i1⟩
 have fin:∀ (σ':St) (a':Act) (w':World),DU V.TT rs mi ms rv σ'=some r->Inv B σ' a' w'->a'.defers=[]/\∃ v,(results fn a'.tmps).run P w'=.ok v w'/\pR ⟨ps,rs,mi,ms,wR V N n c an ps rs mi ms rv⟩ r F w S vs (.returned v) w':=by
  rintro σ' a' w' hk ⟨F',Sg',cg',h⟩
  unfold DU at hk
  cases hes:fa V.TT σ' rv with
  |none=>rw[hes]at hk;cases hk
  |some es=>
  rw[hes]at hk
  simp only at hk
  obtain⟨ws,Jd,aO⟩:=sS h hV.tab hr hes
  refine⟨h.defers,_,aO,?_⟩
  obtain⟨x',L1,bs,Sr,hk,hA,hL1,hSr,hbs⟩:=rF h rs es _ σ'.L _ r hk Jd (λ_=>.inr rfl)
  have hFF:Sub F' (λk=>F' k\/∃ l∈bs,Sg' l k):=λk hk=>.inl hk
  obtain⟨ys,L2,Sm,hk,hM,hL2,hSm⟩:=DW h hFF (vs:=vs) (mi0:=mi) (λi hi b hb hag=>by
   obtain⟨p,hp,ho,hpa⟩:=Bi hmi i hi
   have hU:=G6 ps x 0 i p hp ho
   rw[Nat.zero_add]at hU
   have hq:=(h.fix (i*8+6) ((vs.getD i undef).cells.toList) (by
    simp only[B]
    rw[if_pos hU,show(i*8+6) / 8=i by omega])).2 b hb
   obtain⟨cs,hcs⟩:=gD.get i p hp
   rw[hq,hcs.cells]
   unfold VR at hcs |-
   rw[hpa]at hcs
   rw[hag]
   exact hcs) ms mi L1 _ r hk (λ_ h=>h) hL1
  cases fv:bs.all λl=>(L2 l).isSome
  ·rw[fv]at hk;cases hk
  rw[fv]at hk
  simp only[cond_true,Option.some.injEq]at hk
  subst hk
  simp only[List.all_eq_true]at fv
  have hbl:∀ l∈bs,∃ b,L2 l=some b/\L1 l=some b/\σ'.L l=some b:=λl hl=>by
   obtain⟨b,hb⟩:=Option.isSome_iff_exists.1 (fv l hl)
   have h1:L1 l=some b:=by
    rcases hL2 l with e|e
    ·rw[e]at hb;cases hb
    ·rw[<-e];exact hb
   refine⟨b,hb,h1,?_⟩
   rcases hL1 l with e|e
   ·rw[e]at h1;cases h1
   ·rw[<-e];exact h1
  have LF:∀ k,Sr k\/Sm k->¬∃ l∈bs,Sg' l k:=by
   rintro k hk ⟨l,hl,hlk⟩
   obtain⟨b,q1,q2,q3⟩:=hbl l hl
   rcases hk with hk|hk
   ·obtain⟨l2,b2,e1,e2,e3,e4⟩:=hSr k hk
    by_cases e:l2=l
    ·subst e;rw[e3]at q2;cases q2
    ·exact h.dis l2 l b2 b e e2 q3 k e4 hlk
   ·obtain⟨l2,b2,e1,e2,e3,e4⟩:=hSm k hk
    by_cases e:l2=l
    ·subst e;rw[e3]at q1;cases q1
    ·exact h.dis l2 l b2 b e e2 q3 k e4 hlk
  refine⟨_,λk=>F' k\/∃ l∈bs,Sg' l k,Sr,Sm,rfl,hA _ hFF (λl hl k hk=>.inr ⟨l,hl,hk⟩),hM,?_,h.fr,?_,?_,?_,?_⟩
  ·intro k h1 h2
   obtain⟨l2,b2,e1,e2,e3,e4⟩:=hSr k h1
   obtain⟨l3,b3,f1,f2,f3,f4⟩:=hSm k h2
   by_cases e:l2=l3
   ·subst e;rw[e3]at f1;cases f1
   ·exact h.dis l2 l3 b2 b3 e e2 f2 k e4 f4
  ·exact λk hk=>.inl (h.f0 k hk)
  ·rintro k (hk|⟨l,hl,hk⟩)
   ·exact h.fl k hk
   ·obtain⟨b,_,_,q3⟩:=hbl l hl;exact h.lt l b q3 k hk
  ·rintro k (hk|⟨l,hl,hk⟩) hlt hns
   ·exact h.fs k hk hlt hns
   ·obtain⟨b,_,_,q3⟩:=hbl l hl;exact absurd (h.may l b q3 k hk hlt) hns
  ·intro k hk
   have hl2:∃ l2 b2,σ'.L l2=some b2/\Sg' l2 k:=by
    rcases hk with hk|hk
    ·obtain⟨l2,b2,e1,e2,e3,e4⟩:=hSr k hk;exact⟨l2,b2,e2,e4⟩
    ·obtain⟨l2,b2,e1,e2,e3,e4⟩:=hSm k hk;exact⟨l2,b2,e2,e4⟩
   obtain⟨l2,b2,e2,e4⟩:=hl2
   exact⟨h.lt l2 b2 e2 k e4,λhf=>hf.elim (h.bY l2 b2 e2 k e4) (LF k hk),λhlt=>h.may l2 b2 e2 k e4 hlt⟩
 exact eo hwp (λe a' w' hp=>by
  cases e with
  |normal=>obtain⟨σ',h1,h2,_⟩:=hp;exact fin σ' a' w' h1 h2
  |ret=>obtain⟨σ',h1,h2⟩:=hp;exact fin σ' a' w' h1 h2
  |exit i=>obtain⟨σ',h1,_⟩:=hp;cases h1
  |goto _=>exact hp.elim
  |panic _=>exact hp.elim
  |outgrown=>exact hp.elim)
end
def sU:List (Nat×TD)->Tab
 |[]=>λ_=>none
 |p::ps=>λt=>bif Nat.beq t p.1 then some p.2 else sU ps t
def Je(P:Program):List (Nat×TD)->Prop
 |[]=>True
 |p::ps=>TOk P p.1 p.2/\Je P ps
theorem Bj{P:Program}:∀ {l:List (Nat×TD)},Je P l->bw P (sU l):=by
 intro l
 induction l with
 |nil=>intro _ t d h;cases h
 |cons p ps ih=>
  intro hl t d h
  simp only[sU]at h
  cases hb:Nat.beq t p.1
  ·rw[hb]at h;exact ih hl.2 t d h
  ·rw[hb]at h
   simp only[cond_true,Option.some.injEq]at h
   subst h
   rw[Nat.eq_of_beq_eq_true hb]
   exact hl.1
theorem ak{P:Program}{t:Nat}{i:TypeInfo}{d:TD}{z:Value}(h:∀ w:World,(typeInfo t).run P w=.ok i w)(h1:i.size=d.ty.width)(h2:i.bytes=d.bytes)(h3:i.zero=some z)(h4:z.cells.toList=d.zero):∃ i z,P.info? t=some i/\i.size=d.ty.width/\i.bytes=d.bytes/\i.zero=some z/\z.cells.toList=d.zero:=by
 refine⟨i,z,?_,h1,h2,h3,h4⟩
 have h0:=h default
 cases hi:P.info? t with
 |none=>simp[typeInfo,hi]at h0
 |some j=>
  simp[typeInfo,hi]at h0
  rw[h0]
theorem fq{P:Program}{t:Nat}{i:TypeInfo}{d:TD}{k0:IntKind}(hd:d.kd=.int k0)(h:∀ w:World,(typeInfo t).run P w=.ok i w)(h3:i.zero=some (.int k0 0)):∀ k,d.kd=.int k->∃ i,P.info? t=some i/\i.zero=some (.int k 0):=by
 intro k hk
 rw[hd]at hk
 cases hk
 have h0:=h default
 cases hi:P.info? t with
 |none=>simp[typeInfo,hi]at h0
 |some j=>
  simp[typeInfo,hi]at h0
  exact⟨j,rfl,by rw[h0];exact h3⟩
theorem aD{P:Program}{t:Nat}{d:TD}(hd:(match d.kd with|.int _=>false|_=>true)=true):∀ k,d.kd=.int k->∃ i,P.info? t=some i/\i.zero=some (.int k 0):=by
 intro k hk
 rw[hk]at hd
 cases hd
def wS:List (FuncId×Callee)->FuncId->Option Callee
 |[],_=>none
 |p::ps,f=>bif Nat.beq f p.1 then some p.2 else wS ps f
def G7(P:Program):List (FuncId×Callee)->Prop
 |[]=>True
 |p::ps=>(dC P p.1 p.2/\Plain P p.1)/\G7 P ps
theorem Bk{P:Program}:∀ {l:List (FuncId×Callee)},G7 P l->∀ f c,wS l f=some c->dC P f c/\Plain P f:=by
 intro l
 induction l with
 |nil=>intro _ f c h;cases h
 |cons p ps ih=>
  intro hl f c h
  simp only[wS]at h
  cases hb:Nat.beq f p.1
  ·rw[hb]at h;exact ih hl.2 f c h
  ·rw[hb]at h
   simp only[cond_true,Option.some.injEq]at h
   subst h
   rw[Nat.eq_of_beq_eq_true hb]
   exact hl.1
theorem dC.of_eq{P:Program}{f:FuncId}{ps rs:List (Ty×Md)}{mi:List Nat}{ms:List (Ty×Md)}{den G8:(bX ps).T->Option ((bX rs).T×(bX ms).T)}(h:dC P f ⟨ps,rs,mi,ms,den⟩)(he:∀ x,G8 x=den x):dC P f ⟨ps,rs,mi,ms,G8⟩:=by
 have:G8=den:=funext he
 rw[this];exact h
def yS(rd:TypeId->Ty->Bool):List (TypeId×Nat)->Ty->Nat->Bool
 |[],u,_=>(match u with|.unit=>true|_=>false)
 |[p],u,k=>Nat.beq p.2 k&&rd p.1 u
 |p::q::fs,u,k=>(match u with
  |.pair a b=>Nat.beq p.2 k&&(rd p.1 a&&yS rd (q::fs) b (k+a.width))
  |_=>false)
def mq(TT:Tab):Nat->TypeId->Ty->Bool
 |0,_,_=>false
 |n+1,t,ty=>match TT t with
  |none=>false
  |some d=>decide (d.ty=ty)&&(match d.kd with
   |.int k=>decide (ty=.int k)
   |.bool=>decide (ty=.bool)
   |.str=>decide (ty=.str)
   |.slice e=>(match ty with|.sl u=>mq TT n e u&&Nat.blt 0 u.width|_=>false)
   |.array m e=>(match ty with|.arr m' u=>Nat.beq m m'&&mq TT n e u|_=>false)
   |.struct fs=>(match ty with|.st u=>yS (mq TT n) fs u 0|_=>false)
   |_=>false)
theorem ja{TT:Tab}{P:Program}(hT:bw P TT){n:Nat}{t:TypeId}{ty:Ty}(h:mq TT n t ty=true):P.cellsOf t=ty.width:=by
 cases n with
 |zero=>cases h
 |succ n=>
  simp only[mq]at h
  cases hd:TT t with
  |none=>rw[hd]at h;cases h
  |some d=>
   rw[hd]at h
   simp only[Bool.and_eq_true,decide_eq_true_eq]at h
   obtain⟨i,z,h1,h2,_⟩:=(hT t d hd).mQ
   simp[Program.cellsOf,h1,h2,h.1]
theorem mapM_some{α β:Type}{f:α->Option β}:∀ {l:List α} {xs:List β},l.mapM f=some xs->xs.length=l.length/\∀ (i:Nat) (a:α),l[i]?=some a->∃ x:β,xs[i]?=some x/\f a=some x:=by
 intro l
 induction l with
 |nil=>intro xs h;simp at h;subst h;exact⟨rfl,λi a h=>by simp at h⟩
 |cons a l ih=>
  intro xs h
  rw[List.mapM_cons]at h
  cases ha:f a with
  |none=>rw[ha]at h;cases h
  |some b=>
   rw[ha]at h
   cases hl:l.mapM f with
   |none=>rw[hl]at h;cases h
   |some bs=>
    rw[hl]at h
    have h:some (b::bs)=some xs:=h
    injection h with h
    subst h
    obtain⟨h1,h2⟩:=ih hl
    refine⟨by simp[h1],λi x hi=>?_⟩
    cases i with
    |zero=>simp at hi;subst hi;exact⟨b,rfl,ha⟩
    |succ i=>simp at hi;simpa using h2 i x hi
section
variable {H:Type} {enc:TypeId×Value->H} {P:Program} {w:World}
theorem Bl{a:Addr}{n:Nat}{cs:List Value}(h:w.cells? 0 a n=some cs):cs.length=n/\At w a cs:=by
 unfold World.cells? at h
 rw[if_pos (Nat.zero_le _)]at h
 obtain⟨h1,h2⟩:=mapM_some h
 refine⟨by simpa using h1,λj v hj=>?_⟩
 have hlt:j<n:=by have:=(List.getElem?_eq_some_iff.1 hj).1;simp at h1;omega
 obtain⟨x,hx,hc⟩:=h2 j j (by simp[hlt])
 rw[hj]at hx
 injection hx with hx
 rw[hx];exact hc
theorem DX{t:Ty}{F:ae}{a:Addr}{len:Nat}(h:∀ i,i<len->∃ cs x,w.cells? 0 (a.add (i*t.width)) t.width=some cs/\Rep F w t .ro x cs ae.none):∃ (xs:List t.T) (ds:List Value),xs.length=len/\At w a ds/\ds.length=len*t.width/\aF (Rep F w t .ro) xs ds ae.none:=by
 induction len with
 |zero=>exact⟨[],[],rfl,λj v hj=>by simp at hj,by simp,rfl⟩
 |succ len ih=>
  obtain⟨xs,ds,h1,h2,h3,h4⟩:=ih (λi hi=>h i (by omega))
  obtain⟨cs,x,h5,h6⟩:=h len (by omega)
  obtain⟨h7,h8⟩:=Bl h5
  refine⟨xs++[x],ds++cs,by simp[h1],λj v hj=>?_,by rw[List.length_append,h3,h7,Nat.succ_mul],?_⟩
  ·rcases Nat.lt_or_ge j ds.length with hlt|hge
   ·rw[List.getElem?_append_left hlt]at hj;exact h2 j v hj
   ·rw[List.getElem?_append_right hge]at hj
    have:=h8 (j-ds.length) v hj
    rw[add_add,<-h3]at this
    rw[show ds.length+(j-ds.length)=j by omega]at this
    exact this
  ·have h7:aF (Rep F w t .ro) [x] cs ae.none:=⟨cs,[],ae.none,ae.none,by simp,h6,rfl,Sub.refl _,Sub.refl _,λ_ h=>h.elim⟩
   exact(aF.append h4 h7 (λ_ h=>h.elim)).mono (λk h=>h.elim id id)
theorem DY{a:Addr}{v:Value}(h:w.cell? a=some v):a.block<w.heap.size:=by
 rcases Nat.lt_or_ge a.block w.heap.size with h'|h'
 ·exact h'
 ·simp[World.cell?,Array.getElem?_eq_none h']at h
def LtB(w:World):ae:=λk=>k<w.heap.size
theorem G9{TT:Tab}(hT:bw P TT){n:Nat}{F:ae}{g:TypeId->List Value->Prop}
 (ih:∀ t ty cs,mq TT n t ty=true->g t cs->∃ x,Rep F w ty .ro x cs ae.none):
 ∀ (fs:List (TypeId×Nat)) (u:Ty) (k:Nat) (cs:List Value),yS (mq TT n) fs u k=true->k<=cs.length->(cs.length=k+u.width)->
  (∀ f∈fs,g f.1 ((cs.drop f.2).take (P.cellsOf f.1)))->∃ x,Rep F w u .ro x (cs.drop k) ae.none:=by
 intro fs
 induction fs with
 |nil=>
  intro u k cs h hk hl _
  cases u <;> simp only[yS,Bool.false_eq_true]at h
  exact⟨(),List.drop_eq_nil_of_le (by simp[Ty.width]at hl;omega)⟩
 |cons p fs ihf=>
  intro u k cs h hk hl hg
  cases fs with
  |nil=>
   simp only[yS,Bool.and_eq_true]at h
   obtain⟨x,hx⟩:=ih p.1 u _ h.2 (hg p (by simp))
   rw[Nat.eq_of_beq_eq_true h.1,ja hT h.2,List.take_of_length_le (by rw[List.length_drop];omega)]at hx
   exact⟨x,hx⟩
  |cons q fs=>
   simp only[yS]at h
   cases u <;> simp only[Bool.false_eq_true,Bool.and_eq_true]at h
   rename_i a b
   obtain⟨h1,h2,h3⟩:=h
   simp only[Ty.width]at hl
   obtain⟨x,hx⟩:=ih p.1 a _ h2 (hg p (by simp))
   obtain⟨y,hy⟩:=ihf b (k+a.width) cs h3 (by omega) (by omega) (λf hf=>hg f (by simp only[List.mem_cons]at hf |-;exact .inr hf))
   rw[Nat.eq_of_beq_eq_true h1,ja hT h2]at hx
   refine⟨(x,y),_,_,ae.none,ae.none,?_,hx,hy,Sub.refl _,Sub.refl _,λ_ h=>h.elim⟩
   rw[<-List.drop_drop]
   exact(List.take_append_drop _ _).symm
theorem Bm{TT:Tab}(hT:bw P TT){spare:Nat->Bool}{held:Bool}:∀ (n:Nat) (t:TypeId) (ty:Ty),mq TT n t ty=true->∀ (aP:Nat) (cs:List Value) (d:DataW H×List MemPlace),DataW.trod enc P w 0 spare held aP t cs=some d->∃ x,Rep (LtB w) w ty .ro x cs ae.none:=by
 intro n
 induction n with
 |zero=>intro t ty h;cases h
 |succ n ih=>
  intro t ty h aP cs d hd
  have Jf:=ja hT h
  simp only[mq]at h
  cases hdd:TT t with
  |none=>rw[hdd]at h;cases h
  |some td=>
  rw[hdd]at h
  simp only[Bool.and_eq_true,decide_eq_true_eq]at h
  obtain⟨hty,h⟩:=h
  have aM:=(hT t td hdd).desc
  split at h
  ·rename_i k hk
   rw[hk]at aM
   have h:=of_decide_eq_true h
   subst h
   obtain⟨m,rfl,_,hwf⟩:=DataW.trod_int aM.1 hd
   refine⟨m,rfl,?_⟩
   simp only[Lit.wf,Bool.and_eq_true,decide_eq_true_eq]at hwf
   revert hwf
   cases k <;> simp[inK,kLo,kHi,IntKind.min,IntKind.max,IntKind.signed,IntKind.bits] <;> omega
  ·rename_i hk
   rw[hk]at aM
   have h:=of_decide_eq_true h
   subst h
   obtain⟨m,rfl,_⟩:=DataW.trod_bool aM.1 hd
   exact⟨m,rfl⟩
  ·rename_i hk
   rw[hk]at aM
   have h:=of_decide_eq_true h
   subst h
   obtain⟨m,rfl,_,hs⟩:=DataW.trod_string aM.1 hd
   exact⟨a8 m,m,rfl,rfl,hs⟩
  ·rename_i e hk
   rw[hk]at aM
   cases ty <;> simp only[Bool.false_eq_true]at h
   rename_i u
   simp only[Bool.and_eq_true]at h
   obtain⟨h,hw0⟩:=h
   have hw0:=show 0<u.width by simpa [Nat.blt_eq]using hw0
   rcases DataW.trod_slice aM hd with⟨rfl,_⟩|⟨a,len,cap,FR,rest,m,_,rfl,_,_,h1,h2,h3,h4,_⟩
   ·exact⟨[],none,0,rfl,Nat.le_refl _,Nat.zero_le _,λh=>absurd h (Nat.lt_irrefl _)⟩
   ·have gd:=ja hT h
    have eU:∀ i,i<len->∃ cs x,w.cells? 0 (a.add (i*u.width)) u.width=some cs/\Rep (LtB w) w u .ro x cs ae.none:=λi hi=>by
     have:=h4 i hi
     rw[gd]at this
     cases hc:w.cells? 0 (a.add (i*u.width)) u.width with
     |none=>rw[hc]at this;simp[List.getElem?_eq_getElem (show i<FR.length by omega)]at this
     |some cs=>
      rw[hc]at this
      simp only[Option.bind_some]at this
      rw[List.getElem?_eq_getElem (show i<FR.length by omega)]at this
      obtain⟨x,hx⟩:=ih e u h _ _ _ this
      exact⟨cs,x,rfl,hx⟩
    obtain⟨xs,ds,g1,g2,g3,g4⟩:=DX eU
    refine⟨xs,some a,cap,?_,by rw[g1];exact h1,h2,λhp=>⟨a,rfl,?_,ds,g2,g4⟩⟩
    ·show _=[Value.slice (some a) (List.length xs) cap];rw[g1]
    ·have h0:0<ds.length:=by rw[g3];rw[g1]at hp;exact Nat.mul_pos hp hw0
     have hcc:=g2 0 ds[0] (by simp[h0])
     have:=DY hcc
     rwa [fC]at this
  ·rename_i m e hk
   rw[hk]at aM
   cases ty <;> simp only[Bool.false_eq_true]at h
   rename_i m' u
   simp only[Bool.and_eq_true]at h
   obtain⟨h,hw0⟩:=h
   have h:=Nat.eq_of_beq_eq_true h
   subst h
   obtain⟨xs,k,_,_,g1,g2,g3⟩:=DataW.trod_array aM hd
   have gd:=ja hT hw0
   rw[Jf]at g1
   have key:∀ j,j<=m->∃ ys:List u.T,ys.length=j/\aF (Rep (LtB w) w u .ro) ys (cs.take (j*u.width)) ae.none:=by
    intro j
    induction j with
    |zero=>intro _;exact⟨[],rfl,by simp[aF]⟩
    |succ j ihj=>
     intro hj
     obtain⟨ys,q1,q2⟩:=ihj (by omega)
     have:=g3 j (by omega)
     rw[gd,List.getElem?_eq_getElem (show j<xs.length by omega)]at this
     obtain⟨x,hx⟩:=ih e u hw0 _ _ _ this
     refine⟨ys++[x],by simp[q1],?_⟩
     have e1:cs.take ((j+1)*u.width)=cs.take (j*u.width)++(cs.drop (j*u.width)).take u.width:=by
      rw[Nat.succ_mul,List.take_add]
     rw[e1]
     have h7:aF (Rep (LtB w) w u .ro) [x] ((cs.drop (j*u.width)).take u.width) ae.none:=⟨_,[],ae.none,ae.none,(List.append_nil _).symm,hx,rfl,Sub.refl _,Sub.refl _,λ_ h=>h.elim⟩
     exact(aF.append q2 h7 (λ_ h=>h.elim)).mono (λk h=>h.elim id id)
   obtain⟨ys,q1,q2⟩:=key m (Nat.le_refl _)
   rw[List.take_of_length_le (by rw[g1];exact Nat.le_refl _)]at q2
   exact⟨ys,q1,q2⟩
  ·rename_i fs hk
   rw[hk]at aM
   obtain⟨f,hf1,hf2⟩:=aM
   cases ty <;> simp only[Bool.false_eq_true]at h
   rename_i u
   obtain⟨xs,k,_,_,g1,g2,g3⟩:=DataW.trod_struct hf1 hd
   rw[Jf]at g1
   obtain⟨x,hx⟩:=G9 hT (F:=LtB w) (g:=λt cs=>∃ d,DataW.trod enc P w 0 spare held k t cs=some d) (λt ty cs hr hg=>by obtain⟨d,hg⟩:=hg;exact ih t ty hr _ _ _ hg) fs u 0 cs h (Nat.zero_le _) (by rw[g1];simp[Ty.width]) (λp hp=>by
    rw[<-hf2]at hp
    obtain⟨fl,hfl,rfl⟩:=List.mem_map.1 hp
    obtain⟨i,hi⟩:=List.mem_iff_getElem?.1 hfl
    have hi':f[i]?=some fl:=by simpa using hi
    have hlt:i<f.size:=(Array.getElem?_eq_some_iff.1 hi').1
    exact⟨_,(g3 i fl hi').trans (List.getElem?_eq_getElem (show i<xs.length by omega))⟩)
   rw[List.drop_zero]at hx
   exact⟨x,hx⟩
  ·cases h
end
def WfT:(t:Ty)->t.T->Prop
 |.int k,n=>inK k n
 |.bool,_=>True
 |.str,s=>List.length s<=maxLen/\∀ c∈(s:List Int),0<=c/\c<=255
 |.unit,_=>True
 |.pair a b,x=>WfT a x.1/\WfT b x.2
 |.st t,x=>WfT t x
 |.sl t,x=>List.length x<=maxLen/\∀ y∈(x:List t.T),WfT t y
 |.arr n t,x=>List.length x=n/\∀ y∈(x:List t.T),WfT t y
 |.box t,x=>WfT t x
 |.ptr _,none=>True
 |.ptr t,some x=>WfT t x
 |.fH,_=>True
 |.hol _,_=>True
 |.chan,_=>True
 |.fn _,_=>True
 |.may _,_=>True
 |.nl t,x=>List.length x<=maxLen/\∀ y∈(x:List t.T),WfT t y
 |.map k v,x=>∀ p∈(x:List (k.T×v.T)),WfT k p.1/\WfT v p.2
theorem kE{α:Type}{R:α->List Value->ae->Prop}{p:α->Prop}(hp:∀ y c S,R y c S->p y):∀ {x:List α} {cs:List Value} {S:ae},aF R x cs S->∀ y∈x,p y:=by
 intro x
 induction x with
 |nil=>intro cs S _ y hy;simp at hy
 |cons z zs ih=>
  rintro cs S ⟨c1,c2,S1,S2,rfl,h1,h2,_⟩ y hy
  rcases List.mem_cons.1 hy with rfl|hy
  ·exact hp _ _ _ h1
  ·exact ih h2 y hy
theorem Ha{F:ae}{w:World}:∀ (t:Ty) (m:Md) (x:t.T) (cs:List Value) (S:ae),Rep F w t m x cs S->WfT t x:=by
 intro t
 induction t with
 |int k=>intro m x cs S h;exact h.2
 |bool=>intro m x cs S h;trivial
 |str=>
  rintro m x cs S ⟨u,rfl,rfl,hs⟩
  refine⟨by simpa [a8]using hs,λc hc=>?_⟩
  obtain⟨b,_,rfl⟩:=List.mem_map.1 hc
  have:=b.toNat_lt
  omega
 |unit=>intro m x cs S h;trivial
 |fH=>intro m x cs S h;trivial
 |hol t ih=>intro m x cs S h;trivial
 |chan=>intro m x cs S h;trivial
 |fn f=>intro m x cs S h;trivial
 |nl t ih=>
  rintro m x cs S ⟨⟨a,cap,rfl,h1,h2,h3⟩,_⟩
  refine⟨Nat.le_trans h1 h2,λy hy=>?_⟩
  obtain⟨ad,_,_,ds,_,hr⟩:=h3 (List.length_pos_of_mem hy)
  exact kE (λy c S h=>ih _ _ _ _ h) hr y hy
 |map k v ihk ihv=>
  intro m x cs S h
  have main:∀ (es:List MapEntry) (i:Nat),bU (RV (Rep F w k .ro)) (RV (Rep F w v .ro)) x es i->∀ p∈(x:List (k.T×v.T)),WfT k p.1/\WfT v p.2:=by
   clear h
   induction x with
   |nil=>intro es i _ p hp;simp at hp
   |cons y ys ih=>
    rintro es i ⟨e,r,rfl,_,⟨ck,hk,_⟩,⟨cv,hv,_⟩,hr⟩ p hp
    rcases List.mem_cons.1 hp with rfl|hp
    ·exact⟨ihk _ _ _ _ hk,ihv _ _ _ _ hv⟩
    ·exact ih r (i+1) hr p hp
  cases m with
  |own m=>obtain⟨b,es,_,_,_,hr⟩:=h;exact main _ _ hr
  |ro=>
   rcases h with⟨_,rfl⟩|⟨b,es,_,_,_,hr⟩
   ·intro p hp;simp at hp
   ·exact main _ _ hr
  |pr _ _=>
   rcases h with⟨_,rfl⟩|⟨b,es,_,_,_,hr⟩
   ·intro p hp;simp at hp
   ·exact main _ _ hr
 |may t ih=>intro m x cs S h;trivial
 |pair a b iha ihb=>
  rintro m x cs S ⟨c1,c2,S1,S2,rfl,h1,h2,_⟩
  exact⟨iha _ _ _ _ h1,ihb _ _ _ _ h2⟩
 |st t ih=>intro m x cs S h;exact ih m x cs S h
 |arr n t ih=>rintro m x cs S ⟨hn,h⟩;exact⟨hn,kE (λy c S=>ih m.el y c S) h⟩
 |sl t ih=>
  have ro:∀ (x:List t.T) (cs:List Value),uh F w (Rep F w t .ro) x cs->List.length x<=maxLen/\∀ y∈x,WfT t y:=by
   rintro x cs ⟨a,cap,rfl,h1,h2,h3⟩
   refine⟨Nat.le_trans h1 h2,λy hy=>?_⟩
   obtain⟨ad,rfl,_,ds,_,hr⟩:=h3 (List.length_pos_of_mem hy)
   exact kE (λy c S=>ih .ro y c S) hr y hy
  intro m x cs S h
  cases m with
  |ro=>exact ro x cs h
  |pr _ _=>exact ro x cs h
  |own m=>
   obtain⟨a,cap,rfl,h1,h2,h3⟩:=h
   refine⟨Nat.le_trans h1 h2,λy hy=>?_⟩
   rcases h3 with rfl|⟨b,off,c,e,rfl,hb,hc,hS,S1,hr,s1,n1⟩
   ·have:=List.length_pos_of_mem hy;omega
   ·exact kE (λy c S=>ih m y c S) hr y hy
 |box t ih=>
  intro m x cs S h
  cases m with
  |own m=>obtain⟨b,c,e,rfl,hb,hS,S1,hr,_⟩:=h;exact ih m x _ _ hr
  |ro=>obtain⟨a,rfl,_,ds,_,hr⟩:=h;exact ih .ro x _ _ hr
  |pr _ _=>obtain⟨a,rfl,_,ds,_,hr⟩:=h;exact ih .ro x _ _ hr
 |ptr t ih=>
  intro m x cs S h
  cases x with
  |none=>trivial
  |some x=>
   cases m with
   |own m=>obtain⟨b,c,e,rfl,hb,hS,S1,hr,_⟩:=h;exact ih m x _ _ hr
   |ro=>obtain⟨a,rfl,_,ds,_,hr⟩:=h;exact ih .ro x _ _ hr
   |pr _ _=>obtain⟨a,rfl,_,ds,_,hr⟩:=h;exact ih .ro x _ _ hr
open Go Go.ChangeShapes Go.RowKit
section
variable {H:Type} {enc:TypeId×Value->H} {P:Program} {w:World}
theorem yT{TT:Tab}(hT:bw P TT){n:Nat}{t:TypeId}{ty:Ty}(h:mq TT n t ty=true){r:Reach}{base:Nat}{v:Value}(hv:Value.okWide P w r base t v):VR ty v.cells.toList v:=by
 cases n with
 |zero=>cases h
 |succ n=>
  simp only[mq]at h
  cases hdd:TT t with
  |none=>rw[hdd]at h;cases h
  |some td=>
  rw[hdd]at h
  simp only[Bool.and_eq_true,decide_eq_true_eq]at h
  obtain⟨hty,h⟩:=h
  have aM:=(hT t td hdd).desc
  split at h
  ·rename_i k hk
   rw[hk]at aM
   have h:=of_decide_eq_true h
   subst h
   simp only[Value.okWide,aM.1,Cell.okWide,Cell.ok]at hv
   cases v <;> simp_all [VR,Ty.agg,Value.cells,Value.oneCell']
  ·rename_i hk
   rw[hk]at aM
   have h:=of_decide_eq_true h
   subst h
   simp only[Value.okWide,aM.1,Cell.okWide,Cell.ok]at hv
   cases v <;> simp_all [VR,Ty.agg,Value.cells,Value.oneCell']
  ·rename_i hk
   rw[hk]at aM
   have h:=of_decide_eq_true h
   subst h
   simp only[Value.okWide,aM.1,Cell.okWide,Cell.ok]at hv
   cases v <;> simp_all [VR,Ty.agg,Value.cells,Value.oneCell']
  ·rename_i e hk
   rw[hk]at aM
   cases ty <;> simp only[Bool.false_eq_true]at h
   simp only[Value.okWide,aM,Cell.okWide,Cell.ok]at hv
   cases v <;> simp_all [VR,Ty.agg,Value.cells,Value.oneCell']
  ·rename_i m e hk
   rw[hk]at aM
   cases ty <;> simp only[Bool.false_eq_true]at h
   simp only[Value.okWide,aM]at hv
   obtain⟨cs,rfl,_⟩:=hv
   simp[VR,Ty.agg,Value.cells]
  ·rename_i fs hk
   rw[hk]at aM
   obtain⟨f,hf1,hf2⟩:=aM
   cases ty <;> simp only[Bool.false_eq_true]at h
   simp only[Value.okWide,hf1]at hv
   obtain⟨cs,rfl,_⟩:=hv
   simp[VR,Ty.agg,Value.cells]
  ·cases h
def sV(TT:Tab)(n:Nat):List TypeId->List (Ty×Md)->Bool
 |[],[]=>true
 |t::ts,p::ps=>mq TT n t p.1&&decide (p.2=.ro)&&sV TT n ts ps
 |_,_=>false
def WfA:(ps:List (Ty×Md))->(bX ps).T->Prop
 |[],_=>True
 |p::ps,x=>WfT p.1 x.1/\WfA ps x.2
theorem DZ{F:ae}:∀ {ps:List (Ty×Md)} {x:(bX ps).T} {vs:List Value} {S:ae},fw F w ps x vs S->WfA ps x:=by
 intro ps
 induction ps with
 |nil=>intro x vs S _;trivial
 |cons p ps ih=>
  rintro x vs S ⟨v,vs',cs,S1,S2,rfl,h1,h2,h3,_⟩
  exact⟨Ha _ _ _ _ _ h1,ih h3⟩
theorem D1{TT:Tab}(hT:bw P TT){n:Nat}{r:Reach}{base:Nat}{spare:Nat->Bool}{held:Bool}:∀ (ts:List TypeId) (ps:List (Ty×Md)) (vs:List Value) (ds:List (DataW H)) (pl:List MemPlace),sV TT n ts ps=true->DataW.TrodAll enc P w 0 spare held ts vs ds pl->
 (∀ (j:Nat) t v,ts[j]?=some t->vs[j]?=some v->Value.okWide P w r base t v)->∃ x,fw (LtB w) w ps x vs ae.none:=by
 intro ts
 induction ts with
 |nil=>
  intro ps vs ds pl h hA _
  cases ps <;> simp only[sV,Bool.false_eq_true]at h
  obtain⟨rfl,_⟩:=trodAll_nil hA
  exact⟨(),rfl⟩
 |cons t ts ih=>
  intro ps vs ds pl h hA hv
  cases ps with
  |nil=>cases h
  |cons p ps=>
   simp only[sV,Bool.and_eq_true,decide_eq_true_eq]at h
   obtain⟨⟨h1,h2⟩,h3⟩:=h
   obtain⟨v,vs1,d,ds1,a,b,rfl,rfl,rfl,⟨aP,g1⟩,g2⟩:=trodAll_cons hA
   obtain⟨x,hx⟩:=Bm hT n t p.1 h1 aP _ _ g1
   obtain⟨y,hy⟩:=ih ps vs1 ds1 b h3 g2 (λj t v ht hv'=>hv (j+1) t v (by simpa using ht) (by simpa using hv'))
   rw[<-h2]at hx
   exact⟨(x,y),v,vs1,_,ae.none,ae.none,rfl,hx,yT hT h1 (hv 0 t v rfl rfl),hy,Sub.refl _,Sub.refl _,λ_ h=>h.elim⟩
theorem Fr.below{w':World}(h:Fr w ae.none w'):Below w.heap.size w w':=⟨h.os,h.tape,h.output,h.size,λk hk=>h.block k hk (λh=>h)⟩
theorem yU{TT:Tab}(hT:bw P TT){n:Nat}{f:FuncId}{ps:List (Ty×Md)}{den:(bX ps).T->Option ((bX [(Ty.bool,Md.ro)]).T×(bX []).T)}(hf:dC P f ⟨ps,[(.bool,.ro)],[],[],den⟩)
 (all:∀ x,WfA ps x->den x=some ((true,()),())) {r:Reach} {base:Nat} {ts:List TypeId} {args:Array Value} {ds:List (DataW H)} {pl:List MemPlace} {held:Bool} {spare:Nat->Bool} (hr:sV TT n ts ps=true) (hA:DataW.TrodAll enc P w 0 spare held ts args.toList ds pl)
 (hv:∀ (j:Nat) t v,ts[j]?=some t->args[j]?=some v->Value.okWide P w r base t v) (hG:Gh (LtB w) w):Calls P f args w λe w'=>e=.returned (.bool true)/\Below w.heap.size w w':=by
 obtain⟨x,hx⟩:=D1 hT ts ps args.toList ds pl hr hA (λj t v h1 h2=>hv j t v h1 (by simpa using h2))
 have:=hf x _ (all x (DZ hx)) (LtB w) w ae.none args.toList hx (λ_ h=>h.elim) (λ_ h=>h) (λ_ h=>h.elim) hG
 refine Calls.mono (by simpa using this) λe w' hp=>?_
 cases e with
 |panicked _=>exact hp.elim
 |outgrown=>exact hp.elim
 |returned v=>
  obtain⟨ws,F',Sr,Sm,hrv,⟨v1,r1,cs,S1,S2,rfl,h1,h2,h3,_⟩,_,_,fr,_⟩:=hp
  cases h3
  simp only[Rep]at h1
  subst h1
  simp only[VR,Ty.agg,Bool.false_eq_true,if_false]at h2
  obtain⟨h2,_⟩:=h2
  simp only[List.cons.injEq,and_true]at h2
  subst h2
  simp only[IJ,uA]at hrv
  exact⟨by rw[hrv],fr.below⟩
theorem sW:∀ (ts:List TypeId) (vs:List Value) (ds:List (DataW H)) (ps:List MemPlace) {spare:Nat->Bool} {held:Bool},DataW.TrodAll enc P w 0 spare held ts vs ds ps->ds.length=ts.length:=by
 intro ts
 induction ts with
 |nil=>intro vs ds ps _ _ h;obtain⟨rfl,rfl,rfl⟩:=trodAll_nil h;rfl
 |cons t ts ih=>
  intro vs ds ps _ _ h
  obtain⟨v,vs1,d,ds1,a,b,rfl,rfl,rfl,h1,h2⟩:=trodAll_cons h
  simp[ih vs1 ds1 b h2]
theorem oF(hl:laidOutB P=true){w':World}(hb:Below w.heap.size w w'):∀ (ts:List TypeId) (vs:List Value) (ds:List (DataW H)) (ps:List MemPlace),(ts.all λt=>P.readableRec t&&decide (t<P.types.size))=true->DataW.TrodAll enc P w 0 (λ_=>true) true ts vs ds ps->(∀ x∈ps,x.block<w.heap.size)->
 DataW.TrodAll enc P w' 0 (λb=>decide (b<w.heap.size)) true ts vs ds ps:=by
 intro ts
 induction ts with
 |nil=>intro vs ds ps _ h _;obtain⟨rfl,rfl,rfl⟩:=trodAll_nil h;exact rfl
 |cons t ts ih=>
  intro vs ds ps ha h hlt
  simp only[List.all_cons,Bool.and_eq_true,decide_eq_true_eq]at ha
  obtain⟨v,vs1,d,ds1,a,b,rfl,rfl,rfl,h1,h2⟩:=trodAll_cons h
  exact⟨a,b,Below.trod hl ha.1.1 ha.1.2 h1 hb (λx hx=>hlt x (by simp[hx])),ih vs1 ds1 b (by simpa using ha.2) h2 (λx hx=>hlt x (by simp[hx])),rfl⟩
theorem Bn(hl:laidOutB P=true){fn:Func}{s:ChangeSpec}{args:Array Value}{ds gs:List (DataW H)}{before:List MemPlace}{w':World}(hv:s.vars=[])(hrt:∃ t,fn.resultTypes=#[t]/\P.underlying t=some .bool)
 (hfn:∀ ds:List (DataW H),ds.length=fn.params.size->s.fn H ds={results:=[.lit (.bool true)],args:=ds}) (hrd:(fn.params.toList.all λt=>P.readableRec t&&decide (t<P.types.size))=true)
 (hW:DataW.Whole enc P fn.params.toList s.vars false w args.toList ds gs before) (hb:Below w.heap.size w w'):s.post enc P fn false true false false w args (.bool true) w':=by
 have hW':=hW
 obtain⟨p,q,hA,hV,rfl,hfz,_⟩:=hW
 rw[hv]at hV
 obtain⟨rfl,rfl⟩:=trodVars_none hV
 have hlen:=sW _ _ _ _ hA
 have hf:s.fn H (ds++[])={results:=[.lit (.bool true)],args:=ds}:=by rw[List.append_nil];exact hfn ds (by simpa using hlen)
 obtain⟨t,hrt,htb⟩:=hrt
 have hlt:∀ x∈p,x.block<w.heap.size:=λx hx=>by simpa using hW'.lt x (by simpa using hx)
 refine⟨ds,[],p++[],[],p,[],hW',?_,?_,?_,?_,λh=>by cases h⟩
 ·rw[hf,hrt]
  exact trodAll_mk1 (shut_bool htb true)
 ·rw[hf]
  exact oF hl hb _ _ _ _ hrd hA hlt
 ·rw[hv,hf];exact rfl
 ·exact World.keptBut_mono (λx hx=>hx) (hb.frame _)
end
end
noncomputable section
abbrev y2:Ty:=.int .i64
def d2:TD:=⟨.int .i64,8,y2,[(.int .i64 0)]⟩
theorem k2:TOk Tryz.prog 2 d2:=⟨ak Tryz.typeInfo2 rfl rfl rfl rfl,⟨Tryz.underlying2,rfl⟩,rfl,rfl,fq rfl Tryz.typeInfo2 rfl⟩
abbrev y3:Ty:=.int .i64
def d3:TD:=⟨.int .i64,8,y3,[(.int .i64 0)]⟩
theorem k3:TOk Tryz.prog 3 d3:=⟨ak Tryz.typeInfo3 rfl rfl rfl rfl,⟨Tryz.underlying3,rfl⟩,rfl,rfl,fq rfl Tryz.typeInfo3 rfl⟩
abbrev y4:Ty:=.bool
def d4:TD:=⟨.bool,1,y4,[(.bool false)]⟩
theorem k4:TOk Tryz.prog 4 d4:=⟨ak Tryz.typeInfo4 rfl rfl rfl rfl,⟨Tryz.underlying4,rfl⟩,rfl,rfl,aD rfl⟩
abbrev y5:Ty:=.int .u8
def d5:TD:=⟨.int .u8,1,y5,[(.int .u8 0)]⟩
theorem k5:TOk Tryz.prog 5 d5:=⟨ak Tryz.typeInfo5 rfl rfl rfl rfl,⟨Tryz.underlying5,rfl⟩,rfl,rfl,fq rfl Tryz.typeInfo5 rfl⟩
abbrev y6:Ty:=.int .u8
def d6:TD:=⟨.int .u8,1,y6,[(.int .u8 0)]⟩
theorem k6:TOk Tryz.prog 6 d6:=⟨ak Tryz.typeInfo6 rfl rfl rfl rfl,⟨Tryz.underlying6,rfl⟩,rfl,rfl,fq rfl Tryz.typeInfo6 rfl⟩
abbrev y7:Ty:=.st (.pair y2 (.pair y3 (.pair y4 (y6))))
def d7:TD:=⟨.struct [(2,0),(3,1),(4,2),(6,3)],24,y7,[(.int .i64 0),(.int .i64 0),(.bool false),(.int .u8 0)]⟩
theorem k7:TOk Tryz.prog 7 d7:=⟨ak Tryz.typeInfo7 rfl rfl rfl rfl,⟨_,Tryz.underlying7,rfl⟩,rfl,rfl,aD rfl⟩
abbrev y8:Ty:=.st (.pair y2 (.pair y3 (.pair y4 (y6))))
def d8:TD:=⟨.struct [(2,0),(3,1),(4,2),(6,3)],24,y8,[(.int .i64 0),(.int .i64 0),(.bool false),(.int .u8 0)]⟩
theorem k8:TOk Tryz.prog 8 d8:=⟨ak Tryz.typeInfo8 rfl rfl rfl rfl,⟨_,Tryz.underlying8,rfl⟩,rfl,rfl,aD rfl⟩
abbrev y9:Ty:=.str
def d9:TD:=⟨.str,16,y9,[(.string ByteArray.empty)]⟩
theorem k9:TOk Tryz.prog 9 d9:=⟨ak Tryz.typeInfo9 rfl rfl rfl rfl,⟨Tryz.underlying9,rfl⟩,rfl,rfl,aD rfl⟩
abbrev y10:Ty:=.str
def d10:TD:=⟨.str,16,y10,[(.string ByteArray.empty)]⟩
theorem k10:TOk Tryz.prog 10 d10:=⟨ak Tryz.typeInfo10 rfl rfl rfl rfl,⟨Tryz.underlying10,rfl⟩,rfl,rfl,aD rfl⟩
abbrev y11:Ty:=.str
def d11:TD:=⟨.str,16,y11,[(.string ByteArray.empty)]⟩
theorem k11:TOk Tryz.prog 11 d11:=⟨ak Tryz.typeInfo11 rfl rfl rfl rfl,⟨Tryz.underlying11,rfl⟩,rfl,rfl,aD rfl⟩
abbrev y12:Ty:=.int .u64
def d12:TD:=⟨.int .u64,8,y12,[(.int .u64 0)]⟩
theorem k12:TOk Tryz.prog 12 d12:=⟨ak Tryz.typeInfo12 rfl rfl rfl rfl,⟨Tryz.underlying12,rfl⟩,rfl,rfl,fq rfl Tryz.typeInfo12 rfl⟩
abbrev y13:Ty:=.st (.pair y9 (y12))
def d13:TD:=⟨.struct [(9,0),(12,1)],24,y13,[(.string ByteArray.empty),(.int .u64 0)]⟩
theorem k13:TOk Tryz.prog 13 d13:=⟨ak Tryz.typeInfo13 rfl rfl rfl rfl,⟨_,Tryz.underlying13,rfl⟩,rfl,rfl,aD rfl⟩
abbrev y14:Ty:=.st (.pair y9 (y12))
def d14:TD:=⟨.struct [(9,0),(12,1)],24,y14,[(.string ByteArray.empty),(.int .u64 0)]⟩
theorem k14:TOk Tryz.prog 14 d14:=⟨ak Tryz.typeInfo14 rfl rfl rfl rfl,⟨_,Tryz.underlying14,rfl⟩,rfl,rfl,aD rfl⟩
abbrev y21:Ty:=.int .i32
def d21:TD:=⟨.int .i32,4,y21,[(.int .i32 0)]⟩
theorem k21:TOk Tryz.prog 21 d21:=⟨ak Tryz.typeInfo21 rfl rfl rfl rfl,⟨Tryz.underlying21,rfl⟩,rfl,rfl,fq rfl Tryz.typeInfo21 rfl⟩
abbrev y23:Ty:=.sl y9
def d23:TD:=⟨.slice 9,24,y23,[(.slice none 0 0)]⟩
theorem k23:TOk Tryz.prog 23 d23:=⟨ak Tryz.typeInfo23 rfl rfl rfl rfl,Tryz.underlying23,rfl,rfl,aD rfl⟩
abbrev y28:Ty:=.sl y3
def d28:TD:=⟨.slice 3,24,y28,[(.slice none 0 0)]⟩
theorem k28:TOk Tryz.prog 28 d28:=⟨ak Tryz.typeInfo28 rfl rfl rfl rfl,Tryz.underlying28,rfl,rfl,aD rfl⟩
abbrev y29:Ty:=.arr 2 y3
def d29:TD:=⟨.array 2 3,16,y29,[(.int .i64 0),(.int .i64 0)]⟩
theorem k29:TOk Tryz.prog 29 d29:=⟨ak Tryz.typeInfo29 rfl rfl rfl rfl,Tryz.underlying29,rfl,rfl,aD rfl⟩
abbrev y32:Ty:=.int .i64
def d32:TD:=⟨.int .i64,8,y32,[(.int .i64 0)]⟩
theorem k32:TOk Tryz.prog 32 d32:=⟨ak Tryz.typeInfo32 rfl rfl rfl rfl,⟨Tryz.underlying32,rfl⟩,rfl,rfl,fq rfl Tryz.typeInfo32 rfl⟩
abbrev y42:Ty:=.sl y28
def d42:TD:=⟨.slice 28,24,y42,[(.slice none 0 0)]⟩
theorem k42:TOk Tryz.prog 42 d42:=⟨ak Tryz.typeInfo42 rfl rfl rfl rfl,Tryz.underlying42,rfl,rfl,aD rfl⟩
abbrev y63:Ty:=.st (.pair y4 (y3))
def d63:TD:=⟨.struct [(4,0),(3,1)],16,y63,[(.bool false),(.int .i64 0)]⟩
theorem k63:TOk Tryz.prog 63 d63:=⟨ak Tryz.typeInfo63 rfl rfl rfl rfl,⟨_,Tryz.underlying63,rfl⟩,rfl,rfl,aD rfl⟩
abbrev y64:Ty:=.st (.pair y4 (y3))
def d64:TD:=⟨.struct [(4,0),(3,1)],16,y64,[(.bool false),(.int .i64 0)]⟩
theorem k64:TOk Tryz.prog 64 d64:=⟨ak Tryz.typeInfo64 rfl rfl rfl rfl,⟨_,Tryz.underlying64,rfl⟩,rfl,rfl,aD rfl⟩
abbrev y65:Ty:=.st (.pair y64 (y3))
def d65:TD:=⟨.struct [(64,0),(3,2)],24,y65,[(.bool false),(.int .i64 0),(.int .i64 0)]⟩
theorem k65:TOk Tryz.prog 65 d65:=⟨ak Tryz.typeInfo65 rfl rfl rfl rfl,⟨_,Tryz.underlying65,rfl⟩,rfl,rfl,aD rfl⟩
abbrev y66:Ty:=.st (.pair y64 (y3))
def d66:TD:=⟨.struct [(64,0),(3,2)],24,y66,[(.bool false),(.int .i64 0),(.int .i64 0)]⟩
theorem k66:TOk Tryz.prog 66 d66:=⟨ak Tryz.typeInfo66 rfl rfl rfl rfl,⟨_,Tryz.underlying66,rfl⟩,rfl,rfl,aD rfl⟩
abbrev y78:Ty:=.int .u64
def d78:TD:=⟨.int .u64,8,y78,[(.int .u64 0)]⟩
theorem k78:TOk Tryz.prog 78 d78:=⟨ak Tryz.typeInfo78 rfl rfl rfl rfl,⟨Tryz.underlying78,rfl⟩,rfl,rfl,fq rfl Tryz.typeInfo78 rfl⟩
abbrev y79:Ty:=.st (.pair y3 (.pair y3 (y78)))
def d79:TD:=⟨.struct [(3,0),(3,1),(78,2)],24,y79,[(.int .i64 0),(.int .i64 0),(.int .u64 0)]⟩
theorem k79:TOk Tryz.prog 79 d79:=⟨ak Tryz.typeInfo79 rfl rfl rfl rfl,⟨_,Tryz.underlying79,rfl⟩,rfl,rfl,aD rfl⟩
abbrev y80:Ty:=.st (.pair y3 (.pair y3 (y78)))
def d80:TD:=⟨.struct [(3,0),(3,1),(78,2)],24,y80,[(.int .i64 0),(.int .i64 0),(.int .u64 0)]⟩
theorem k80:TOk Tryz.prog 80 d80:=⟨ak Tryz.typeInfo80 rfl rfl rfl rfl,⟨_,Tryz.underlying80,rfl⟩,rfl,rfl,aD rfl⟩
abbrev y82:Ty:=.st (.pair y9 (.pair y3 (y9)))
def d82:TD:=⟨.struct [(9,0),(3,1),(9,2)],40,y82,[(.string ByteArray.empty),(.int .i64 0),(.string ByteArray.empty)]⟩
theorem k82:TOk Tryz.prog 82 d82:=⟨ak Tryz.typeInfo82 rfl rfl rfl rfl,⟨_,Tryz.underlying82,rfl⟩,rfl,rfl,aD rfl⟩
abbrev y83:Ty:=.st (.pair y9 (.pair y3 (y9)))
def d83:TD:=⟨.struct [(9,0),(3,1),(9,2)],40,y83,[(.string ByteArray.empty),(.int .i64 0),(.string ByteArray.empty)]⟩
theorem k83:TOk Tryz.prog 83 d83:=⟨ak Tryz.typeInfo83 rfl rfl rfl rfl,⟨_,Tryz.underlying83,rfl⟩,rfl,rfl,aD rfl⟩
abbrev y87:Ty:=.st (.pair y3 (y28))
def d87:TD:=⟨.struct [(3,0),(28,1)],32,y87,[(.int .i64 0),(.slice none 0 0)]⟩
theorem k87:TOk Tryz.prog 87 d87:=⟨ak Tryz.typeInfo87 rfl rfl rfl rfl,⟨_,Tryz.underlying87,rfl⟩,rfl,rfl,aD rfl⟩
abbrev y88:Ty:=.st (.pair y3 (y28))
def d88:TD:=⟨.struct [(3,0),(28,1)],32,y88,[(.int .i64 0),(.slice none 0 0)]⟩
theorem k88:TOk Tryz.prog 88 d88:=⟨ak Tryz.typeInfo88 rfl rfl rfl rfl,⟨_,Tryz.underlying88,rfl⟩,rfl,rfl,aD rfl⟩
abbrev y89:Ty:=.st (.pair y32 (.pair y3 (y3)))
def d89:TD:=⟨.struct [(32,0),(3,1),(3,2)],24,y89,[(.int .i64 0),(.int .i64 0),(.int .i64 0)]⟩
theorem k89:TOk Tryz.prog 89 d89:=⟨ak Tryz.typeInfo89 rfl rfl rfl rfl,⟨_,Tryz.underlying89,rfl⟩,rfl,rfl,aD rfl⟩
abbrev y90:Ty:=.st (.pair y32 (.pair y3 (y3)))
def d90:TD:=⟨.struct [(32,0),(3,1),(3,2)],24,y90,[(.int .i64 0),(.int .i64 0),(.int .i64 0)]⟩
theorem k90:TOk Tryz.prog 90 d90:=⟨ak Tryz.typeInfo90 rfl rfl rfl rfl,⟨_,Tryz.underlying90,rfl⟩,rfl,rfl,aD rfl⟩
abbrev cn:Ty:=.sl y4
def Jg:TD:=⟨.slice 4,24,cn,[(.slice none 0 0)]⟩
theorem LG:TOk Tryz.prog 102 Jg:=⟨ak Tryz.typeInfo102 rfl rfl rfl rfl,Tryz.underlying102,rfl,rfl,aD rfl⟩
abbrev mu:Ty:=.map y9 y3
def Jh:TD:=⟨.map 9 3,8,mu,[(.map none)]⟩
theorem LH:TOk Tryz.prog 109 Jh:=⟨ak Tryz.typeInfo109 rfl rfl rfl rfl,Tryz.underlying109,rfl,rfl,aD rfl⟩
abbrev fZ:Ty:=.st (.pair y3 (.pair y3 (y78)))
def Ji:TD:=⟨.struct [(3,0),(3,1),(78,2)],24,fZ,[(.int .i64 0),(.int .i64 0),(.int .u64 0)]⟩
theorem Hb:TOk Tryz.prog 117 Ji:=⟨ak Tryz.typeInfo117 rfl rfl rfl rfl,⟨_,Tryz.underlying117,rfl⟩,rfl,rfl,aD rfl⟩
abbrev LI:Ty:=.st (.pair y3 (.pair y3 (.pair y3 (y3))))
def Jj:TD:=⟨.struct [(3,0),(3,1),(3,2),(3,3)],32,LI,[(.int .i64 0),(.int .i64 0),(.int .i64 0),(.int .i64 0)]⟩
theorem LJ:TOk Tryz.prog 131 Jj:=⟨ak Tryz.typeInfo131 rfl rfl rfl rfl,⟨_,Tryz.underlying131,rfl⟩,rfl,rfl,aD rfl⟩
abbrev Jk:Ty:=.st (.pair y3 (.pair y3 (.pair y3 (y3))))
def Jl:TD:=⟨.struct [(3,0),(3,1),(3,2),(3,3)],32,Jk,[(.int .i64 0),(.int .i64 0),(.int .i64 0),(.int .i64 0)]⟩
theorem LK:TOk Tryz.prog 132 Jl:=⟨ak Tryz.typeInfo132 rfl rfl rfl rfl,⟨_,Tryz.underlying132,rfl⟩,rfl,rfl,aD rfl⟩
abbrev oG:Ty:=.sl y5
def Jm:TD:=⟨.slice 5,24,oG,[(.slice none 0 0)]⟩
theorem LL:TOk Tryz.prog 143 Jm:=⟨ak Tryz.typeInfo143 rfl rfl rfl rfl,Tryz.underlying143,rfl,rfl,aD rfl⟩
abbrev LM:Ty:=.int .u64
def Jn:TD:=⟨.int .u64,8,LM,[(.int .u64 0)]⟩
theorem LN:TOk Tryz.prog 144 Jn:=⟨ak Tryz.typeInfo144 rfl rfl rfl rfl,⟨Tryz.underlying144,rfl⟩,rfl,rfl,fq rfl Tryz.typeInfo144 rfl⟩
abbrev D2:Ty:=.map y3 y3
def Jo:TD:=⟨.map 3 3,8,D2,[(.map none)]⟩
theorem LO:TOk Tryz.prog 163 Jo:=⟨ak Tryz.typeInfo163 rfl rfl rfl rfl,Tryz.underlying163,rfl,rfl,aD rfl⟩
abbrev sX:Ty:=.arr 256 y5
def Hc:TD:=⟨.array 256 5,256,sX,List.replicate 256 (.int .u8 0)⟩
theorem LP:TOk Tryz.prog 180 Hc:=⟨ak (z:=.agg Hc.zero.toArray) Tryz.typeInfo180 (by kernel_rfl) (by kernel_rfl) (by kernel_rfl) (by kernel_rfl),Tryz.underlying180,(by kernel_rfl),(by kernel_rfl),aD rfl⟩
abbrev oH:Ty:=.st (.pair sX (.pair y42 (y28)))
def Hd:TD:=⟨.struct [(180,0),(42,256),(28,257)],304,oH,List.replicate 256 (.int .u8 0)++[(.slice none 0 0),(.slice none 0 0)]⟩
theorem LQ:TOk Tryz.prog 181 Hd:=⟨ak (z:=.agg Hd.zero.toArray) Tryz.typeInfo181 (by kernel_rfl) (by kernel_rfl) (by kernel_rfl) (by kernel_rfl),⟨_,Tryz.underlying181,rfl⟩,(by kernel_rfl),(by kernel_rfl),aD rfl⟩
abbrev He:Ty:=.st (.pair sX (.pair y42 (y28)))
def Hf:TD:=⟨.struct [(180,0),(42,256),(28,257)],304,He,List.replicate 256 (.int .u8 0)++[(.slice none 0 0),(.slice none 0 0)]⟩
theorem LR:TOk Tryz.prog 182 Hf:=⟨ak (z:=.agg Hf.zero.toArray) Tryz.typeInfo182 (by kernel_rfl) (by kernel_rfl) (by kernel_rfl) (by kernel_rfl),⟨_,Tryz.underlying182,rfl⟩,(by kernel_rfl),(by kernel_rfl),aD rfl⟩
abbrev LS:Ty:=.int .i64
def Jp:TD:=⟨.int .i64,8,LS,[(.int .i64 0)]⟩
theorem LU:TOk Tryz.prog 195 Jp:=⟨ak Tryz.typeInfo195 rfl rfl rfl rfl,⟨Tryz.underlying195,rfl⟩,rfl,rfl,fq rfl Tryz.typeInfo195 rfl⟩
abbrev D3:Ty:=.int .u32
def Jq:TD:=⟨.int .u32,4,D3,[(.int .u32 0)]⟩
theorem LV:TOk Tryz.prog 202 Jq:=⟨ak Tryz.typeInfo202 rfl rfl rfl rfl,⟨Tryz.underlying202,rfl⟩,rfl,rfl,fq rfl Tryz.typeInfo202 rfl⟩
abbrev cT:Ty:=.arr 4 y78
def Jr:TD:=⟨.array 4 78,32,cT,[(.int .u64 0),(.int .u64 0),(.int .u64 0),(.int .u64 0)]⟩
theorem LW:TOk Tryz.prog 214 Jr:=⟨ak Tryz.typeInfo214 rfl rfl rfl rfl,Tryz.underlying214,rfl,rfl,aD rfl⟩
abbrev yV:Ty:=.arr 4 y78
def Js:TD:=⟨.array 4 78,32,yV,[(.int .u64 0),(.int .u64 0),(.int .u64 0),(.int .u64 0)]⟩
theorem LX:TOk Tryz.prog 215 Js:=⟨ak Tryz.typeInfo215 rfl rfl rfl rfl,Tryz.underlying215,rfl,rfl,aD rfl⟩
abbrev yW:Ty:=.st (.pair y3 (yV))
def Jt:TD:=⟨.struct [(3,0),(215,1)],40,yW,[(.int .i64 0),(.int .u64 0),(.int .u64 0),(.int .u64 0),(.int .u64 0)]⟩
theorem LY:TOk Tryz.prog 216 Jt:=⟨ak Tryz.typeInfo216 rfl rfl rfl rfl,⟨_,Tryz.underlying216,rfl⟩,rfl,rfl,aD rfl⟩
abbrev Hg:Ty:=.st (.pair y3 (yV))
def Ju:TD:=⟨.struct [(3,0),(215,1)],40,Hg,[(.int .i64 0),(.int .u64 0),(.int .u64 0),(.int .u64 0),(.int .u64 0)]⟩
theorem LZ:TOk Tryz.prog 217 Ju:=⟨ak Tryz.typeInfo217 rfl rfl rfl rfl,⟨_,Tryz.underlying217,rfl⟩,rfl,rfl,aD rfl⟩
abbrev Jv:Ty:=.int .u64
def Jw:TD:=⟨.int .u64,8,Jv,[(.int .u64 0)]⟩
theorem L3:TOk Tryz.prog 223 Jw:=⟨ak Tryz.typeInfo223 rfl rfl rfl rfl,⟨Tryz.underlying223,rfl⟩,rfl,rfl,fq rfl Tryz.typeInfo223 rfl⟩
abbrev L4:Ty:=.ptr y3
def Jx:TD:=⟨.pointer 3,8,L4,[(.pointer none)]⟩
theorem L5:TOk Tryz.prog 227 Jx:=⟨ak Tryz.typeInfo227 rfl rfl rfl rfl,Tryz.underlying227,rfl,rfl,aD rfl⟩
abbrev il:Ty:=.st (.pair y9 (.pair y3 (y3)))
def Jy:TD:=⟨.struct [(9,0),(3,1),(3,2)],32,il,[(.string ByteArray.empty),(.int .i64 0),(.int .i64 0)]⟩
theorem L6:TOk Tryz.prog 230 Jy:=⟨ak Tryz.typeInfo230 rfl rfl rfl rfl,⟨_,Tryz.underlying230,rfl⟩,rfl,rfl,aD rfl⟩
abbrev Jz:Ty:=.st (.pair y9 (.pair y3 (y3)))
def JA:TD:=⟨.struct [(9,0),(3,1),(3,2)],32,Jz,[(.string ByteArray.empty),(.int .i64 0),(.int .i64 0)]⟩
theorem L7:TOk Tryz.prog 231 JA:=⟨ak Tryz.typeInfo231 rfl rfl rfl rfl,⟨_,Tryz.underlying231,rfl⟩,rfl,rfl,aD rfl⟩
abbrev JB:Ty:=.st (.pair y3 (y3))
def JC:TD:=⟨.struct [(3,0),(3,1)],16,JB,[(.int .i64 0),(.int .i64 0)]⟩
theorem L8:TOk Tryz.prog 240 JC:=⟨ak Tryz.typeInfo240 rfl rfl rfl rfl,⟨_,Tryz.underlying240,rfl⟩,rfl,rfl,aD rfl⟩
abbrev JD:Ty:=.st (.pair y3 (y3))
def JF:TD:=⟨.struct [(3,0),(3,1)],16,JD,[(.int .i64 0),(.int .i64 0)]⟩
theorem L9:TOk Tryz.prog 241 JF:=⟨ak Tryz.typeInfo241 rfl rfl rfl rfl,⟨_,Tryz.underlying241,rfl⟩,rfl,rfl,aD rfl⟩
abbrev Ma:Ty:=.ptr Jv
def JG:TD:=⟨.pointer 223,8,Ma,[(.pointer none)]⟩
theorem Mb:TOk Tryz.prog 248 JG:=⟨ak Tryz.typeInfo248 rfl rfl rfl rfl,Tryz.underlying248,rfl,rfl,aD rfl⟩
abbrev Mc:Ty:=.st (.pair y3 (.pair y3 (.pair yV (y4))))
def JH:TD:=⟨.struct [(3,0),(3,1),(215,2),(4,6)],56,Mc,[(.int .i64 0),(.int .i64 0),(.int .u64 0),(.int .u64 0),(.int .u64 0),(.int .u64 0),(.bool false)]⟩
theorem Me:TOk Tryz.prog 254 JH:=⟨ak Tryz.typeInfo254 rfl rfl rfl rfl,⟨_,Tryz.underlying254,rfl⟩,rfl,rfl,aD rfl⟩
abbrev JI:Ty:=.st (.pair y3 (.pair y3 (.pair yV (y4))))
def JJ:TD:=⟨.struct [(3,0),(3,1),(215,2),(4,6)],56,JI,[(.int .i64 0),(.int .i64 0),(.int .u64 0),(.int .u64 0),(.int .u64 0),(.int .u64 0),(.bool false)]⟩
theorem Mf:TOk Tryz.prog 255 JJ:=⟨ak Tryz.typeInfo255 rfl rfl rfl rfl,⟨_,Tryz.underlying255,rfl⟩,rfl,rfl,aD rfl⟩
abbrev yX:Ty:=.sl yV
def JK:TD:=⟨.slice 215,24,yX,[(.slice none 0 0)]⟩
theorem Mg:TOk Tryz.prog 260 JK:=⟨ak Tryz.typeInfo260 rfl rfl rfl rfl,Tryz.underlying260,rfl,rfl,aD rfl⟩
abbrev Mh:Ty:=.int .u8
def JL:TD:=⟨.int .u8,1,Mh,[(.int .u8 0)]⟩
theorem Mi:TOk Tryz.prog 288 JL:=⟨ak Tryz.typeInfo288 rfl rfl rfl rfl,⟨Tryz.underlying288,rfl⟩,rfl,rfl,fq rfl Tryz.typeInfo288 rfl⟩
abbrev Mj:Ty:=.int .u8
def JM:TD:=⟨.int .u8,1,Mj,[(.int .u8 0)]⟩
theorem Mk:TOk Tryz.prog 289 JM:=⟨ak Tryz.typeInfo289 rfl rfl rfl rfl,⟨Tryz.underlying289,rfl⟩,rfl,rfl,fq rfl Tryz.typeInfo289 rfl⟩
abbrev Ml:Ty:=.ptr y5
def JN:TD:=⟨.pointer 5,8,Ml,[(.pointer none)]⟩
theorem Mm:TOk Tryz.prog 291 JN:=⟨ak Tryz.typeInfo291 rfl rfl rfl rfl,Tryz.underlying291,rfl,rfl,aD rfl⟩
abbrev Mn:Ty:=.int .i32
def JO:TD:=⟨.int .i32,4,Mn,[(.int .i32 0)]⟩
theorem Mo:TOk Tryz.prog 292 JO:=⟨ak Tryz.typeInfo292 rfl rfl rfl rfl,⟨Tryz.underlying292,rfl⟩,rfl,rfl,fq rfl Tryz.typeInfo292 rfl⟩
abbrev Mp:Ty:=.int .i32
def JP:TD:=⟨.int .i32,4,Mp,[(.int .i32 0)]⟩
theorem Mq:TOk Tryz.prog 293 JP:=⟨ak Tryz.typeInfo293 rfl rfl rfl rfl,⟨Tryz.underlying293,rfl⟩,rfl,rfl,fq rfl Tryz.typeInfo293 rfl⟩
abbrev y22:Ty:=.sl y83
def d22:TD:=⟨.slice 83,24,y22,[(.slice none 0 0)]⟩
theorem k22:TOk Tryz.prog 22 d22:=⟨ak Tryz.typeInfo22 rfl rfl rfl rfl,Tryz.underlying22,rfl,rfl,aD rfl⟩
abbrev y25:Ty:=.sl y88
def d25:TD:=⟨.slice 88,24,y25,[(.slice none 0 0)]⟩
theorem k25:TOk Tryz.prog 25 d25:=⟨ak Tryz.typeInfo25 rfl rfl rfl rfl,Tryz.underlying25,rfl,rfl,aD rfl⟩
abbrev y40:Ty:=.sl y42
def d40:TD:=⟨.slice 42,24,y40,[(.slice none 0 0)]⟩
theorem k40:TOk Tryz.prog 40 d40:=⟨ak Tryz.typeInfo40 rfl rfl rfl rfl,Tryz.underlying40,rfl,rfl,aD rfl⟩
abbrev y58:Ty:=.sl y80
def d58:TD:=⟨.slice 80,24,y58,[(.slice none 0 0)]⟩
theorem k58:TOk Tryz.prog 58 d58:=⟨ak Tryz.typeInfo58 rfl rfl rfl rfl,Tryz.underlying58,rfl,rfl,aD rfl⟩
abbrev y60:Ty:=.sl fZ
def d60:TD:=⟨.slice 117,24,y60,[(.slice none 0 0)]⟩
theorem k60:TOk Tryz.prog 60 d60:=⟨ak Tryz.typeInfo60 rfl rfl rfl rfl,Tryz.underlying60,rfl,rfl,aD rfl⟩
abbrev y61:Ty:=.sl y66
def d61:TD:=⟨.slice 66,24,y61,[(.slice none 0 0)]⟩
theorem k61:TOk Tryz.prog 61 d61:=⟨ak Tryz.typeInfo61 rfl rfl rfl rfl,Tryz.underlying61,rfl,rfl,aD rfl⟩
abbrev y62:Ty:=.sl y64
def d62:TD:=⟨.slice 64,24,y62,[(.slice none 0 0)]⟩
theorem k62:TOk Tryz.prog 62 d62:=⟨ak Tryz.typeInfo62 rfl rfl rfl rfl,Tryz.underlying62,rfl,rfl,aD rfl⟩
abbrev y73:Ty:=.sl y78
def d73:TD:=⟨.slice 78,24,y73,[(.slice none 0 0)]⟩
theorem k73:TOk Tryz.prog 73 d73:=⟨ak Tryz.typeInfo73 rfl rfl rfl rfl,Tryz.underlying73,rfl,rfl,aD rfl⟩
abbrev y84:Ty:=.st (.pair y3 (.pair y9 (.pair y62 (.pair y4 (.pair y3 (y28))))))
def d84:TD:=⟨.struct [(3,0),(9,1),(62,2),(4,3),(3,4),(28,5)],88,y84,[(.int .i64 0),(.string ByteArray.empty),(.slice none 0 0),(.bool false),(.int .i64 0),(.slice none 0 0)]⟩
theorem k84:TOk Tryz.prog 84 d84:=⟨ak Tryz.typeInfo84 rfl rfl rfl rfl,⟨_,Tryz.underlying84,rfl⟩,rfl,rfl,aD rfl⟩
abbrev y85:Ty:=.st (.pair y3 (.pair y9 (.pair y62 (.pair y4 (.pair y3 (y28))))))
def d85:TD:=⟨.struct [(3,0),(9,1),(62,2),(4,3),(3,4),(28,5)],88,y85,[(.int .i64 0),(.string ByteArray.empty),(.slice none 0 0),(.bool false),(.int .i64 0),(.slice none 0 0)]⟩
theorem k85:TOk Tryz.prog 85 d85:=⟨ak Tryz.typeInfo85 rfl rfl rfl rfl,⟨_,Tryz.underlying85,rfl⟩,rfl,rfl,aD rfl⟩
abbrev y94:Ty:=.map Jk y3
def d94:TD:=⟨.map 132 3,8,y94,[(.map none)]⟩
theorem k94:TOk Tryz.prog 94 d94:=⟨ak Tryz.typeInfo94 rfl rfl rfl rfl,Tryz.underlying94,rfl,rfl,aD rfl⟩
abbrev Hh:Ty:=.sl cn
def JQ:TD:=⟨.slice 102,24,Hh,[(.slice none 0 0)]⟩
theorem Mr:TOk Tryz.prog 101 JQ:=⟨ak Tryz.typeInfo101 rfl rfl rfl rfl,Tryz.underlying101,rfl,rfl,aD rfl⟩
abbrev im:Ty:=.st (.pair cn (y73))
def JR:TD:=⟨.struct [(102,0),(73,1)],48,im,[(.slice none 0 0),(.slice none 0 0)]⟩
theorem Ms:TOk Tryz.prog 106 JR:=⟨ak Tryz.typeInfo106 rfl rfl rfl rfl,⟨_,Tryz.underlying106,rfl⟩,rfl,rfl,aD rfl⟩
abbrev Hi:Ty:=.st (.pair cn (y73))
def JS:TD:=⟨.struct [(102,0),(73,1)],48,Hi,[(.slice none 0 0),(.slice none 0 0)]⟩
theorem Mt:TOk Tryz.prog 107 JS:=⟨ak Tryz.typeInfo107 rfl rfl rfl rfl,⟨_,Tryz.underlying107,rfl⟩,rfl,rfl,aD rfl⟩
abbrev jb:Ty:=.sl Hg
def JT:TD:=⟨.slice 217,24,jb,[(.slice none 0 0)]⟩
theorem Mu:TOk Tryz.prog 166 JT:=⟨ak Tryz.typeInfo166 rfl rfl rfl rfl,Tryz.underlying166,rfl,rfl,aD rfl⟩
abbrev JU:Ty:=.sl Hg
def JV:TD:=⟨.slice 217,24,JU,[(.slice none 0 0)]⟩
theorem Mv:TOk Tryz.prog 167 JV:=⟨ak Tryz.typeInfo167 rfl rfl rfl rfl,Tryz.underlying167,rfl,rfl,aD rfl⟩
abbrev Hj:Ty:=.sl JI
def JW:TD:=⟨.slice 255,24,Hj,[(.slice none 0 0)]⟩
theorem Mw:TOk Tryz.prog 206 JW:=⟨ak Tryz.typeInfo206 rfl rfl rfl rfl,Tryz.underlying206,rfl,rfl,aD rfl⟩
abbrev qz:Ty:=.st (.pair y3 (.pair Hj (.pair y3 (y3))))
def JX:TD:=⟨.struct [(3,0),(206,1),(3,2),(3,3)],48,qz,[(.int .i64 0),(.slice none 0 0),(.int .i64 0),(.int .i64 0)]⟩
theorem Mx:TOk Tryz.prog 207 JX:=⟨ak Tryz.typeInfo207 rfl rfl rfl rfl,⟨_,Tryz.underlying207,rfl⟩,rfl,rfl,aD rfl⟩
abbrev Bo:Ty:=.st (.pair y3 (.pair Hj (.pair y3 (y3))))
def JY:TD:=⟨.struct [(3,0),(206,1),(3,2),(3,3)],48,Bo,[(.int .i64 0),(.slice none 0 0),(.int .i64 0),(.int .i64 0)]⟩
theorem My:TOk Tryz.prog 208 JY:=⟨ak Tryz.typeInfo208 rfl rfl rfl rfl,⟨_,Tryz.underlying208,rfl⟩,rfl,rfl,aD rfl⟩
abbrev D4:Ty:=.sl JU
def JZ:TD:=⟨.slice 167,24,D4,[(.slice none 0 0)]⟩
theorem Mz:TOk Tryz.prog 218 JZ:=⟨ak Tryz.typeInfo218 rfl rfl rfl rfl,Tryz.underlying218,rfl,rfl,aD rfl⟩
abbrev MA:Ty:=.ptr Jz
def J0:TD:=⟨.pointer 231,8,MA,[(.pointer none)]⟩
theorem MB:TOk Tryz.prog 229 J0:=⟨ak Tryz.typeInfo229 rfl rfl rfl rfl,Tryz.underlying229,rfl,rfl,aD rfl⟩
abbrev mz:Ty:=.st (Bo)
def J1:TD:=⟨.struct [(208,0)],48,mz,[(.int .i64 0),(.slice none 0 0),(.int .i64 0),(.int .i64 0)]⟩
theorem MC:TOk Tryz.prog 236 J1:=⟨ak Tryz.typeInfo236 rfl rfl rfl rfl,⟨_,Tryz.underlying236,rfl⟩,rfl,rfl,aD rfl⟩
abbrev J2:Ty:=.st (Bo)
def J3:TD:=⟨.struct [(208,0)],48,J2,[(.int .i64 0),(.slice none 0 0),(.int .i64 0),(.int .i64 0)]⟩
theorem MD:TOk Tryz.prog 237 J3:=⟨ak Tryz.typeInfo237 rfl rfl rfl rfl,⟨_,Tryz.underlying237,rfl⟩,rfl,rfl,aD rfl⟩
abbrev nT:Ty:=.sl JD
def J4:TD:=⟨.slice 241,24,nT,[(.slice none 0 0)]⟩
theorem ME:TOk Tryz.prog 238 J4:=⟨ak Tryz.typeInfo238 rfl rfl rfl rfl,Tryz.underlying238,rfl,rfl,aD rfl⟩
abbrev qA:Ty:=.st (.pair Bo (.pair y28 (.pair oG (.pair mu (.pair Hh (He))))))
def Hk:TD:=⟨.struct [(208,0),(28,4),(143,5),(109,6),(101,7),(182,8)],432,qA,[(.int .i64 0),(.slice none 0 0),(.int .i64 0),(.int .i64 0),(.slice none 0 0),(.slice none 0 0),(.map none),(.slice none 0 0)]++List.replicate 256 (.int .u8 0)++[(.slice none 0 0),(.slice none 0 0)]⟩
theorem MF:TOk Tryz.prog 257 Hk:=⟨ak (z:=.agg Hk.zero.toArray) Tryz.typeInfo257 (by kernel_rfl) (by kernel_rfl) (by kernel_rfl) (by kernel_rfl),⟨_,Tryz.underlying257,rfl⟩,(by kernel_rfl),(by kernel_rfl),aD rfl⟩
abbrev J5:Ty:=.st (.pair Bo (.pair y28 (.pair oG (.pair mu (.pair Hh (He))))))
def Hl:TD:=⟨.struct [(208,0),(28,4),(143,5),(109,6),(101,7),(182,8)],432,J5,[(.int .i64 0),(.slice none 0 0),(.int .i64 0),(.int .i64 0),(.slice none 0 0),(.slice none 0 0),(.map none),(.slice none 0 0)]++List.replicate 256 (.int .u8 0)++[(.slice none 0 0),(.slice none 0 0)]⟩
theorem MG:TOk Tryz.prog 258 Hl:=⟨ak (z:=.agg Hl.zero.toArray) Tryz.typeInfo258 (by kernel_rfl) (by kernel_rfl) (by kernel_rfl) (by kernel_rfl),⟨_,Tryz.underlying258,rfl⟩,(by kernel_rfl),(by kernel_rfl),aD rfl⟩
abbrev y24:Ty:=.sl y85
def d24:TD:=⟨.slice 85,24,y24,[(.slice none 0 0)]⟩
theorem k24:TOk Tryz.prog 24 d24:=⟨ak Tryz.typeInfo24 rfl rfl rfl rfl,Tryz.underlying24,rfl,rfl,aD rfl⟩
abbrev y26:Ty:=.st (.pair y22 (.pair y23 (.pair y24 (.pair y25 (y3)))))
def d26:TD:=⟨.struct [(22,0),(23,1),(24,2),(25,3),(3,4)],104,y26,[(.slice none 0 0),(.slice none 0 0),(.slice none 0 0),(.slice none 0 0),(.int .i64 0)]⟩
theorem k26:TOk Tryz.prog 26 d26:=⟨ak Tryz.typeInfo26 rfl rfl rfl rfl,⟨_,Tryz.underlying26,rfl⟩,rfl,rfl,aD rfl⟩
abbrev y27:Ty:=.st (.pair y22 (.pair y23 (.pair y24 (.pair y25 (y3)))))
def d27:TD:=⟨.struct [(22,0),(23,1),(24,2),(25,3),(3,4)],104,y27,[(.slice none 0 0),(.slice none 0 0),(.slice none 0 0),(.slice none 0 0),(.int .i64 0)]⟩
theorem k27:TOk Tryz.prog 27 d27:=⟨ak Tryz.typeInfo27 rfl rfl rfl rfl,⟨_,Tryz.underlying27,rfl⟩,rfl,rfl,aD rfl⟩
abbrev y44:Ty:=.sl y58
def d44:TD:=⟨.slice 58,24,y44,[(.slice none 0 0)]⟩
theorem k44:TOk Tryz.prog 44 d44:=⟨ak Tryz.typeInfo44 rfl rfl rfl rfl,Tryz.underlying44,rfl,rfl,aD rfl⟩
abbrev y45:Ty:=.sl y62
def d45:TD:=⟨.slice 62,24,y45,[(.slice none 0 0)]⟩
theorem k45:TOk Tryz.prog 45 d45:=⟨ak Tryz.typeInfo45 rfl rfl rfl rfl,Tryz.underlying45,rfl,rfl,aD rfl⟩
abbrev y46:Ty:=.st (.pair y44 (.pair y45 (y42)))
def d46:TD:=⟨.struct [(44,0),(45,1),(42,2)],72,y46,[(.slice none 0 0),(.slice none 0 0),(.slice none 0 0)]⟩
theorem k46:TOk Tryz.prog 46 d46:=⟨ak Tryz.typeInfo46 rfl rfl rfl rfl,⟨_,Tryz.underlying46,rfl⟩,rfl,rfl,aD rfl⟩
abbrev y47:Ty:=.st (.pair y44 (.pair y45 (y42)))
def d47:TD:=⟨.struct [(44,0),(45,1),(42,2)],72,y47,[(.slice none 0 0),(.slice none 0 0),(.slice none 0 0)]⟩
theorem k47:TOk Tryz.prog 47 d47:=⟨ak Tryz.typeInfo47 rfl rfl rfl rfl,⟨_,Tryz.underlying47,rfl⟩,rfl,rfl,aD rfl⟩
abbrev y50:Ty:=.sl y60
def d50:TD:=⟨.slice 60,24,y50,[(.slice none 0 0)]⟩
theorem k50:TOk Tryz.prog 50 d50:=⟨ak Tryz.typeInfo50 rfl rfl rfl rfl,Tryz.underlying50,rfl,rfl,aD rfl⟩
abbrev y51:Ty:=.sl y61
def d51:TD:=⟨.slice 61,24,y51,[(.slice none 0 0)]⟩
theorem k51:TOk Tryz.prog 51 d51:=⟨ak Tryz.typeInfo51 rfl rfl rfl rfl,Tryz.underlying51,rfl,rfl,aD rfl⟩
abbrev y52:Ty:=.st (.pair y50 (y51))
def d52:TD:=⟨.struct [(50,0),(51,1)],48,y52,[(.slice none 0 0),(.slice none 0 0)]⟩
theorem k52:TOk Tryz.prog 52 d52:=⟨ak Tryz.typeInfo52 rfl rfl rfl rfl,⟨_,Tryz.underlying52,rfl⟩,rfl,rfl,aD rfl⟩
abbrev y53:Ty:=.st (.pair y50 (y51))
def d53:TD:=⟨.struct [(50,0),(51,1)],48,y53,[(.slice none 0 0),(.slice none 0 0)]⟩
theorem k53:TOk Tryz.prog 53 d53:=⟨ak Tryz.typeInfo53 rfl rfl rfl rfl,⟨_,Tryz.underlying53,rfl⟩,rfl,rfl,aD rfl⟩
abbrev y95:Ty:=.st (.pair y27 (.pair y28 (.pair y3 (.pair y28 (y94)))))
def d95:TD:=⟨.struct [(27,0),(28,5),(3,6),(28,7),(94,8)],168,y95,[(.slice none 0 0),(.slice none 0 0),(.slice none 0 0),(.slice none 0 0),(.int .i64 0),(.slice none 0 0),(.int .i64 0),(.slice none 0 0),(.map none)]⟩
theorem k95:TOk Tryz.prog 95 d95:=⟨ak Tryz.typeInfo95 rfl rfl rfl rfl,⟨_,Tryz.underlying95,rfl⟩,rfl,rfl,aD rfl⟩
abbrev y96:Ty:=.st (.pair y27 (.pair y28 (.pair y3 (.pair y28 (y94)))))
def d96:TD:=⟨.struct [(27,0),(28,5),(3,6),(28,7),(94,8)],168,y96,[(.slice none 0 0),(.slice none 0 0),(.slice none 0 0),(.slice none 0 0),(.int .i64 0),(.slice none 0 0),(.int .i64 0),(.slice none 0 0),(.map none)]⟩
theorem k96:TOk Tryz.prog 96 d96:=⟨ak Tryz.typeInfo96 rfl rfl rfl rfl,⟨_,Tryz.underlying96,rfl⟩,rfl,rfl,aD rfl⟩
abbrev qB:Ty:=.st (.pair y27 (.pair Hi (.pair cn (.pair y73 (y60)))))
def J6:TD:=⟨.struct [(27,0),(107,5),(102,7),(73,8),(60,9)],224,qB,[(.slice none 0 0),(.slice none 0 0),(.slice none 0 0),(.slice none 0 0),(.int .i64 0),(.slice none 0 0),(.slice none 0 0),(.slice none 0 0),(.slice none 0 0),(.slice none 0 0)]⟩
theorem MH:TOk Tryz.prog 147 J6:=⟨ak Tryz.typeInfo147 rfl rfl rfl rfl,⟨_,Tryz.underlying147,rfl⟩,rfl,rfl,aD rfl⟩
abbrev J7:Ty:=.st (.pair y27 (.pair Hi (.pair cn (.pair y73 (y60)))))
def J8:TD:=⟨.struct [(27,0),(107,5),(102,7),(73,8),(60,9)],224,J7,[(.slice none 0 0),(.slice none 0 0),(.slice none 0 0),(.slice none 0 0),(.int .i64 0),(.slice none 0 0),(.slice none 0 0),(.slice none 0 0),(.slice none 0 0),(.slice none 0 0)]⟩
theorem MI:TOk Tryz.prog 148 J8:=⟨ak Tryz.typeInfo148 rfl rfl rfl rfl,⟨_,Tryz.underlying148,rfl⟩,rfl,rfl,aD rfl⟩
abbrev MJ:Ty:=.ptr J2
def J9:TD:=⟨.pointer 237,8,MJ,[(.pointer none)]⟩
theorem MK:TOk Tryz.prog 235 J9:=⟨ak Tryz.typeInfo235 rfl rfl rfl rfl,Tryz.underlying235,rfl,rfl,aD rfl⟩
abbrev Ka:Ty:=.ptr J5
def Kb:TD:=⟨.pointer 258,8,Ka,[(.pointer none)]⟩
theorem ML:TOk Tryz.prog 256 Kb:=⟨ak Tryz.typeInfo256 rfl rfl rfl rfl,Tryz.underlying256,rfl,rfl,aD rfl⟩
abbrev y92:Ty:=.ptr y96
def d92:TD:=⟨.pointer 96,8,y92,[(.pointer none)]⟩
theorem k92:TOk Tryz.prog 92 d92:=⟨ak Tryz.typeInfo92 rfl rfl rfl rfl,Tryz.underlying92,rfl,rfl,aD rfl⟩
abbrev MM:Ty:=.ptr J7
def Kc:TD:=⟨.pointer 148,8,MM,[(.pointer none)]⟩
theorem MN:TOk Tryz.prog 145 Kc:=⟨ak Tryz.typeInfo145 rfl rfl rfl rfl,Tryz.underlying145,rfl,rfl,aD rfl⟩
def tab:List (Nat×TD):=[(2,d2),(3,d3),(4,d4),(5,d5),(6,d6),(7,d7),(8,d8),(9,d9),(10,d10),(11,d11),(12,d12),(13,d13),(14,d14),(21,d21),(22,d22),(23,d23),(24,d24),(25,d25),(26,d26),(27,d27),(28,d28),(29,d29),(32,d32),(40,d40),(42,d42),(44,d44),(45,d45),(46,d46),(47,d47),(50,d50),(51,d51),(52,d52),(53,d53),(58,d58),(60,d60),(61,d61),(62,d62),(63,d63),(64,d64),(65,d65),(66,d66),(73,d73),(78,d78),(79,d79),(80,d80),(82,d82),(83,d83),(84,d84),(85,d85),(87,d87),(88,d88),(89,d89),(90,d90),(92,d92),(94,d94),(95,d95),(96,d96),(101,JQ),(102,Jg),(106,JR),(107,JS),(109,Jh),(117,Ji),(131,Jj),(132,Jl),(143,Jm),(144,Jn),(145,Kc),(147,J6),(148,J8),(163,Jo),(166,JT),(167,JV),(180,Hc),(181,Hd),(182,Hf),(195,Jp),(202,Jq),(206,JW),(207,JX),(208,JY),(214,Jr),(215,Js),(216,Jt),(217,Ju),(218,JZ),(223,Jw),(227,Jx),(229,J0),(230,Jy),(231,JA),(235,J9),(236,J1),(237,J3),(238,J4),(240,JC),(241,JF),(248,JG),(254,JH),(255,JJ),(256,Kb),(257,Hk),(258,Hl),(260,JK),(288,JL),(289,JM),(291,JN),(292,JO),(293,JP)]
theorem Bp:bw Tryz.prog (sU tab):=Bj ((by exact⟨k2,k3,k4,k5,k6,k7,k8,k9,k10,k11,k12,k13,k14,k21,k22,k23,k24,k25,k26,k27,k28,k29,k32,k40,k42,k44,k45,k46,k47,k50,k51,k52,k53,k58,k60,k61,k62,k63,k64,k65,k66,k73,k78,k79,k80,k82,k83,k84,k85,k87,k88,k89,k90,k92,k94,k95,k96,Mr,LG,Ms,Mt,LH,Hb,LJ,LK,LL,LN,MN,MH,MI,LO,Mu,Mv,LP,LQ,LR,LU,LV,Mw,Mx,My,LW,LX,LY,LZ,Mz,L3,L5,MB,L6,L7,MK,MC,MD,ME,L8,L9,Mb,Me,Mf,ML,MF,MG,Mg,Mi,Mk,Mm,Mo,Mq,trivial⟩))
end
noncomputable section
theorem mix:Tryz.prog.follows .mixedOrders=true:=by kernel_rfl
structure Fb(i:Nat)where
 k:Callee
 o:dC Tryz.prog i k
 q:Plain Tryz.prog i
def lk:List (Σ i,Fb i)->List (FuncId×Callee)
 |[]=>[]
 |a::l=>(a.1,a.2.k)::lk l
theorem FT:∀ l,G7 Tryz.prog (lk l)
 |[]=>trivial
 |a::l=>⟨⟨a.2.o,a.2.q⟩,FT l⟩
def hsN:List Nat->Nat->Bool
 |[],_=>false
 |a::l,d=>Nat.beq d a||hsN l d
abbrev Eqs:=List {t//rH Tryz.prog t}
def eqN:Eqs->Nat->Bool
 |[],_=>false
 |a::l,d=>Nat.beq d a.1||eqN l d
theorem Br:∀ (l:Eqs) t,eqN l t=true->rH Tryz.prog t
 |[],t,h=>by cases h
 |a::l,t,h=>by
  simp only [eqN,Bool.or_eq_true]at h
  rcases h with h|h
  ·rw [Nat.eq_of_beq_eq_true h];exact a.2
  ·exact Br l t h
def vv(l:List (Σ i,Fb i))(a b:List Nat)(e:Eqs):Env:=⟨sU tab,wS (lk l),hsN a,eqN e,hsN b⟩
theorem Kd(l:List (Σ i,Fb i))(a b:List Nat)(e:Eqs):cE Tryz.prog (vv l a b e):=⟨Bp,Bk (FT l),mix,Br e⟩
def cb(f:Func):Code:=match f.body with|some c=>c|none=>.skip
abbrev Qt(a b c:List (Ty×Md)):=(bX a).T->Option ((bX b).T×(bX c).T)
theorem pl{f:FuncId}{fn:Func}(h:Tryz.prog.funcs[f]?=some fn)(h1:(fn.name=="runtime.NumGoroutine")=false:=by kernel_rfl)(h2:fn.body.isNone=false:=by kernel_rfl):Plain Tryz.prog f:=⟨fn,h,h1,h2⟩
noncomputable def fb {f:FuncId} {fn:Func} {rv:List ResultVar} {N:Nat} (n:Nat) (l:List (Σ i,Fb i)) (a b:List Nat) (e:Eqs) (hf:Tryz.prog.funcs[f]?=some fn) (hr:fn.results=rv.toArray) (hN:fn.ntmps=N) (an:Ann) (ps rs:List (Ty×Md)) (mi:List Nat) (ms:List (Ty×Md)) (d:Qt ps rs ms) (hb:fn.body=some (cb fn):=by rfl) (hp:ps.length≤N:=by decide) (hm:Bh ps mi=true:=by rfl) (he:∀ x,d x=wR (vv l a b e) N n (cb fn) an ps rs mi ms rv x:=by intro x;kernel_rfl) (h1:(fn.name=="runtime.NumGoroutine")=false:=by kernel_rfl) (h2:fn.body.isNone=false:=by kernel_rfl):Fb f:=⟨⟨ps,rs,mi,ms,d⟩,(Jc (Kd l a b e) hf hb hr hN hp hm an n).of_eq he,pl hf h1 h2⟩
abbrev T0:=(List Int)
abbrev T1:=(Int×Unit)
abbrev T2:=(Unit×Int×Unit)
abbrev T3:=(Unit×Bool×Unit)
abbrev T4:=((List Int)×Unit)
abbrev T5:=((Int×Unit)×Unit)
abbrev T6:=((Bool×Unit)×Unit)
abbrev T7:=(Unit×Int×Int×Unit)
abbrev T8:=((List Int)×Int×Unit)
abbrev T9:=((Int×Int×Unit)×Unit)
abbrev T10:=((Int×Unit)×Int×Unit)
abbrev T11:=((Int×Bool×Unit)×Unit)
abbrev T12:=Option ((Int×Unit)×Unit)
abbrev T13:=(((List Int)×Unit)×Unit)
abbrev T14:=Option ((Bool×Unit)×Unit)
abbrev T15:=(((List Bool)×Unit)×Unit)
abbrev T16:=((List Int)×Int×Int×Unit)
abbrev T17:=(Unit×(List Int)×Int×Unit)
abbrev T18:=((Int×Int×Unit)×Int×Unit)
abbrev T19:=((Int×Int×Bool×Unit)×Unit)
abbrev T20:=(((List Int)×Int×Int)×Unit)
abbrev T21:=((List Int)×(List Int)×Unit)
abbrev T22:=(Unit×(List Bool)×Int×Unit)
abbrev T23:=((List (Int×Int×Int))×Unit)
abbrev T24:=(((List Int)×Unit)×Int×Unit)
abbrev T25:=Option ((Int×Int×Unit)×Unit)
abbrev T26:=(((Int×Int×Int)×Unit)×Unit)
abbrev T27:=Option ((Int×Unit)×Int×Unit)
abbrev T28:=((List (Int×(List Int)))×Unit)
abbrev T29:=(((List Bool)×Unit)×Int×Unit)
abbrev T30:=(((List Int)×Unit)×Bool×Unit)
abbrev T31:=Option ((Int×Bool×Unit)×Unit)
abbrev T32:=(Unit×(List (Bool×Int))×Unit)
abbrev T33:=Option (((List Int)×Unit)×Unit)
abbrev T34:=(((List Bool)×Unit)×Bool×Unit)
abbrev T35:=(((Bool×Int)×Bool×Unit)×Unit)
abbrev T36:=Option (((List Bool)×Unit)×Unit)
abbrev T37:=(((List (Bool×Int))×Unit)×Unit)
abbrev T38:=(((Int×Int×Int)×Unit)×Int×Unit)
abbrev T39:=(Unit×(List (Int×Int×Int))×Unit)
abbrev T40:=Option ((Int×Int×Bool×Unit)×Unit)
abbrev T41:=((List (List Int))×(List Int)×Unit)
abbrev T42:=(((Int×Int×Int)×Unit)×Bool×Unit)
abbrev T43:=Option (((Int×Int×Int)×Unit)×Unit)
abbrev T44:=(((List (Int×Int×Int))×Unit)×Unit)
abbrev T45:=(((List Int)×Unit)×(List Bool)×Unit)
abbrev T46:=((List (Bool×Int))×(Bool×Int)×Unit)
abbrev T47:=(((List (Bool×Int))×Unit)×Int×Unit)
abbrev T48:=Option (Unit×(List (Bool×Int))×Unit)
abbrev T49:=(((List (Int×(List Int)))×Unit)×Unit)
abbrev T50:=(((List (Bool×Int))×Bool×Unit)×Unit)
abbrev T51:=(((List (Bool×Int))×Unit)×Bool×Unit)
abbrev T52:=Option (((List (Bool×Int))×Unit)×Unit)
abbrev T53:=(Unit×(List (Int×Int×Int))×Int×Unit)
abbrev T54:=((List (Bool×Int))×Int×Int×Unit×Unit)
abbrev T55:=(((List Int)×(List Int)×Unit)×Int×Unit)
abbrev T56:=(Unit×Int×(List (Int×(List Int)))×Unit)
abbrev T57:=((((List Int)×Int×Int)×Unit)×Bool×Unit)
abbrev T58:=((Bool×Unit)×((List Int)×Int×Int)×Unit)
abbrev T59:=((List ((List Int)×Int×(List Int)))×Unit)
abbrev T60:=(((List (Bool×Int))×Int×Unit)×Int×Unit)
abbrev T61:=(((List (Bool×Int))×Unit)×Int×Int×Unit)
abbrev T62:=(((List (Int×(List Int)))×Int×Unit)×Unit)
abbrev T63:=Option (((List (Int×Int×Int))×Unit)×Unit)
abbrev T64:=((List (Bool×Int))×Int×Int×Int×Unit×Unit)
abbrev T65:=((Int×Bool×Unit)×((List Int)×Int×Int)×Unit)
abbrev T66:=((((List Int)×Int×Int)×(List Int)×Unit)×Unit)
abbrev T67:=Option ((Bool×Unit)×((List Int)×Int×Int)×Unit)
abbrev T68:=Option (((List (Int×(List Int)))×Int×Unit)×Unit)
abbrev T69:=(((Int×Int×Int)×(List (Int×Int))×Unit)×Int×Unit)
abbrev T70:=((List (Int×(List Int)))×(List Int)×(List Bool)×Unit)
abbrev T71:=((Int×(List (Int×Int×(List Int)×Bool))×Int×Int)×Unit)
abbrev T72:=(((List (Bool×Int))×Unit)×Int×Int×Int×Bool×Bool×Unit)
abbrev T73:=((((List Int)×Int×Int)×Unit)×(List (Int×(List Int)))×Unit)
abbrev T74:=((((List Int)×(List (List Int))×(List Int))×Int×Unit)×Unit)
abbrev T75:=(Unit×(Int×(List (Int×Int×(List Int)×Bool))×Int×Int)×Unit)
abbrev T76:=((Int×(List Int)×(List (Bool×Int))×Bool×Int×(List Int))×Unit)
abbrev T77:=(((List Int)×(List Int)×(List ((List Int)×Int))×Unit)×Int×Unit)
abbrev T78:=((((List Int)×Int×Int)×Unit)×(List (Int×(List Int)))×Bool×Unit)
abbrev T79:=(((List (Int×(List Int)))×Bool×Unit)×((List Int)×Int×Int)×Unit)
abbrev T80:=Option ((((List Int)×(List (List Int))×(List Int))×Int×Unit)×Unit)
abbrev T81:=((Int×Unit)×(Int×(List (Int×Int×(List Int)×Bool))×Int×Int)×Unit)
abbrev T82:=((((List Bool)×(List Int))×((List Bool)×(List Int))×Unit)×Bool×Unit)
abbrev T83:=Option (((List (Int×(List Int)))×Bool×Unit)×((List Int)×Int×Int)×Unit)
abbrev T84:=((List Int)×Int×Int×Unit)->Option (((List (Int×(List Int)))×Int×Unit)×Unit)
abbrev T85:=((((List (List (Int×Int×Int)))×(List (List ((Bool×Int)×Int))))×Int×Unit)×Unit)
abbrev T86:=(((Int×(List (Int×Int×(List Int)×Bool))×Int×Int)×(List (Int×Int))×Unit)×Unit)
abbrev T87:=((List (Int×(List Int)))×(List Int)×(List Bool)×Unit)->Option (((List Bool)×Unit)×Unit)
abbrev T88:=(((List Int)×Int×Int)×Unit)->Option (((List (Int×(List Int)))×Bool×Unit)×((List Int)×Int×Int)×Unit)
abbrev T89:=((Int×Unit)×(List ((List Int)×Int))×((List (List (Int×Int×Int)))×(List (List ((Bool×Int)×Int))))×Unit)
abbrev T90:=(((List ((List Int)×Int×(List Int)))×(List (List Int))×(List (Int×(List Int)×(List (Bool×Int))×Bool×Int×(List Int)))×(List (Int×(List Int)))×Int)×Unit)
abbrev T91:=(((List ((List Int)×Int×(List Int)))×(List (List Int))×(List (Int×(List Int)×(List (Bool×Int))×Bool×Int×(List Int)))×(List (Int×(List Int)))×Int)×Int×Unit)
abbrev T92:=(((List ((List Int)×Int×(List Int)))×(List (List Int))×(List (Int×(List Int)×(List (Bool×Int))×Bool×Int×(List Int)))×(List (Int×(List Int)))×Int)×(Bool×Int)×Unit)
abbrev T93:=(((List ((List Int)×Int×(List Int)))×(List (List Int))×(List (Int×(List Int)×(List (Bool×Int))×Bool×Int×(List Int)))×(List (Int×(List Int)))×Int)×(Int×Int×Int)×Unit)
abbrev T94:=((Int×Unit)×((Int×(List (Int×Int×(List Int)×Bool))×Int×Int)×(List Int)×(List Int)×(List ((List Int)×Int))×(List (List Bool))×(List Int)×(List (List Int))×(List Int))×Unit)
abbrev T95:=((((List Int)×(List (List Int))×(List Int))×((Int×(List (Int×Int×(List Int)×Bool))×Int×Int)×(List Int)×(List Int)×(List ((List Int)×Int))×(List (List Bool))×(List Int)×(List (List Int))×(List Int))×Unit)×Int×Unit)
abbrev T96:=(((((List ((List Int)×Int×(List Int)))×(List (List Int))×(List (Int×(List Int)×(List (Bool×Int))×Bool×Int×(List Int)))×(List (Int×(List Int)))×Int)×((List Bool)×(List Int))×(List Bool)×(List Int)×(List (Int×Int×Int)))×Unit)×Unit)
abbrev T97:=(((((List ((List Int)×Int×(List Int)))×(List (List Int))×(List (Int×(List Int)×(List (Bool×Int))×Bool×Int×(List Int)))×(List (Int×(List Int)))×Int)×((List Bool)×(List Int))×(List Bool)×(List Int)×(List (Int×Int×Int)))×Unit)×Bool×Unit)
abbrev A0:List (Ty×Md):=[(.box mz,.own (.pr .ro (.pr (.own .ro) (.pr .ro .ro))))]
abbrev A1:List (Ty×Md):=[(y62,.own .ro),(y2,.ro),(y2,.ro),(y2,.ro),(.fn 83,.ro)]
abbrev A2:List (Ty×Md):=[(y62,.own .ro),(y2,.ro),(y2,.ro),(.fn 83,.ro)]
abbrev A3:List (Ty×Md):=[(jb,.ro),(y9,.ro),(cn,.ro)]
abbrev A4:List (Ty×Md):=[(y9,.ro),(y2,.ro),(y2,.ro)]
abbrev A5:List (Ty×Md):=[(.nl yW,.ro),(y2,.ro)]
abbrev A6:List (Ty×Md):=[(.box il,.own .ro)]
abbrev A7:List (Ty×Md):=[(jb,.ro),(y4,.ro)]
abbrev A8:List (Ty×Md):=[(jb,.ro),(y2,.ro)]
abbrev A9:List (Ty×Md):=[(oH,.ro),(y2,.ro)]
abbrev A10:List (Ty×Md):=[(y26,.ro),(y2,.ro)]
abbrev A11:List (Ty×Md):=[(.box y2,.own .ro)]
abbrev A12:List (Ty×Md):=[(y2,.ro),(y2,.ro)]
abbrev A13:List (Ty×Md):=[(y62,.own .ro)]
abbrev A14:List (Ty×Md):=[(cT,.ro)]
abbrev A15:List (Ty×Md):=[(cn,.ro)]
abbrev A16:List (Ty×Md):=[(y26,.ro)]
abbrev A17:List (Ty×Md):=[(y12,.ro)]
abbrev A18:List (Ty×Md):=[(y58,.ro)]
abbrev A19:List (Ty×Md):=[(y4,.ro)]
abbrev A20:List (Ty×Md):=[(y2,.ro)]
abbrev A21:List (Ty×Md):=[(y9,.ro)]
end
end Go.Proofs.YthalkfdkbalpmaaGreat.Rf
