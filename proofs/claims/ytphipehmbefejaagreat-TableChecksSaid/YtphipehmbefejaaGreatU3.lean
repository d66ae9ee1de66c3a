/- A part of a proof that a given statement (the one of this claim: the name of its theorem ends in _holds) is true of the program, with no condition ahead of it. Printed by wip/dev/pack2.py out of the texts in wip. -/
import Derived.Test.YtphipehmbefejaaGreatU2
set_option linter.unusedVariables false
set_option linter.unusedSimpArgs false
namespace Go.Proofs.YtphipehmbefejaaGreat.Rf
open Go
noncomputable section
inductive JE where
 |val (s:Nat) (t:Ty)
 |hdr (s key:Nat) (t:Ty) (m:Md)
def JE.ty:JE->Ty
 |.val _ t=>t
 |.hdr _ _ t _=>t
def jsT:List JE->Ty
 |[]=>.unit
 |j::js=>.pair j.ty (jsT js)
def ipT:List (Nat×Ty×Md)->Ty
 |[]=>.unit
 |p::ps=>.pair p.2.1 (ipT ps)
structure Spec where
 ip:List (Nat×Ty×Md)
 js:List JE
 Ai:List Nat
abbrev Spec.T(s:Spec):Type:=(ipT s.ip).T×(jsT s.js).T
def fq(t:Nat):List Nat->Bool
 |[]=>false
 |x::xs=>Nat.beq t x||fq t xs
def isKey(l:Nat):List JE->Bool
 |[]=>false
 |.hdr _ k _ _::js=>Nat.beq l k||isKey l js
 |_::js=>isKey l js
def uS(l:Nat):List (Nat×Ty×Md)->Bool
 |[]=>false
 |p::ps=>Nat.beq l p.1||uS l ps
def Cc(σ0:St)(l:Nat):Nat:=match σ0.L l with|some b=>b.v+1|none=>1
def ipL(σ0:St):(ip:List (Nat×Ty×Md))->(ipT ip).T->Nat->Option Lab
 |[],_=>λ_=>none
 |p::ps,x=>upd (ipL σ0 ps x.2) p.1 (some ⟨Cc σ0 p.1,p.2.1,p.2.2,x.1⟩)
def jc(σ0:St)(s:Spec)(x:(ipT s.ip).T):St:=
 {E:=λt=>bif fq t s.Ai then σ0.E t else none,L:=ipL σ0 s.ip x,U:=λl=>(σ0.U l&&!isKey l s.js)||uS l s.ip}
def Cd:(js:List JE)->(jsT js).T->St->St
 |[],_,σ=>σ
 |.val s t::js,x,σ=>Cd js x.2 {σ with E:=upd σ.E s (some (.one (.val t x.1)))}
 |.hdr s key t m::js,x,σ=>Cd js x.2 {E:=upd σ.E s (some (.one (.hdr key 1 [] ⟨t,x.1⟩))),L:=upd σ.L key (some ⟨1,t,m,x.1⟩),U:=λj=>Nat.beq j key||σ.U j}
def stJ(σ0:St)(s:Spec)(x:s.T):St:=Cd s.js x.2 (jc σ0 s x.1)
def ipK{R:Type}:(ip:List (Nat×Ty×Md))->(Nat->Option Lab)->((ipT ip).T->(Nat->Option Lab)->Option R)->Option R
 |[],L,K=>K () L
 |p::ps,L,K=>match L p.1 with
  |some ⟨_,t,m,x⟩=>if h:t=p.2.1 then(bif decide (m=p.2.2)then ipK ps (upd L p.1 none) λxs L'=>K (h ▸ x,xs) L' else none)else none
  |none=>none
def jsK{R:Type}(σ1:St):(js:List JE)->(Nat->Option Lab)->((jsT js).T->Option R)->Option R
 |[],_,K=>K ()
 |.val s t::js,L,K=>match σ1.E s with
  |some (.one e)=>asN e t λx=>jsK σ1 js L λxs=>K (x,xs)
  |_=>none
 |.hdr s _ t m::js,L,K=>match σ1.E s with
  |some (.one e)=>qp L t m e λy L'=>jsK σ1 js L' λxs=>K (y,xs)
  |_=>none
def nn(σ0 σ1:St):List Nat->Bool
 |[]=>true
 |t::ts=>((σ0.E t).isNone||((σ1.E t).isSome&&(mI (σ1.E t) == mI (σ0.E t))))&&nn σ0 σ1 ts
def uT{R:Type}(σ0:St)(s:Spec)(σ1:St)(K:s.T->Option R):Option R:=
 bif nn σ0 σ1 s.Ai then ipK s.ip σ1.L λxs L=>jsK σ1 s.js L λys=>K (xs,ys)else none
def oM:aj->Option Nat
 |.hdr l ..=>some l
 |.adr l ..=>some l
 |.view l ..=>some l
 |_=>none
def yl(js:List JE):Option Ent->Bool
 |some (.one e)=>(match oM e with|some l=>!isKey l js|none=>true)
 |some (.tup _)=>false
 |some (.clo _ es)=>es.all λe=>(match oM e with|some l=>!isKey l js|none=>true)
 |none=>true
def tz(σ0:St)(js:List JE)(W:Nat->Bool):List Nat->Bool
 |[]=>true
 |t::ts=>(!W t&&yl js (σ0.E t))&&tz σ0 js W ts
def E9(σ0:St)(js:List JE):List (Nat×Ty×Md)->Bool
 |[]=>true
 |p::ps=>(((σ0.L p.1).isSome||!σ0.U p.1)&&!isKey p.1 js)&&E9 σ0 js ps
def pG(σ0:St)(W:Nat->Bool):List JE->Bool
 |[]=>true
 |.val s _::js=>(W s||mI (σ0.E s))&&pG σ0 W js
 |.hdr s k _ _::js=>(W s&&(!isKey k js&&Nat.beq (k % 8) 7))&&pG σ0 W js
def kZ(σ0:St)(s:Spec)(W:Nat->Bool):Bool:=tz σ0 s.js W s.Ai&&(E9 σ0 s.js s.ip&&pG σ0 W s.js)
section
variable {P:Program} {B:dh} {F:ae} {Sg:Nat->ae} {cg:Nat->List Value} {σ:St} {a:Act} {w:World}
theorem aJ.tC(h:aJ B F Sg cg σ a w){s:Nat}{e:Ent}(he:gx F w σ.L σ.U cg e (a.tmps.getD s undef)):aJ B F Sg cg {σ with E:=upd σ.E s (some e)} a w:=
 {h with
  ent:=λt e' he'=>by
   rcases eO he' with⟨rfl,e1⟩|⟨hn,e1⟩
   ·injection e1 with e1;subst e1;exact he
   ·exact h.ent t e' e1}
theorem qD{t:Nat}{l:List Nat}(h:fq t l=true):t∈l:=by
 induction l with
 |nil=>cases h
 |cons x xs ih=>
  simp only[fq,aR]at h
  rcases h with h|h
  ·rw[aV h];simp
  ·simp[ih h]
theorem uU{σ0 σ1:St}{l:List Nat}(h:nn σ0 σ1 l=true){t:Nat}(ht:t∈l):((σ0.E t).isNone||((σ1.E t).isSome&&(mI (σ1.E t) == mI (σ0.E t))))=true:=by
 induction l with
 |nil=>simp at ht
 |cons x xs ih=>
  simp only[nn,ag]at h
  rcases aH.1 ht with rfl|ht
  ·exact h.1
  ·exact ih h.2 ht
theorem xm{σ0:St}{js:List JE}{W:Nat->Bool}{l:List Nat}(h:tz σ0 js W l=true){t:Nat}(ht:t∈l):W t=false/\yl js (σ0.E t)=true:=by
 induction l with
 |nil=>simp at ht
 |cons x xs ih=>
  simp only[tz,ag,bq]at h
  rcases aH.1 ht with rfl|ht
  ·exact h.1
  ·exact ih h.2 ht
theorem uV{σ0:St}{js:List JE}{l:Nat}{ps:List (Nat×Ty×Md)}(h:E9 σ0 js ps=true)(hl:uS l ps=true):((σ0.L l).isSome||!σ0.U l)=true/\isKey l js=false:=by
 induction ps with
 |nil=>cases hl
 |cons p ps ih=>
  simp only[E9,ag,bq]at h
  simp only[uS,aR]at hl
  rcases hl with hl|hl
  ·rw[aV hl];exact h.1
  ·exact ih h.2 hl
theorem Ie{R:Type}{σ0:St}:∀ (ip:List (Nat×Ty×Md)) (L:Nat->Option Lab) (K:(ipT ip).T->(Nat->Option Lab)->Option R) (r:R),ipK ip L K=some r->
 ∃ xs L',K xs L'=some r/\(∀ j,L' j=none\/L' j=L j)/\∀ l b',ipL σ0 ip xs l=some b'->uS l ip=true/\L' l=none/\∃ b1,L l=some b1/\b'=⟨Cc σ0 l,b1.t,b1.m,b1.x⟩:=by
 intro ip
 induction ip with
 |nil=>intro L K r hk;exact⟨(),L,hk,λ_=>.inr rfl,λl b' h=>by cases h⟩
 |cons p ps ih=>
  intro L K r hk
  simp only[ipK]at hk
  cases hl:L p.1 with
  |none=>rw[hl]at hk;cases hk
  |some b=>
   rw[hl]at hk
   obtain⟨v,t,m,x⟩:=b
   simp only at hk
   split at hk
   ·rename_i ht
    cases hm:decide (m=p.2.2)
    ·rw[hm]at hk;cases hk
    rw[hm]at hk
    simp only[cond_true]at hk
    replace hm:=of_decide_eq_true hm
    obtain⟨xs,L',g1,g2,g3⟩:=ih _ _ r hk
    have hL':∀ j,L' j=none\/L' j=L j:=λj=>by
     rcases g2 j with e|e
     ·exact .inl e
     ·rw[e]
      by_cases hj:j=p.1
      ·subst hj;exact .inl (ay _ _ _)
      ·exact .inr (aI _ _ hj)
    refine⟨_,L',g1,hL',λl b' hb=>?_⟩
    rcases eO hb with⟨rfl,e⟩|⟨hne,e⟩
    ·refine⟨by simp[uS,cr],?_,⟨v,t,m,x⟩,hl,?_⟩
     ·rcases g2 p.1 with e1|e1
      ·exact e1
      ·rw[e1];exact ay _ _ _
     ·injection e with e
      subst e
      obtain⟨p1,p2,p3⟩:=p
      simp only at ht hm
      subst ht;subst hm
      rfl
    ·obtain⟨q1,q2,b1,q3,q4⟩:=g3 l b' e
     rw[aI _ _ hne]at q3
     exact⟨by simp[uS,q1],q2,b1,q3,q4⟩
   ·cases hk
theorem qE{l s key:Nat}{t:Ty}{m:Md}{js:List JE}:isKey l (.hdr s key t m::js)=(Nat.beq l key||isKey l js):=rfl
theorem Ig{R:Type}{F:ae}{Sg:Nat->ae}{cg:Nat->List Value}{σ1:St}(h1:aJ B F Sg cg σ1 a w){W:Nat->Bool}{σ0:St}:∀ (js:List JE) (L:Nat->Option Lab) (K:(jsT js).T->Option R) (r:R) (σp:St) (Sgp:Nat->ae) (cgp:Nat->List Value),jsK σ1 js L K=some r->pG σ0 W js=true->(∀ j,L j=none\/L j=σ1.L j)->
 aJ B F Sgp cgp σp a w->(∀ l,isKey l js=true->σp.U l=false)->(∀ k bk,σp.L k=some bk->∀ l b,L l=some b->Dis (Sgp k) (Sg l))->∃ ys,K ys=some r/\Inv B (Cd js ys σp) a w:=by
 intro js
 induction js with
 |nil=>intro L K r σp Sgp cgp hk _ _ hp _ _;exact⟨(),hk,F,Sgp,cgp,hp⟩
 |cons j js ih=>
  intro L K r σp Sgp cgp hk ho hL hp hU hd
  cases j with
  |val s t=>
   simp only[jsK]at hk
   simp only[pG,ag]at ho
   split at hk
   ·rename_i e hE
    obtain⟨x,cs,hk,hr,hv⟩:=BP hk (h1.ent s _ hE)
    obtain⟨ys,g1,g2⟩:=ih L _ r _ Sgp cgp hk ho.2 hL (hp.tC (s:=s) (e:=.one (.val t x)) ⟨cs,hr,hv⟩) (λl hl=>hU l hl) hd
    exact⟨(x,ys),g1,g2⟩
   ·cases hk
  |hdr s key t m=>
   simp only[jsK]at hk
   simp only[pG,ag,bq]at ho
   split at hk
   ·rename_i e hE
    obtain⟨y,L1,cs1,S1,hk,hr,hv,hL1,hS1⟩:=uG h1 hL hk (h1.ent s _ hE)
    have hUk:σp.U key=false:=hU key (by rw[qE,cr];rfl)
    have i1:=hp.iH (w':=w) rfl rfl rfl (ar _) (l:=key) (b:=⟨1,t,m,y⟩) hUk (upd σp.L key (some ⟨1,t,m,y⟩)) (λ_ _ _=>rfl) hr (ay _ _ _) (λj hj=>.inr (aI _ _ hj))
     (λk hk=>by
      obtain⟨l2,b2,e1,e2,e3,e4⟩:=hS1 k hk
      refine⟨λj bj hj hbj hs=>?_,λhf=>h1.dG l2 b2 e2 k e4 hf,h1.lt l2 b2 e2 k e4,h1.may l2 b2 e2 k e4⟩
      rw[aI _ _ hj]at hbj
      exact hd j bj hbj l2 b2 e1 k hs e4)
    have i2:=i1.tC (s:=s) (e:=.one (.hdr key 1 [] ⟨t,y⟩)) (fw i1 (l:=key) (b:=⟨1,t,m,y⟩) (ay _ _ _) (by simpa using hv))
    obtain⟨ys,g1,g2⟩:=ih L1 _ r _ _ _ hk ho.2 (λj=>by
     rcases hL1 j with e|e
     ·exact .inl e
     ·rw[e];exact hL j) i2 (λl hl=>by
     have hne:Nat.beq l key=false:=by
      cases hb:Nat.beq l key
      ·rfl
      ·rw[aV hb,ho.1.2.1]at hl;cases hl
     simp only[hne,cR]
     exact hU l (by rw[qE,hl];simp)) (λk bk hbk l b hl=>by
     have hlL:L l=some b:=by
      rcases hL1 l with e|e
      ·rw[e]at hl;cases hl
      ·rw[<-e];exact hl
     by_cases hkk:k=key
     ·rw[if_pos hkk]
      intro q hq1 hq2
      obtain⟨l2,b2,e1,e2,e3,e4⟩:=hS1 q hq1
      by_cases e:l2=l
      ·subst e;rw[e3]at hl;cases hl
      ·have hl1:σ1.L l=some b:=by
        rcases hL l with e'|e'
        ·rw[e']at hlL;cases hlL
        ·rw[<-e'];exact hlL
       exact h1.dis l2 l b2 b e e2 hl1 q e4 hq2
     ·rw[if_neg hkk]
      rcases eO hbk with⟨e,_⟩|⟨_,e⟩
      ·exact absurd e hkk
      ·exact hd k bk e l b hlL)
    exact⟨(y,ys),g1,g2⟩
   ·cases hk
theorem bW.mem{L:Nat->Option Lab}{U:Nat->Bool}:∀ {es:List aj} {vs:List Value} {e:aj},bW F w L U cg es vs->e∈es->∃ v,aw F w L U cg e v:=by
 intro es
 induction es with
 |nil=>intro vs e _ h;simp at h
 |cons x xs ih=>
  rintro vs e ⟨v,r,rfl,h1,h2⟩ hm
  rcases aH.1 hm with rfl|hm
  ·exact⟨v,h1⟩
  ·exact ih h2 hm
theorem bW.LA{F':ae}{w':World}{L L':Nat->Option Lab}{U U':Nat->Bool}{cg':Nat->List Value}:∀ {es:List aj} {vs:List Value},(∀ e∈es,∀ v,aw F w L U cg e v->aw F' w' L' U' cg' e v)->bW F w L U cg es vs->bW F' w' L' U' cg' es vs:=by
 intro es
 induction es with
 |nil=>intro vs _ h;exact h
 |cons x xs ih=>
  rintro vs hi ⟨v,r,rfl,h1,h2⟩
  exact⟨v,r,rfl,hi x (by simp) v h1,ih (λe he=>hi e (by simp[he])) h2⟩
def ym(σ0:St):Prop:=∀ t e,(σ0.E t=some (.one e)\/∃ f es,σ0.E t=some (.clo f es)/\e∈es)->(∀ l n π c,e=.hdr l n π c->σ0.U l=true/\∀ b,σ0.L l=some b->n<=b.v)/\(∀ l n π c,e=.adr l n π c->σ0.U l=true/\∀ b,σ0.L l=some b->n<=b.v)/\∀ l te lo hi,e=.view l te lo hi->σ0.U l=true
theorem aJ.ver(h:aJ B F Sg cg σ a w):ym σ:=by
 intro t e he
 have:∃ v,aw F w σ.L σ.U cg e v:=by
  rcases he with he|⟨f,es,he,hm⟩
  ·exact⟨_,h.ent t _ he⟩
  ·obtain⟨vs,_,hes⟩:=h.ent t _ he
   exact hes.mem hm
 obtain⟨v,this⟩:=this
 refine⟨?_,?_,?_⟩
 ·rintro l n π c rfl;exact⟨this.1,λb hb=>(this.2 b hb).1⟩
 ·rintro l n π c rfl;exact⟨this.1,λb hb=>(this.2 b hb).1⟩
 ·rintro l te lo hi rfl;exact this.1
theorem Ce{σ0:St}{W:Nat->Bool}{l:Nat}{js:List JE}(h:pG σ0 W js=true)(hl:isKey l js=true):l % 8=7:=by
 induction js with
 |nil=>cases hl
 |cons j js ih=>
  cases j with
  |val s t=>simp only[pG,ag]at h;exact ih h.2 hl
  |hdr s k t m=>
   simp only[pG,ag]at h
   simp only[isKey,aR]at hl
   rcases hl with hl|hl
   ·rw[aV hl];exact aV h.1.2.2
   ·exact ih h.2 hl
def yn(B:dh)(σ0:St):Prop:=∀ l cs,B.fix l=some cs->σ0.U l=true
theorem aJ.Ho(h:aJ B F Sg cg σ a w):yn B σ:=λl cs hf=>(h.fix l cs hf).1.1
theorem xn{R:Type}{σ0 σ1:St}{W:Nat->Bool}(h:Inv B σ1 a w)(hv:ym σ0)(hvf:yn B σ0)(hes:ES σ0 σ1 W){s:Spec}(hs:kZ σ0 s W=true){K:s.T->Option R}{r:R}(hk:uT σ0 s σ1 K=some r):∃ x,K x=some r/\Inv B (stJ σ0 s x) a w:=by
 obtain⟨F,Sg,cg,h⟩:=h
 unfold uT at hk
 unfold kZ at hs
 simp only[ag]at hs
 obtain⟨hs1,hs2,hs3⟩:=hs
 cases hka:nn σ0 σ1 s.Ai
 ·rw[hka]at hk;cases hk
 rw[hka]at hk
 simp only[cond_true]at hk
 obtain⟨xs,L',hk,hL',hip⟩:=Ie (σ0:=σ0) s.ip σ1.L _ r hk
 have JS:aJ B F Sg cg (jc σ0 s xs) a w:=
  {fr:=h.fr
   size:=h.size
   defers:=h.defers
   f0:=h.f0
   fl:=h.fl
   fs:=h.fs
   lab:=λl b hb=>by obtain⟨_,_,b1,q1,rfl⟩:=hip l b hb;exact h.lab l b1 q1
   dis:=λl l' b b' hne hb hb'=>by
    obtain⟨_,_,b1,q1,_⟩:=hip l b hb
    obtain⟨_,_,b2,q2,_⟩:=hip l' b' hb'
    exact h.dis l l' b1 b2 hne q1 q2
   dG:=λl b hb=>by obtain⟨_,_,b1,q1,_⟩:=hip l b hb;exact h.dG l b1 q1
   lt:=λl b hb=>by obtain⟨_,_,b1,q1,_⟩:=hip l b hb;exact h.lt l b1 q1
   may:=λl b hb=>by obtain⟨_,_,b1,q1,_⟩:=hip l b hb;exact h.may l b1 q1
   used:=λl b hb=>by obtain⟨q0,_⟩:=hip l b hb;simp[jc,q0]
   fix:=λl cs' hf=>by
    obtain⟨⟨q1,q2⟩,q3⟩:=h.fix l cs' hf
    refine⟨⟨?_,q2⟩,λb hb=>?_⟩
    ·have rF:isKey l s.js=false:=by
      cases hi:isKey l s.js
      ·rfl
      ·have:=Ce hs3 hi;omega
     simp[jc,hvf l cs' hf,rF]
    ·obtain⟨_,_,b1,g1,_⟩:=hip l b hb
     exact q3 b1 g1
   ent:=λt e he=>by
    simp only[jc]at he
    cases hm:fq t s.Ai
    ·rw[hm]at he;cases he
    rw[hm]at he
    simp only[cond_true]at he
    have mg:=qD hm
    have Aj:=uU hka mg
    obtain⟨hW,hno⟩:=xm hs1 mg
    have hE1:σ1.E t=some e:=by
     rw[he]at Aj
     simp only[Option.isNone_some,cR,ag]at Aj
     rcases hes t hW with e1|e1|⟨e1,e2⟩
     ·rw[e1,he]
     ·rw[e1]at Aj;simp at Aj
     ·rw[he]at e1
      rw[e1,e2]at Aj
      simp at Aj
    have h1:=h.ent t e hE1
    rw[he]at hno
    have one:∀ (e:aj) (v:Value),(σ0.E t=some (.one e)\/∃ f es,σ0.E t=some (.clo f es)/\e∈es)->(match oM e with|some l=>!isKey l s.js|none=>true)=true->aw F w σ1.L σ1.U cg e v->aw F w (jc σ0 s xs).L (jc σ0 s xs).U cg e v:=by
     intro e v he hno h1
     have Ih:=hv t e he
     have fin:∀ l n,(σ0.U l=true/\∀ b,σ0.L l=some b->n<=b.v)->isKey l s.js=false->(jc σ0 s xs).U l=true/\∀ b',(jc σ0 s xs).L l=some b'->∃ b1,σ1.L l=some b1/\n<b'.v/\b'.t=b1.t:=by
      intro l n hln rF
      refine⟨by simp[jc,hln.1,rF],λb' hb'=>?_⟩
      obtain⟨q0,_,b1,q1,rfl⟩:=hip l b' hb'
      refine⟨b1,q1,?_,rfl⟩
      have:=(uV hs2 q0).1
      rw[hln.1]at this
      simp only[az,iq]at this
      obtain⟨b0,hb0⟩:=jo.1 this
      simp only[Cc,hb0]
      exact Nat.lt_succ_of_le (hln.2 b0 hb0)
     cases e with
     |val t x=>exact h1
     |cst u=>exact h1
     |jF t x=>exact h1
     |view l te lo hi=>
      simp only[oM,bq]at hno
      refine⟨by simp[jc,Ih.2.2 l te lo hi rfl,hno],λb' hb'=>?_⟩
      obtain⟨_,_,b1,q1,_⟩:=hip l b' hb'
      exact h1.2 b1 q1
     |hdr l n π c=>
      simp only[oM,bq]at hno
      obtain⟨f1,f2⟩:=fin l n (Ih.1 l n π c rfl) hno
      refine⟨f1,λb' hb'=>?_⟩
      obtain⟨b1,q1,q2,q3⟩:=f2 b' hb'
      obtain⟨k1,k2,k3⟩:=h1.2 b1 q1
      exact⟨lN q2,λhp=>by rw[q3];exact k2 hp,λhn=>by omega⟩
     |adr l n π c=>
      simp only[oM,bq]at hno
      obtain⟨f1,f2⟩:=fin l n (Ih.2.1 l n π c rfl) hno
      refine⟨f1,λb' hb'=>?_⟩
      obtain⟨b1,q1,q2,q3⟩:=f2 b' hb'
      obtain⟨k1,k2,k3⟩:=h1.2 b1 q1
      exact⟨lN q2,λhp p o hr=>k2 hp p o (by rw[<-q3];exact hr),λhn=>by omega⟩
    cases e with
    |tup es=>simp[yl]at hno
    |one e=>exact one e _ (.inl he) hno h1
    |clo f es=>
     obtain⟨vs,hv1,LB⟩:=h1
     simp only[yl,cO]at hno
     exact⟨vs,hv1,LB.LA λe hm v hv=>one e v (.inr ⟨f,es,he,hm⟩) (hno e hm) hv⟩}
 obtain⟨ys,g1,g2⟩:=Ig h (σ0:=σ0) (W:=W) s.js L' _ r (jc σ0 s xs) Sg cg hk hs3 hL' JS (λl hl=>by
  simp only[jc,hl,az,Bool.and_false,cR]
  cases hi:uS l s.ip
  ·rfl
  ·rw[(uV hs2 hi).2]at hl;cases hl)
  (λk bk hbk l b hl=>by
   obtain⟨_,q1,b1,q2,_⟩:=hip k bk hbk
   have hl1:σ1.L l=some b:=by
    rcases hL' l with e|e
    ·rw[e]at hl;cases hl
    ·rw[<-e];exact hl
   by_cases e:k=l
   ·subst e;rw[q1]at hl;cases hl
   ·exact h.dis k l b1 b e q2 hl1)
 exact⟨(xs,ys),g1,g2⟩
theorem xo{σ0:St}{W:Nat->Bool}{s:Spec}(hs:kZ σ0 s W=true)(x:s.T):ES σ0 (stJ σ0 s x) W:=by
 unfold kZ at hs
 simp only[ag]at hs
 have key:∀ (js:List JE) (ys:(jsT js).T) (σp:St),pG σ0 W js=true->ES σ0 σp W->ES σ0 (Cd js ys σp) W:=by
  intro js
  induction js with
  |nil=>intro ys σp _ h;exact h
  |cons j js ih=>
   intro ys σp ho h
   cases j with
   |val s t=>
    simp only[pG,ag,aR]at ho
    refine ih ys.2 _ ho.2 (λj hj=>?_)
    by_cases e:j=s
    ·subst e
     rcases ho.1 with h1|h1
     ·rw[hj]at h1;cases h1
     ·exact .inr (.inr ⟨h1,by simp only[ay];rfl⟩)
    ·simp only[aI _ _ e];exact h j hj
   |hdr s key t m=>
    simp only[pG,ag,bq]at ho
    refine ih ys.2 _ ho.2 (λj hj=>?_)
    by_cases e:j=s
    ·subst e;rw[hj]at ho;exact absurd ho.1.1 (by simp)
    ·simp only[aI _ _ e];exact h j hj
 refine key s.js x.2 _ hs.2.2 (λj hj=>?_)
 simp only[jc]
 cases fq j s.Ai
 ·exact .inr (.inl rfl)
 ·exact .inl rfl
end
section
variable {R R':Type} (G:R->Option R')
theorem aB(c:Bool)(x y:Option R):(bif c then x else y).bind G=bif c then x.bind G else y.bind G:=by cases c <;> rfl
theorem fT(p:Prop)[Decidable p](x y:Option R):(if p then x else y).bind G=if p then x.bind G else y.bind G:=by split <;> rfl
theorem cu:(none:Option R).bind G=none:=rfl
theorem uW(c:V)(K:V->Option R):(oA c K).bind G=oA c λq=>(K q).bind G:=by
 obtain⟨t,x⟩:=c
 cases t <;> first
  |rfl
  |(cases x <;> rfl)
theorem bD(e:aj)(t:Ty)(K:t.T->Option R):(asT e t K).bind G=asT e t λx=>(K x).bind G:=by
 unfold asT;simp only[cH];repeat' split
 all_goals rfl
theorem gz(e:aj)(K:Int->Option R):(iG e K).bind G=iG e λx=>(K x).bind G:=by
 unfold iG;repeat' split
 all_goals rfl
theorem jO(σ:St)(e:aj)(K:Nat->Lab->List Stp->V->Option R):(plc σ e K).bind G=plc σ e λl b π c=>(K l b π c).bind G:=by
 unfold plc
 split
 ·cases σ.L _ with
  |none=>rfl
  |some b=>
   simp only[cH]
   repeat' split
   all_goals first
    |rfl
    |(rw[fv,fv,om])
 ·cases σ.L _ with
  |none=>rfl
  |some b=>
   simp only[aB,uW,cu]
 ·rfl
theorem dY(σ:St)(e:aj)(K:Nat->Lab->List Stp->V->Option R):(jH σ e K).bind G=jH σ e λl b π c=>(K l b π c).bind G:=by
 unfold jH;simp only[cH];repeat' split
 all_goals rfl
theorem kl(e:aj)(K:(t:Ty)->t.T->Option R):(mS e K).bind G=mS e λt x=>(K t x).bind G:=by
 unfold mS;repeat' split
 all_goals rfl
theorem lX(t:Ty)(x:t.T)(π:List Stp)(K:(u:Ty)->u.T->Option R):(eM t x π K).bind G=eM t x π λu y=>(K u y).bind G:=by
 rw[fv,fv,om]
theorem lY(t:Ty)(x:t.T)(π:List Stp)(u:Ty)(y:u.T)(K:t.T->Option R):(gu t x π u y K).bind G=gu t x π u y λz=>(K z).bind G:=by
 rw[gH,gH,om]
theorem oN(TT:Tab)(s f:Nat)(K:TD->Nat->List Stp->TD->Option R):(uv TT s f K).bind G=uv TT s f λa b c d=>(K a b c d).bind G:=by
 unfold uv;simp only[cH];repeat' split
 all_goals rfl
theorem mJ(L:Nat->Option Lab)(t:Ty)(e:aj)(K:t.T->Md->(Nat->Option Lab)->Option R):(pn L t e K).bind G=pn L t e λa b c=>(K a b c).bind G:=by
 unfold pn;repeat' split
 all_goals first
  |rfl
  |exact bD G _ _ _
theorem uX(TT:Tab)(t:TypeId)(d:TD)(i:Nat)(K:Nat->List Stp->TD->Option R):(oD TT t d i K).bind G=oD TT t d i λa b c=>(K a b c).bind G:=by
 unfold oD;simp only[cH];repeat' split
 all_goals first
  |rfl
  |exact oN G _ _ _ _
theorem uY(TT:Tab)(t:TypeId)(d:TD):∀ (es:List (Nat×aj)) (x:d.ty.T) (m:Md) (L:Nat->Option Lab) (K:d.ty.T->Md->(Nat->Option Lab)->Option R),(mH TT t d es x m L K).bind G=mH TT t d es x m L λa b c=>(K a b c).bind G:=by
 intro es
 induction es with
 |nil=>intro x m L K;rfl
 |cons p es ih=>
  obtain⟨i,e⟩:=p
  intro x m L K
  simp only[mH]
  rw[uX]
  congr 1
  funext k φ df
  rw[aB,mJ]
  congr 1
  congr 1
  funext y my L'
  split
  ·rw[lY]
   congr 1
   funext x'
   exact ih _ _ _ _
  ·rfl
theorem Ak(t:Ty)(m:Md):∀ (es:List (Nat×aj)) (L:Nat->Option Lab) (K:List t.T->(Nat->Option Lab)->Option R),(xe t m es L K).bind G=xe t m es L λa b=>(K a b).bind G:=by
 intro es
 induction es with
 |nil=>intro L K;rfl
 |cons p es ih=>
  obtain⟨i,e⟩:=p
  intro L K
  simp only[xe]
  rw[mJ]
  congr 1
  funext y my L'
  rw[aB,ih]
  rfl
theorem Al(σ:St)(str:Bool)(te:Ty)(e:aj)(K:List te.T->Md->Option Nat->Option R):(zB σ str te e K).bind G=zB σ str te e λa b c=>(K a b c).bind G:=by
 unfold zB;simp only[cH];repeat' split
 all_goals first
  |rfl
  |exact bD G _ _ _
  |(rw[dY];congr 1;funext l b π c;repeat' split) <;> rfl
theorem lZ(lo hi:Option aj)(n:Nat)(K:Int->Int->Option R):(rE lo hi n K).bind G=rE lo hi n λa b=>(K a b).bind G:=by
 unfold rE
 cases lo with
 |none=>
  cases hi with
  |none=>simp only;rw[fT];rfl
  |some eh=>simp only;rw[gz];congr 1;funext h;rw[fT];rfl
 |some el=>
  simp only
  rw[gz]
  congr 1
  funext l
  cases hi with
  |none=>simp only;rw[fT];rfl
  |some eh=>simp only;rw[gz];congr 1;funext h;rw[fT];rfl
theorem xp(L:Nat->Option Lab)(t:Ty)(m:Md)(e:aj)(K:t.T->(Nat->Option Lab)->Option R):(qp L t m e K).bind G=qp L t m e λa b=>(K a b).bind G:=by
 unfold qp
 rw[aB,mJ,bD]
 congr 1
 congr 1
 funext y my L'
 rw[aB]
 rfl
theorem Cf(e:aj)(t:Ty)(K:t.T->Option R):(asN e t K).bind G=asN e t λx=>(K x).bind G:=by
 have sl:∀ (a b:Ty) (x:List a.T) (K:(Ty.nl b).T->Option R),(asN (.val (.sl a) x) (.nl b) K).bind G=asN (.val (.sl a) x) (.nl b) λx=>(K x).bind G:=by
  intro a b x K
  show((if h:a=b then(bif List.isEmpty (x:List a.T)then none else K (h ▸ x))else none).bind G)=(if h:a=b then(bif List.isEmpty (x:List a.T)then none else(K (h ▸ x)).bind G)else none)
  split
  ·rw[aB];rfl
  ·rfl
 have ls:∀ (a b:Ty) (x:List a.T) (K:(Ty.sl b).T->Option R),(asN (.val (.nl a) x) (.sl b) K).bind G=asN (.val (.nl a) x) (.sl b) λx=>(K x).bind G:=by
  intro a b x K
  show((if h:a=b then K (h ▸ x)else none).bind G)=(if h:a=b then(K (h ▸ x)).bind G else none)
  split
  ·rfl
  ·rfl
 cases e with
 |val t0 x=>
  cases t0
  case nl a=>
   cases t
   case sl b=>exact ls a b x K
   all_goals exact bD G (.val (.nl a) x) _ K
  case sl a=>
   cases t
   case nl b=>exact sl a b x K
   all_goals exact bD G (.val (.sl a) x) _ K
  all_goals exact bD G (.val _ x) t K
 |cst v=>exact bD G (.cst v) t K
 |hdr l n π c=>exact bD G (.hdr l n π c) t K
 |adr l n π c=>exact bD G (.adr l n π c) t K
 |jF t0 x=>exact bD G (.jF t0 x) t K
 |view l te lo hi=>exact bD G (.view l te lo hi) t K
theorem Am(σ:St)(L:Nat->Option Lab)(t:Ty)(m:Md)(e:aj)(K:t.T->(Nat->Option Lab)->List Nat->Option R):(ta σ L t m e K).bind G=ta σ L t m e λa b c=>(K a b c).bind G:=by
 unfold ta
 rw[aB,xp]
 congr 1
 ·split
  ·rw[dY];congr 1;funext l b π c;split <;> rfl
  ·exact Cf G _ _ _
theorem xq(σ:St):∀ (ps:List (Ty×Md)) (es:List aj) (L:Nat->Option Lab) (K:(dx ps).T->(Nat->Option Lab)->List Nat->Option R),(jK σ ps es L K).bind G=jK σ ps es L λa b c=>(K a b c).bind G:=by
 intro ps
 induction ps with
 |nil=>intro es L K;cases es <;> rfl
 |cons p ps ih=>
  intro es L K
  cases es with
  |nil=>rfl
  |cons e es=>
   simp only[jK]
   rw[Am]
   congr 1
   funext x L1 b1
   rw[ih]
theorem An:∀ (rs:List (Ty×Md)) (x:(dx rs).T) (key:Nat) (σ:St) (K:St->List aj->Option R),(oE rs x key σ K).bind G=oE rs x key σ λa b=>(K a b).bind G:=by
 intro rs
 induction rs with
 |nil=>intro x key σ K;rfl
 |cons p rs ih=>
  intro x key σ K
  simp only[oE]
  rw[aB,aB,ih,ih]
  rfl
theorem xr{A:Type}(o:Option A)(k:A->Option R):(ah o k).bind G=ah o λa=>(k a).bind G:=by cases o <;> rfl
end
section
variable {R R':Type} (G:R->Option R')
theorem r7(td:Option TD)(op:BinOp)(x y:aj)(K:aj->Option R):(wX td op x y K).bind G=wX td op x y λe=>(K e).bind G:=by
 unfold wX
 split
 ·cases op <;> simp only[aB,fT,cu]
 ·cases op <;> simp only[aB,fT,cu]
 ·cases op <;> simp only[aB,fT,cu]
 ·rfl
theorem qF(d:TD)(σ:St)(e:aj)(K:aj->Option R):(qc d σ e K).bind G=qc d σ e λe=>(K e).bind G:=by
 unfold qc
 simp only[aB,jO,kl,cu]
theorem kD(TT:Tab)(σ:St)(s:TypeId)(e:aj)(f:Nat)(K:aj->Option R):(iF TT σ s e f K).bind G=iF TT σ s e f λe=>(K e).bind G:=by
 unfold iF
 simp only[oN,aB,jO,kl,lX,cu]
theorem pt(TT:Tab)(σ:St)(s:TypeId)(e:aj)(f:Nat)(K:aj->Option R):(qm TT σ s e f K).bind G=qm TT σ s e f λe=>(K e).bind G:=by
 unfold qm
 rw[oN]
 congr 1
 funext d k φ df
 rw[aB]
 congr 1
 cases e <;> simp only[aB,dY,lX,cu]
theorem pH(TT:Tab)(σ:St)(t:TypeId)(ex ei:aj)(K:aj->Option R):(fA TT σ t ex ei K).bind G=fA TT σ t ex ei λe=>(K e).bind G:=by
 unfold fA
 rw[gz]
 congr 1
 funext i
 split
 ·rfl
 ·split
  ·split
   ·rfl
   ·split
    ·simp only[aB,fT,cu]
     congr 1
     split
     ·split <;> rfl
     ·rfl
    ·simp only[aB,dY,lX,cu]
    ·rfl
  ·split
   ·rfl
   ·simp only[aB,jO,kl,lX,cu]
  ·rfl
theorem pu(TT:Tab)(t:TypeId)(ex ei:aj)(K:aj->Option R):(oC TT t ex ei K).bind G=oC TT t ex ei λe=>(K e).bind G:=by
 unfold oC
 rw[gz]
 congr 1
 funext i
 simp only[cH]
 repeat' split
 all_goals rfl
theorem r9(TT:Tab)(σ:St)(t:TypeId)(e:aj)(K:aj->Option R):(zF TT σ t e K).bind G=zF TT σ t e λe=>(K e).bind G:=by
 unfold zF
 split
 ·rfl
 ·split
  ·split <;> rfl
  ·split
   ·rfl
   ·rw[dY];congr 1;funext l b π c;split <;> rfl
   ·rfl
   ·rfl
  ·split
   ·rw[dY];congr 1;funext l b π c;split
    ·rw[aB];rfl
    ·rfl
   ·rfl
  ·rfl
theorem sa(TT:Tab)(σ:St)(t:TypeId)(e:aj)(K:aj->Option R):(zG TT σ t e K).bind G=zG TT σ t e λe=>(K e).bind G:=by
 unfold zG
 split
 ·rfl
 ·split
  ·split
   ·rw[dY];congr 1;funext l b π c;split
    ·rw[aB];rfl
    ·rfl
   ·rfl
  ·rfl
theorem sb(σ:St)(e:aj)(K:aj->Option R):(zH σ e K).bind G=zH σ e λe=>(K e).bind G:=by
 unfold zH
 simp only[aB,jO,kl]
theorem uZ(op:UnOp)(e:aj)(K:aj->Option R):(xUn op e K).bind G=xUn op e λe=>(K e).bind G:=by
 unfold xUn;split <;> rfl
theorem sd(x y:aj)(K:aj->Option R):(zR x y K).bind G=zR x y λe=>(K e).bind G:=by
 unfold zR;split <;> first|rfl|exact bD G _ _ _
theorem se(x y:aj)(K:aj->Option R):(zT x y K).bind G=zT x y λe=>(K e).bind G:=by
 unfold zT;split <;> first|rfl|exact bD G _ _ _
theorem xt(TT:Tab)(σ:St)(s t:TypeId)(e:aj)(K:aj->Option R):(rW TT σ s t e K).bind G=rW TT σ s t e λe=>(K e).bind G:=by
 unfold rW
 split
 ·rfl
 ·split
  ·rfl
  ·split
   ·split <;> rfl
   ·split
    ·split <;> rfl
    ·split
     ·rfl
     ·split
      ·split
       ·rfl
       ·rw[dY];congr 1;funext l b π c;split <;> rfl
       ·rfl
       ·rfl
      ·rfl
    ·rfl
   ·rfl
theorem u0(de:TD)(σ:St)(dst:Nat)(e:aj)(K:St->Option R):(ke de σ dst e K).bind G=ke de σ dst e λe=>(K e).bind G:=by
 unfold ke
 rw[aB]
 congr 1
 split
 ·split <;> rfl
 ·rfl
theorem sf(TT:Tab)(EQ:TypeId->Bool)(σ:St)(t:TypeId)(op:BinOp)(x y:aj)(K:aj->Option R):(zW TT EQ σ t op x y K).bind G=zW TT EQ σ t op x y λe=>(K e).bind G:=by
 unfold zW
 split
 ·split
  ·rw[aB]
   congr 1
   unfold EN
   split
   ·rw[bD];congr 1;funext a
    rw[bD];congr 1;funext b
    split
    ·split <;> rfl
    ·rfl
   ·rfl
  ·rw[aB]
   congr 1
   unfold EO
   split
   ·rw[aB]
    congr 1
    rw[bD];congr 1;funext a
    rw[bD];congr 1;funext b
    split <;> rfl
   ·rfl
  ·unfold EP
   split
   ·simp only
    split
    ·split <;> rfl
    ·split <;> rfl
    ·rw[dY];congr 1;funext l b π c
     split
     ·split <;> rfl
     ·split <;> rfl
     ·rfl
    ·split <;> rfl
    ·rfl
   ·rfl
  ·exact r7 G _ _ _ _ _
 ·exact r7 G _ _ _ _ _
theorem u9(d:TD)(σ:St)(dst:Nat)(K:St->Option R):(j8 d σ dst K).bind G=j8 d σ dst λe=>(K e).bind G:=by
 unfold j8;simp only[aB,cu];congr 1;split <;> rfl
theorem Ao(d:TD)(σ:St)(dst:Nat)(e:aj)(K:St->Option R):(sX d σ dst e K).bind G=sX d σ dst e λe=>(K e).bind G:=by
 unfold sX;simp only[aB,cu];congr 1;split
 ·split
  ·simp only[aB,cu]
  ·rfl
 ·exact bD G _ _ _
theorem xu(d:TD)(σ:St)(dst:Nat)(e1 e2:aj)(K:St->Option R):(mY d σ dst e1 e2 K).bind G=mY d σ dst e1 e2 λe=>(K e).bind G:=by
 unfold mY
 simp only[aB,cu,gz,fT]
 congr 1
 congr 1
 funext n
 congr 1
 funext c
 congr 1
 congr 1
 split <;> rfl
theorem vd(d:TD)(σ:St)(e1 e2:aj)(K:St->Option R):(j7 d σ e1 e2 K).bind G=j7 d σ e1 e2 λe=>(K e).bind G:=by
 unfold j7
 rw[jO]
 congr 1
 funext l b π c
 rw[aB]
 congr 1
 split
 ·rw[aB]
  congr 1
  split
  ·split
   ·rw[lY];congr 1;funext x;rw[aB];rfl
   ·rfl
  ·rfl
 ·rw[bD]
  congr 1
  funext y
  split
  ·rw[lY]
  ·rfl
theorem Ap(d:TD)(σ:St)(e1 e2:aj)(K:St->Option R):(sS d σ e1 e2 K).bind G=sS d σ e1 e2 λe=>(K e).bind G:=by
 unfold sS
 rw[jO]
 congr 1
 funext l b π c
 rw[aB]
 congr 1
 split
 ·split
  ·rw[aB]
   congr 1
   split
   ·rw[aB];congr 1;split <;> rfl
   ·rfl
  ·rw[bD]
   congr 1
   funext y
   split <;> rfl
 ·rfl
theorem xv(d:TD)(σ:St)(e1 e2:aj)(K:St->Option R):(qj d σ e1 e2 K).bind G=qj d σ e1 e2 λe=>(K e).bind G:=by
 unfold qj
 split
 ·split
  ·split
   ·split
    ·rw[aB];congr 1;split
     ·split <;> rfl
     ·rfl
    ·rfl
   ·rfl
  ·rfl
 ·rfl
theorem Cg(d:TD)(σ:St)(e1 e2:aj)(K:St->Option R):(xSt d σ e1 e2 K).bind G=xSt d σ e1 e2 λe=>(K e).bind G:=by
 unfold xSt
 rw[aB,xv,vd]
theorem qG(TT:Tab)(σ:St)(t:TypeId)(ex ei:aj)(K:aj->Option R):(ix TT σ t ex ei K).bind G=ix TT σ t ex ei λe=>(K e).bind G:=by
 unfold ix
 split
 ·split
  ·unfold iG
   split
   ·split
    ·split
     ·split
      ·rw[aB];congr 1;split <;> rfl
      ·rfl
     ·rfl
    ·rfl
   ·rfl
  ·rfl
 ·rfl
theorem sg(TT:Tab)(σ:St)(t:TypeId)(ex ei:aj)(K:aj->Option R):(zA TT σ t ex ei K).bind G=zA TT σ t ex ei λe=>(K e).bind G:=by
 unfold zA
 rw[aB,qG,pH]
theorem oO(d:TD)(σ:St)(str:Bool)(lk dst:Nat)(e1 e2:aj)(K:St->Option R):(qk d σ str lk dst e1 e2 K).bind G=qk d σ str lk dst e1 e2 λe=>(K e).bind G:=by
 unfold qk
 rw[aB,Al]
 congr 1
 congr 1
 funext x2 m2 lo
 split
 ·split
  ·split
   ·simp only[aB,fT,cu]
   ·rfl
  ·rfl
 ·rw[bD];congr 1;funext x1;simp only[fT,cu]
 ·rfl
theorem tD(d:TD)(σ:St)(str:Bool)(dst:Nat)(e1 e2:aj)(K:St->Option R):(hJ d σ str dst e1 e2 K).bind G=hJ d σ str dst e1 e2 λe=>(K e).bind G:=by
 unfold hJ
 split
 ·split
  ·rw[aB];congr 1;split
   ·exact oO G _ _ _ _ _ _ _ _
   ·rfl
  ·rfl
 ·split
  ·rw[aB];congr 1;split
   ·split
    ·exact oO G _ _ _ _ _ _ _ _
    ·rfl
   ·rfl
  ·rfl
 ·exact oO G _ _ _ _ _ _ _ _
theorem ve(TT:Tab)(σ:St)(t:TypeId)(dst:Nat)(own:Bool)(ps:List (Nat×Operand))(KV:aj->Option R)(K:St->Option R):(ka TT σ t dst own ps KV K).bind G=ka TT σ t dst own ps (λe=>(KV e).bind G) λe=>(K e).bind G:=by
 unfold ka
 split
 ·rfl
 ·rw[aB]
  congr 1
  split
  ·rfl
  ·split
   ·rfl
   ·rw[uY];congr 1;funext x m L;simp only[aB,cu]
theorem Aq(d:TD)(σ:St)(dst len:Nat)(ps:List (Nat×Operand))(K:St->Option R):(s9 d σ dst len ps K).bind G=s9 d σ dst len ps λe=>(K e).bind G:=by
 unfold s9
 rw[aB]
 congr 1
 split
 ·rw[aB,Ak];rfl
 ·rfl
theorem Ar(TT:Tab)(σ:St)(t:TypeId)(dst:Nat)(ex:aj)(lo hi:Option aj)(KV:aj->Option R)(K:St->Option R):(s7 TT σ t dst ex lo hi KV K).bind G=s7 TT σ t dst ex lo hi (λe=>(KV e).bind G) λe=>(K e).bind G:=by
 unfold s7
 split
 ·rfl
 ·split
  ·split
   ·exact lZ G _ _ _ _
   ·rfl
  ·split
   ·rfl
   ·split
    ·rw[aB,lZ];rfl
    ·rw[aB]
     congr 1
     split
     ·rw[aB,lZ];rfl
     ·rfl
    ·rw[aB]
     congr 1
     split
     ·rw[aB]
      congr 1
      split
      ·split
       ·rw[aB,lZ];rfl
       ·rfl
      ·rfl
     ·rfl
    ·rfl
  ·rfl
theorem mK(σ:St)(dst:Option Nat)(c:Callee)(es:List aj)(K:St->Option R):(gQ σ dst c es K).bind G=gQ σ dst c es λe=>(K e).bind G:=by
 unfold gQ
 rw[xq]
 congr 1
 funext x L bs
 rw[aB,xr]
 congr 1
 congr 1
 funext r
 split
 ·split
  ·rw[An]
  ·rfl
 ·rfl
theorem km(TT:Tab)(t:TypeId)(K:TD->Option R):(jL TT t K).bind G=jL TT t λd=>(K d).bind G:=by
 unfold jL;repeat' split
 all_goals rfl
theorem rH(V:Env)(σ:St)(b:Builtin)(ts:List TypeId)(xs:List Operand)(dst:Option Nat)(K:St->Option R):(fo V σ b ts xs dst K).bind G=fo V σ b ts xs dst λe=>(K e).bind G:=by
 unfold fo
 split
 ·split
  ·exact r9 G _ _ _ _ _
  ·rfl
 ·split
  ·exact sa G _ _ _ _ _
  ·rfl
 ·split
  ·rw[km]
   congr 1
   funext de
   split
   ·split
    ·split
     ·exact tD G _ _ _ _ _ _ _
     ·rfl
    ·rfl
   ·rfl
  ·rfl
 ·split
  ·split
   ·exact sd G _ _ _
   ·rfl
  ·rfl
 ·split
  ·split
   ·exact se G _ _ _
   ·rfl
  ·rfl
 ·rfl
theorem Ch(V:Env)(σ:St)(o:Oper)(K:St->Option R):(opK V σ o K).bind G=opK V σ o λe=>(K e).bind G:=by
 unfold opK
 split
 ·split
  ·rfl
  ·split <;> rfl
 ·split
  ·rfl
  ·split <;> rfl
 ·split
  ·split
   ·split <;> rfl
   ·split <;> rfl
  ·rfl
 ·split
  ·split
   ·exact u9 G _ _ _ _
   ·rfl
  ·rfl
 ·split
  ·split
   ·split
    ·exact Ao G _ _ _ _ _
    ·rfl
   ·rfl
  ·rfl
 ·split
  ·exact ve G _ _ _ _ _ _ _ _
  ·rfl
 ·split
  ·rw[km];congr 1;funext de;exact Aq G _ _ _ _ _ _
  ·rfl
 ·split
  ·split
   ·exact qF G _ _ _ _
   ·rfl
  ·rfl
 ·split
  ·split
   ·split
    ·rw[aB,Cg,Ap]
    ·rfl
   ·rfl
  ·rfl
 ·split
  ·exact sb G _ _ _
  ·rfl
 ·split
  ·split
   ·exact sf G _ _ _ _ _ _ _ _
   ·rfl
  ·rfl
 ·split
  ·exact uZ G _ _ _
  ·rfl
 ·rw[aB]
  congr 1
  ·split
   ·rw[km]
    congr 1
    funext de
    split
    ·exact u0 G _ _ _ _ _
    ·rfl
   ·rfl
  ·split
   ·exact xt G _ _ _ _ _ _
   ·rfl
 ·split
  ·rw[km]
   congr 1
   funext de
   split
   ·split
    ·exact xu G _ _ _ _ _ _
    ·rfl
   ·rfl
  ·rfl
 ·split
  ·rfl
  ·split
   ·split
    ·split
     ·split
      ·exact Ar G _ _ _ _ _ _ _ _ _
      ·rfl
     ·rfl
    ·rfl
   ·rfl
 ·split
  ·exact kD G _ _ _ _ _ _
  ·rfl
 ·split
  ·exact pt G _ _ _ _ _ _
  ·rfl
 ·split
  ·split
   ·exact sg G _ _ _ _ _ _
   ·rfl
  ·rfl
 ·split
  ·split
   ·exact pu G _ _ _ _ _
   ·rfl
  ·rfl
 ·split
  ·split <;> rfl
  ·rfl
 ·split
  ·exact rH G _ _ _ _ _ _ _
  ·split
   ·split
    ·rw[aB]
     congr 1
     ·exact mK G _ _ _ _ _
     ·split
      ·exact mK G _ _ _ _ _
      ·rfl
    ·rfl
   ·rfl
  ·rfl
 ·rfl
end
def jP(c:Call):List Operand:=match c.callee with
 |.value (.tmp t)=>.tmp t::c.args.toList
 |_=>c.args.toList
def mC:Op->List Operand
 |.move x|.assign x|.box _ x|.load _ x|.nilCheck x|.unOp _ _ x|.convert _ _ x|.fieldAddr _ x _|.field _ x _|.extract x _=>[x]
 |.pick c a b=>[c,a,b]
 |.build _ ps|.buildSlice _ _ ps=>ps.toList.map (·.2)
 |.store _ a v|.binOp _ _ a v _|.makeSlice _ a v|.indexAddr _ a v|.index _ a v=>[a,v]
 |.slice _ x l h _=>x::(l.toList++h.toList)
 |.call c=>jP c
 |_=>[]
def tmpsOf:List Operand->List Nat
 |[]=>[]
 |.tmp t::xs=>t::tmpsOf xs
 |_::xs=>tmpsOf xs
def looks(o:Oper):List Nat:=tmpsOf (mC o.op)
def calm(V:Env)(o:Oper):Bool:=match o.op with
 |.call c=>(match c.callee with
  |.value (.func f)=>(match V.CT f with|some ce=>(bS ce.rs&&bS ce.ms)||V.qx o.dst|none=>true)
  |_=>true)
 |_=>true
def mh(E:Nat->Option Ent)(dst:Option Nat)(E1:Nat->Option Ent):Nat->Option Ent:=match dst with|some d=>upd E d (E1 d)|none=>E
def bH(E:Nat->Option Ent)(dst:Option Nat)(σ:St):St:=⟨mh E dst σ.E,σ.L,σ.U⟩
section
variable {R:Type} {E E':Nat->Option Ent} {L:Nat->Option Lab} {U:Nat->Bool}
theorem bz(dst:Option Nat)(e:aj):bH E dst (St.bF ⟨E',L,U⟩ dst e)=St.bF ⟨E,L,U⟩ dst e:=by
 cases dst with
 |none=>rfl
 |some d=>simp only[bH,mh,St.bF,St.p5,ay]
theorem lc(dst:Option Nat)(L':Nat->Option Lab):bH E dst (St.iS (St.iI ⟨E',L,U⟩ L') dst)=St.iS (St.iI ⟨E,L,U⟩ L') dst:=by
 cases dst with
 |none=>rfl
 |some d=>simp only[bH,mh,St.iS,St.iI,ay]
theorem fN(L':Nat->Option Lab)(l d:Nat)(b:Lab):bH E (some d) (St.mk' ⟨E',L,U⟩ L' l d b)=St.mk' ⟨E,L,U⟩ L' l d b:=by
 simp only[bH,mh,St.mk',ay]
theorem vf(V:Env)(d:Nat)(σ':St):th V d (bH E (some d) σ')=bH E (some d) (th V d σ'):=by
 unfold th
 cases V.own d
 ·rfl
 ·have hE:(bH E (some d) σ').E d=σ'.E d:=by simp only[bH,mh,ay]
  simp only[cond_true]
  unfold St.toVal
  rw[hE]
  split
  ·have hL:(bH E (some d) σ').L=σ'.L:=rfl
   rw[hL]
   split
   ·simp only[bH,mh,ay]
    congr 1
    funext j
    by_cases hj:j=d
    ·subst hj;rw[ay,ay]
    ·rw[aI _ _ hj,aI _ _ hj,aI _ _ hj]
   ·rfl
  ·rfl
theorem pv(dst:Option Nat)(es:List aj):bH E dst (St.kU ⟨E',L,U⟩ dst es)=St.kU ⟨E,L,U⟩ dst es:=by
 cases dst with
 |none=>rfl
 |some d=>simp only[bH,mh,St.kU,ay]
theorem vg{x:Operand}(h:∀ t∈tmpsOf [x],E' t=E t):xh ⟨E,L,U⟩ x=xh ⟨E',L,U⟩ x:=by
 cases x with
 |tmp t=>simp only[xh];rw[h t (by simp[tmpsOf])]
 |const v=>rfl
 |global g=>rfl
 |func f=>rfl
theorem bC{x:Operand}(h:∀ t∈tmpsOf [x],E' t=E t):opd ⟨E,L,U⟩ x=opd ⟨E',L,U⟩ x:=by
 cases x with
 |tmp t=>simp only[opd];rw[h t (by simp[tmpsOf])]
 |const v=>rfl
 |global g=>rfl
 |func f=>rfl
theorem vj{x:Operand}{xs:List Operand}{t:Nat}(h:t∈tmpsOf (x::xs)):t∈tmpsOf [x]\/t∈tmpsOf xs:=by
 cases x <;> simp[tmpsOf]at h |- <;> exact h
theorem db{x:Operand}{xs:List Operand}{t:Nat}(h:t∈tmpsOf [x]):t∈tmpsOf (x::xs):=by
 cases x <;> simp[tmpsOf]at h |-;exact .inl h
theorem cz{x:Operand}{xs:List Operand}{t:Nat}(h:t∈tmpsOf xs):t∈tmpsOf (x::xs):=by
 cases x <;> simp[tmpsOf,h]
theorem qH{xs ys:List Operand}{t:Nat}(h:t∈tmpsOf xs\/t∈tmpsOf ys):t∈tmpsOf (xs++ys):=by
 induction xs with
 |nil=>rcases h with h|h;cases h;exact h
 |cons x xs ih=>
  rcases h with h|h
  ·rcases vj h with h|h
   ·exact db h
   ·exact cz (ih (.inl h))
  ·exact cz (ih (.inr h))
theorem vk{xs:List Operand}(h:∀ t∈tmpsOf xs,E' t=E t):iK ⟨E,L,U⟩ xs=iK ⟨E',L,U⟩ xs:=by
 induction xs with
 |nil=>rfl
 |cons x xs ih=>
  simp only[iK]
  rw[bC (x:=x) (λt ht=>h t (db ht)),ih (λt ht=>h t (cz ht))]
theorem vm{ps:List (Nat×Operand)}(h:∀ t∈tmpsOf (ps.map (·.2)),E' t=E t):mf ⟨E,L,U⟩ ps=mf ⟨E',L,U⟩ ps:=by
 induction ps with
 |nil=>rfl
 |cons p ps ih=>
  simp only[mf]
  rw[bC (x:=p.2) (λt ht=>h t (db ht)),ih (λt ht=>h t (cz ht))]
theorem vn{x:Option Operand}(h:∀ t∈tmpsOf x.toList,E' t=E t):ng ⟨E,L,U⟩ x=ng ⟨E',L,U⟩ x:=by
 cases x with
 |none=>rfl
 |some x=>simp only[ng];rw[bC (x:=x) h]
theorem xw(d:TD)(dst:Nat)(K:St->Option R):j8 d ⟨E,L,U⟩ dst K=j8 d ⟨E',L,U⟩ dst λσ'=>K (bH E (some dst) σ'):=by
 simp only[j8,fN]
theorem Ci(d:TD)(dst:Nat)(e:aj)(K:St->Option R):sX d ⟨E,L,U⟩ dst e K=sX d ⟨E',L,U⟩ dst e λσ'=>K (bH E (some dst) σ'):=by
 simp only[sX,fN]
theorem As(d:TD)(dst:Nat)(e1 e2:aj)(K:St->Option R):mY d ⟨E,L,U⟩ dst e1 e2 K=mY d ⟨E',L,U⟩ dst e1 e2 λσ'=>K (bH E (some dst) σ'):=by
 simp only[mY,fN]
theorem xx(d:TD)(dst:Nat)(e:aj)(K:St->Option R):ke d ⟨E,L,U⟩ dst e K=ke d ⟨E',L,U⟩ dst e λσ'=>K (bH E (some dst) σ'):=by
 simp only[ke,fN]
theorem yo(e:aj)(K:Nat->Lab->List Stp->V->Option R):plc ⟨E,L,U⟩ e K=plc ⟨E',L,U⟩ e K:=rfl
theorem xy(d:TD)(dst:Option Nat)(e1 e2:aj)(K:St->Option R):(j7 d ⟨E,L,U⟩ e1 e2 λσ'=>K (σ'.iS dst))=j7 d ⟨E',L,U⟩ e1 e2 λσ'=>K (bH E dst (σ'.iS dst)):=by
 simp only[j7,lc]
 exact yo _ _
theorem Cj(d:TD)(dst:Option Nat)(e1 e2:aj)(K:St->Option R):(sS d ⟨E,L,U⟩ e1 e2 λσ'=>K (σ'.iS dst))=sS d ⟨E',L,U⟩ e1 e2 λσ'=>K (bH E dst (σ'.iS dst)):=by
 simp only[sS,lc]
 exact yo _ _
theorem Fa(d:TD)(dst:Option Nat)(e1 e2:aj)(K:St->Option R):(xSt d ⟨E,L,U⟩ e1 e2 λσ'=>K (σ'.iS dst))=xSt d ⟨E',L,U⟩ e1 e2 λσ'=>K (bH E dst (σ'.iS dst)):=by
 have h1:sV ⟨E,L,U⟩ e1=sV ⟨E',L,U⟩ e1:=rfl
 unfold xSt
 rw[h1,xy]
 congr 1
 simp only[qj,lc]
theorem qI(d:TD)(str:Bool)(lk dst:Nat)(e1 e2:aj)(K:St->Option R):qk d ⟨E,L,U⟩ str lk dst e1 e2 K=qk d ⟨E',L,U⟩ str lk dst e1 e2 λσ'=>K (bH E (some dst) σ'):=by
 simp only[qk,fN]
 rfl
theorem vo(d:TD)(str:Bool)(dst:Nat)(e1 e2:aj)(K:St->Option R):hJ d ⟨E,L,U⟩ str dst e1 e2 K=hJ d ⟨E',L,U⟩ str dst e1 e2 λσ'=>K (bH E (some dst) σ'):=by
 unfold hJ
 split
 ·simp only[St.rD]
  split
  ·split
   ·congr 1
    exact qI _ _ _ _ _ _ _
   ·rfl
  ·rfl
 ·simp only[St.rD]
  split
  ·congr 1
   split
   ·split
    ·exact qI _ _ _ _ _ _ _
    ·rfl
   ·rfl
  ·rfl
 ·exact qI _ _ _ _ _ _ _
theorem xz(TT:Tab)(t:TypeId)(dst:Nat)(own:Bool){ps:List (Nat×Operand)}(h:∀ t∈tmpsOf (ps.map (·.2)),E' t=E t)(K:St->Option R):(ka TT ⟨E,L,U⟩ t dst own ps (λe=>K (St.bF ⟨E,L,U⟩ (some dst) e)) K)=ka TT ⟨E',L,U⟩ t dst own ps (λe=>K (bH E (some dst) (St.bF ⟨E',L,U⟩ (some dst) e))) λσ'=>K (bH E (some dst) σ'):=by
 simp only[ka,fN,bz]
 rw[vm h]
theorem Ck(d:TD)(dst len:Nat){ps:List (Nat×Operand)}(h:∀ t∈tmpsOf (ps.map (·.2)),E' t=E t)(K:St->Option R):s9 d ⟨E,L,U⟩ dst len ps K=s9 d ⟨E',L,U⟩ dst len ps λσ'=>K (bH E (some dst) σ'):=by
 simp only[s9,fN]
 rw[vm h]
theorem Cl(TT:Tab)(t:TypeId)(dst:Nat)(ex:aj)(lo hi:Option aj)(K:St->Option R):(s7 TT ⟨E,L,U⟩ t dst ex lo hi (λe=>K (St.bF ⟨E,L,U⟩ (some dst) e)) K)=s7 TT ⟨E',L,U⟩ t dst ex lo hi (λe=>K (bH E (some dst) (St.bF ⟨E',L,U⟩ (some dst) e))) λσ'=>K (bH E (some dst) σ'):=by
 simp only[s7,fN,bz,St.rD]
theorem Cm:∀ (rs:List (Ty×Md)) (x:(dx rs).T) (key:Nat) (L:Nat->Option Lab) (U:Nat->Bool) (K:St->List aj->Option R),oE rs x key ⟨E,L,U⟩ K=oE rs x key ⟨E',L,U⟩ λσ' es=>K ⟨E,σ'.L,σ'.U⟩ es:=by
 intro rs
 induction rs with
 |nil=>intro x key L U K;rfl
 |cons p rs ih=>
  intro x key L U K
  simp only[oE,St.JC]
  rw[ih,ih]
theorem Cn(L0:Nat->Option Lab)(t:Ty)(m:Md)(e:aj)(K:t.T->(Nat->Option Lab)->List Nat->Option R):ta ⟨E,L,U⟩ L0 t m e K=ta ⟨E',L,U⟩ L0 t m e K:=rfl
theorem Au:∀ (ps:List (Ty×Md)) (es:List aj) (L0:Nat->Option Lab) (K:(dx ps).T->(Nat->Option Lab)->List Nat->Option R),jK ⟨E,L,U⟩ ps es L0 K=jK ⟨E',L,U⟩ ps es L0 K:=by
 intro ps
 induction ps with
 |nil=>intro es L0 K;cases es <;> rfl
 |cons p ps ih=>
  intro es L0 K
  cases es with
  |nil=>rfl
  |cons e es=>
   simp only[jK]
   rw[Cn (E':=E')]
   congr 1
   funext x L1 b1
   exact ih _ _ _
theorem Av(es:List aj):∀ (mi:List Nat) (ms:List (Ty×Md)) (y:(dx ms).T) (L0:Nat->Option Lab),mu ⟨E,L,U⟩ es mi ms y L0=mu ⟨E',L,U⟩ es mi ms y L0:=by
 intro mi
 induction mi with
 |nil=>intro ms y L0;cases ms <;> rfl
 |cons i mi ih=>
  intro ms y L0
  cases ms with
  |nil=>rfl
  |cons p ms=>
   simp only[mu]
   split
   ·split
    ·congr 1
     split
     ·rw[ih]
     ·rfl
    ·rfl
   ·rfl
theorem si(dst:Option Nat)(c:Callee)(es:List aj)(K:St->Option R):gQ ⟨E,L,U⟩ dst c es K=gQ ⟨E',L,U⟩ dst c es λσ'=>K (bH E dst σ'):=by
 unfold gQ
 rw[Au (E':=E')]
 congr 1
 funext x L0 bs
 congr 1
 congr 1
 funext r
 rw[Av (E':=E')]
 split
 ·cases dst with
  |none=>rfl
  |some d=>
   simp only
   rw[Cm (E':=E')]
   congr 1
   funext σ' es'
   simp only[bH,mh,ay]
 ·rfl
theorem tE(V:Env)(b:Builtin)(ts:List TypeId){xs:List Operand}(h:∀ t∈tmpsOf xs,E' t=E t)(dst:Option Nat)(K:St->Option R):fo V ⟨E,L,U⟩ b ts xs dst K=fo V ⟨E',L,U⟩ b ts xs dst λσ'=>K (bH E dst σ'):=by
 unfold fo
 split
 ·rw[bC h]
  simp only[bz]
  rfl
 ·rw[bC h]
  simp only[bz]
  rfl
 ·rename_i t tx x y
  rw[bC (x:=x) (λt ht=>h t (db ht)),bC (x:=y) (λt ht=>h t (cz ht))]
  cases dst with
  |none=>rfl
  |some d=>simp only[vo (E:=E) (E':=E')]
 ·rename_i t tx x y
  rw[bC (x:=x) (λt ht=>h t (db ht)),bC (x:=y) (λt ht=>h t (cz ht))]
  simp only[bz]
 ·rename_i t tx x y
  rw[bC (x:=x) (λt ht=>h t (db ht)),bC (x:=y) (λt ht=>h t (cz ht))]
  simp only[bz]
 ·rfl
theorem xA(e:aj):ja ⟨E,L,U⟩ e=ja ⟨E',L,U⟩ e:=rfl
theorem Fc(V:Env){o:Oper}(hc:calm V o=true)(h:∀ t∈looks o,E' t=E t)(K:St->Option R):opK V ⟨E,L,U⟩ o K=opK V ⟨E',L,U⟩ o λσ'=>K (bH E o.dst σ'):=by
 unfold looks at h
 unfold calm at hc
 unfold opK
 split
 ·rename_i x ho;rw[ho]at h;rw[vg (x:=x) h,bC (x:=x) h];simp only[bz,pv]
 ·rename_i x ho;rw[ho]at h;rw[vg (x:=x) h,bC (x:=x) h];simp only[bz,pv]
 ·rename_i c x y ho
  rw[ho]at h
  rw[bC (x:=c) (λt ht=>h t (db ht)),bC (x:=x) (λt ht=>h t (cz (db ht))),bC (x:=y) (λt ht=>h t (cz (cz ht)))]
  simp only[bz]
 ·cases o.dst with
  |none=>rfl
  |some d=>simp only[xw (E:=E) (E':=E')]
 ·rename_i t x ho
  rw[ho]at h
  rw[bC (x:=x) h]
  cases o.dst with
  |none=>rfl
  |some d=>simp only[Ci (E:=E) (E':=E')]
 ·rename_i t ps ho
  rw[ho]at h
  cases o.dst with
  |none=>rfl
  |some d=>exact xz _ _ _ _ h K
 ·rename_i t len ps ho
  rw[ho]at h
  cases o.dst with
  |none=>rfl
  |some d=>simp only[Ck (E:=E) (E':=E') _ _ _ h,vf]
 ·rename_i t x ho
  rw[ho]at h
  rw[bC (x:=x) h]
  simp only[bz]
  rfl
 ·rename_i t p x ho
  rw[ho]at h
  rw[bC (x:=p) (λt ht=>h t (db ht)),bC (x:=x) (λt ht=>h t (cz ht))]
  simp only[Fa (E:=E) (E':=E'),Cj (E:=E) (E':=E'),xA (E:=E) (E':=E')]
 ·rename_i x ho
  rw[ho]at h
  rw[bC (x:=x) h]
  simp only[bz]
  rfl
 ·rename_i op t x y yt ho
  rw[ho]at h
  rw[bC (x:=x) (λt ht=>h t (db ht)),bC (x:=y) (λt ht=>h t (cz ht))]
  simp only[bz]
  rfl
 ·rename_i op t x ho
  rw[ho]at h
  rw[bC (x:=x) h]
  simp only[bz]
 ·rename_i s t x ho
  rw[ho]at h
  rw[bC (x:=x) h]
  congr 1
  ·cases o.dst with
   |none=>rfl
   |some d=>simp only[xx (E:=E) (E':=E')]
  ·simp only[bz]
   rfl
 ·rename_i t l c ho
  rw[ho]at h
  rw[bC (x:=l) (λt ht=>h t (db ht)),bC (x:=c) (λt ht=>h t (cz ht))]
  cases o.dst with
  |none=>rfl
  |some d=>simp only[As (E:=E) (E':=E')]
 ·rename_i t x lo hi mx ho
  rw[ho]at h
  split
  ·rfl
  ·rw[bC (x:=x) (λt ht=>h t (db ht)),vn (x:=lo) (λt ht=>h t (cz (qH (.inl ht)))),vn (x:=hi) (λt ht=>h t (cz (qH (.inr ht))))]
   cases o.dst with
   |none=>rfl
   |some d=>simp only[Cl (E:=E) (E':=E')]
 ·rename_i s x f ho
  rw[ho]at h
  rw[bC (x:=x) h]
  simp only[bz]
  rfl
 ·rename_i s x f ho
  rw[ho]at h
  rw[bC (x:=x) h]
  simp only[bz]
  rfl
 ·rename_i t x i ho
  rw[ho]at h
  rw[bC (x:=x) (λt ht=>h t (db ht)),bC (x:=i) (λt ht=>h t (cz ht))]
  simp only[bz]
  rfl
 ·rename_i t x i ho
  rw[ho]at h
  rw[bC (x:=x) (λt ht=>h t (db ht)),bC (x:=i) (λt ht=>h t (cz ht))]
  simp only[bz]
 ·rename_i t i ho
  rw[ho]at h
  have:=h t (by simp[mC,tmpsOf])
  simp only[this,bz]
 ·rename_i c ho
  rw[ho]at h hc
  simp only at hc
  split
  ·rename_i b vq
   simp only[mC,jP,vq]at h
   exact tE V _ _ h _ K
  ·rename_i f vq
   simp only[mC,jP,vq]at h
   rw[vq]at hc
   simp only at hc
   cases hf:V.CT f with
   |none=>rfl
   |some ce=>
    rw[hf]at hc
    simp only at hc |-
    rw[vk (xs:=c.args.toList) h]
    split
    ·simp only[hc,cond_true]
     exact si _ _ _ K
    ·rfl
  ·rfl
 ·rfl
end
def cvQ(σ:St)(o:Oper):Bool:=match o.op with
 |.move (.tmp t)=>mz (σ.E t)
 |.assign (.tmp t)=>mz (σ.E t)
 |.call c=>(match c.callee with
  |.value (.tmp t)=>(match σ.E t with
   |some (.one (.val (.fn _) _))=>true
   |e=>mz e)
  |_=>false)
 |_=>false
def cvC{R:Type}(V:Env)(σ:St)(dst:Option Nat)(f:FuncId)(es:List aj)(xs:List Operand)(K:St->Option R):Option R:=
 match V.CT f with
 |some ce=>(match iK σ xs with
  |some xs1=>bif(bS ce.rs&&bS ce.ms)||V.qx dst then gQ σ dst ce (xs1++es) K else none
  |none=>none)
 |none=>none
def cvM{R:Type}(σ:St)(dst:Option Nat)(t:Nat)(K:St->Option R):Option R:=match σ.E t with
 |some (.clo f es)=>K (σ.oK dst f es)
 |_=>none
def cvK{R:Type}(V:Env)(σ:St)(o:Oper)(K:St->Option R):Option R:=match o.op with
 |.move (.tmp t)=>cvM σ o.dst t K
 |.assign (.tmp t)=>cvM σ o.dst t K
 |.call c=>(match c.callee with
  |.value (.tmp t)=>(match σ.E t with
   |some (.one (.val (.fn f) _))=>cvC V σ o.dst f [] c.args.toList K
   |some (.clo f es)=>cvC V σ o.dst f es c.args.toList K
   |_=>none)
  |_=>none)
 |_=>none
def opD{R:Type}(V:Env)(σ:St)(o:Oper)(K:St->Option R):Option R:=bif cvQ σ o then cvK V σ o K else opK V σ o K
section
variable {P:Program} {B:dh} {F:ae} {Sg:Nat->ae} {cg:Nat->List Value} {σ:St} {a:Act} {w:World}
theorem Co{R:Type}{V:Env}{dst:Option Nat}{f:FuncId}{es:List aj}{xs:List Operand}{K:St->Option R}{r:R}(h:cvC V σ dst f es xs K=some r):
 ∃ ce xs1,V.CT f=some ce/\iK σ xs=some xs1/\((bS ce.rs&&bS ce.ms)||V.qx dst)=true/\gQ σ dst ce (xs1++es) K=some r:=by
 unfold cvC at h
 split at h
 ·rename_i ce hc
  split at h
  ·rename_i xs1 hx
   cases hb:(bS ce.rs&&bS ce.ms)||V.qx dst
   ·rw[hb]at h;cases h
   ·rw[hb]at h;exact⟨ce,xs1,hc,hx,hb,h⟩
  ·cases h
 ·cases h
theorem Aw{R:Type}{V:Env}{o:Oper}{K:St->Option R}{r:R}(hq:cvQ σ o=true)(hk:cvK V σ o K=some r):opN V σ o K=some r:=by
 have mv:∀ t,(o.op=.move (.tmp t)\/o.op=.assign (.tmp t))->mz (σ.E t)=true->cvM σ o.dst t K=some r->opN V σ o K=some r:=by
  intro t ho hc hk
  unfold cvM at hk
  cases hE:σ.E t with
  |none=>rw[hE]at hk;cases hk
  |some e=>
   cases e with
   |one _=>rw[hE]at hk;cases hk
   |tup _=>rw[hE]at hk;cases hk
   |clo f es=>
    rw[hE]at hk
    simp only at hk
    rcases ho with ho|ho
    ·have h1:nlQ σ o=false:=by simp[nlQ,ho,hE,B5]
     have h2:tw V σ o=none:=by simp[tw,ho]
     have h3:fnQ σ o=none:=by simp[fnQ,ho]
     have h4:fS V.TT o.op=false:=by rw[ho];rfl
     have h5:uQ σ o=true:=by simp[uQ,ho,hE,mz]
     unfold opN
     rw[h1,h2,h3,h4,h5]
     simp only[cond_false,cond_true]
     unfold Ad
     rw[ho]
     simp only[hE]
     exact hk
    ·have h1:nlQ σ o=false:=by simp[nlQ,ho,hE,B5]
     have h2:tw V σ o=none:=by simp[tw,ho]
     have h3:fnQ σ o=none:=by simp[fnQ,ho]
     have h4:fS V.TT o.op=false:=by rw[ho];rfl
     have h5:uQ σ o=true:=by simp[uQ,ho,hE,mz]
     unfold opN
     rw[h1,h2,h3,h4,h5]
     simp only[cond_false,cond_true]
     unfold Ad
     rw[ho]
     simp only[hE]
     exact hk
 unfold cvQ at hq
 unfold cvK at hk
 split at hq
 ·rename_i t ho
  rw[ho]at hk
  exact mv t (.inl ho) hq hk
 ·rename_i t ho
  rw[ho]at hk
  exact mv t (.inr ho) hq hk
 ·rename_i c ho
  rw[ho]at hk
  simp only at hk
  split at hq
  ·rename_i t hc
   rw[hc]at hk
   simp only at hk
   have h1:nlQ σ o=false:=by simp[nlQ,ho]
   have h2:tw V σ o=none:=by simp[tw,ho]
   have h4:fS V.TT o.op=false:=by rw[ho];simp[fS,BW,hc]
   split at hk
   ·rename_i f x hE
    obtain⟨ce,xs1,e1,e2,e3,e4⟩:=Co hk
    have h3:fnQ σ o=some (f,c.args.toList):=by simp[fnQ,ho,hc,hE]
    unfold opN
    rw[h1,h2,h3]
    simp only[cond_false]
    unfold B8
    rw[e1]
    simp only
    rw[e2]
    simp only
    rw[e3]
    simp only[cond_true]
    rw[cQ]at e4
    exact e4
   ·rename_i f es hE
    have h3:fnQ σ o=none:=by simp[fnQ,ho,hc,hE]
    have h5:uQ σ o=true:=by simp[uQ,ho,hc,hE,mz]
    obtain⟨ce,xs1,e1,e2,e3,e4⟩:=Co hk
    unfold opN
    rw[h1,h2,h3,h4,h5]
    simp only[cond_false,cond_true]
    unfold Ad
    rw[ho]
    simp only
    rw[hc]
    simp only[hE]
    rw[e1]
    simp only
    rw[e2]
    simp only
    rw[e3]
    exact e4
   ·cases hk
  ·cases hq
 ·cases hq
theorem Ii{R:Type}{V:Env}(hV:fh P V)(h:aJ B F Sg cg σ a w){o:Oper}{K:St->Option R}{r:R}(hN:∀ d,o.dst=some d->d<B.N)(hk:opD V σ o K=some r){Q:Exit->Act->World->Prop}:
 o.wp P a w (Nx B σ o.dst K r) Q:=by
 unfold opD at hk
 cases hq:cvQ σ o
 ·rw[hq]at hk;exact xi hV h hN hk
 ·rw[hq]at hk;exact Ca hV h hN (Aw hq hk)
end
section
variable {R R':Type} (G:R->Option R')
theorem vt(V:Env)(σ:St)(dst:Option Nat)(f:FuncId)(es:List aj)(xs:List Operand)(K:St->Option R):(cvC V σ dst f es xs K).bind G=cvC V σ dst f es xs λe=>(K e).bind G:=by
 unfold cvC
 split
 ·split
  ·rw[aB]
   congr 1
   exact mK G _ _ _ _ _
  ·rfl
 ·rfl
theorem vu(σ:St)(dst:Option Nat)(t:Nat)(K:St->Option R):(cvM σ dst t K).bind G=cvM σ dst t λe=>(K e).bind G:=by
 unfold cvM
 split <;> rfl
theorem vz(V:Env)(σ:St)(o:Oper)(K:St->Option R):(opD V σ o K).bind G=opD V σ o λe=>(K e).bind G:=by
 unfold opD
 rw[aB,Ch]
 congr 1
 unfold cvK
 split
 ·exact vu G _ _ _ _
 ·exact vu G _ _ _ _
 ·split
  ·split
   ·exact vt G _ _ _ _ _ _ _
   ·exact vt G _ _ _ _ _ _ _
   ·rfl
  ·rfl
 ·rfl
end
section
variable {R:Type} {E E':Nat->Option Ent} {L:Nat->Option Lab} {U:Nat->Bool}
theorem vA(dst:Option Nat)(f:FuncId)(es:List aj):bH E dst (St.oK ⟨E',L,U⟩ dst f es)=St.oK ⟨E,L,U⟩ dst f es:=by
 cases dst with
 |none=>rfl
 |some d=>simp only[bH,mh,St.oK,ay]
theorem yp{dst:Option Nat}{t:Nat}(h:E' t=E t)(K:St->Option R):cvM ⟨E,L,U⟩ dst t K=cvM ⟨E',L,U⟩ dst t λσ'=>K (bH E dst σ'):=by
 unfold cvM
 simp only[h,vA]
theorem yq(V:Env){dst:Option Nat}{f:FuncId}{es:List aj}{xs:List Operand}(h:∀ t∈tmpsOf xs,E' t=E t)(K:St->Option R):cvC V ⟨E,L,U⟩ dst f es xs K=cvC V ⟨E',L,U⟩ dst f es xs λσ'=>K (bH E dst σ'):=by
 unfold cvC
 rw[vk (E:=E) (E':=E') h]
 split
 ·split
  ·congr 1
   exact si _ _ _ K
  ·rfl
 ·rfl
theorem Fe(V:Env){o:Oper}(hc:calm V o=true)(h:∀ t∈looks o,E' t=E t)(K:St->Option R):opD V ⟨E,L,U⟩ o K=opD V ⟨E',L,U⟩ o λσ'=>K (bH E o.dst σ'):=by
 have hq:cvQ ⟨E,L,U⟩ o=cvQ ⟨E',L,U⟩ o:=by
  unfold looks at h
  unfold cvQ
  split
  ·rename_i t ho
   rw[ho]at h
   simp only[h t (by simp[mC,tmpsOf])]
  ·rename_i t ho
   rw[ho]at h
   simp only[h t (by simp[mC,tmpsOf])]
  ·rename_i c ho
   rw[ho]at h
   split
   ·rename_i t vq
    simp only[mC,jP,vq]at h
    simp only[h t (by simp[tmpsOf])]
   ·rfl
  ·rfl
 unfold opD
 rw[hq,Fc V hc h K]
 congr 1
 unfold looks at h
 unfold cvK
 split
 ·rename_i t ho
  rw[ho]at h
  exact yp (h t (by simp[mC,tmpsOf])) K
 ·rename_i t ho
  rw[ho]at h
  exact yp (h t (by simp[mC,tmpsOf])) K
 ·rename_i c ho
  rw[ho]at h
  split
  ·rename_i t vq
   simp only[mC,jP,vq]at h
   have ht:=h t (by simp[tmpsOf])
   have hx:∀ x∈tmpsOf c.args.toList,E' x=E x:=λx hx=>h x (by simp only[tmpsOf];exact oa _ hx)
   simp only[ht]
   split
   ·exact yq V hx K
   ·exact yq V hx K
   ·rfl
  ·rfl
 ·rfl
end
def dv:aj->List Nat
 |.hdr l ..=>[l]
 |.adr l ..=>[l]
 |.view l ..=>[l]
 |_=>[]
def jQ:List aj->List Nat
 |[]=>[]
 |e::es=>dv e++jQ es
def Hp:Option Ent->List Nat
 |some (.one e)=>dv e
 |some (.tup es)=>jQ es
 |some (.clo _ es)=>jQ es
 |none=>[]
def iM(σ:St):List Nat->List Nat
 |[]=>[]
 |t::ts=>Hp (σ.E t)++iM σ ts
def rI(ks:List Nat)(dst:Option Nat)(l:Nat):Bool:=fq l ks||(match dst with|some d=>Nat.beq (l / 8) d|none=>false)
def eL(σ:St)(o:Oper):Nat->Bool:=rI (iM σ (looks o)) o.dst
def gX(L:Nat->Option Lab)(T:Nat->Bool):Nat->Option Lab:=λl=>bif T l then L l else none
def gY(U:Nat->Bool)(T:Nat->Bool):Nat->Bool:=λl=>bif T l then U l else true
def jR(T:Nat->Bool)(L' L:Nat->Option Lab):Nat->Option Lab:=λl=>bif T l then L' l else L l
def iT(T:Nat->Bool)(U' U:Nat->Bool):Nat->Bool:=λl=>bif T l then U' l else U l
def yr(T:Nat->Bool):List Nat->Bool
 |[]=>true
 |l::ls=>T l&&yr T ls
def kn(T:Nat->Bool)(dst:Option Nat)(σ':St):Bool:=match dst with|some d=>yr T (Hp (σ'.E d))|none=>true
def lg(σ:St)(o:Oper):St:=⟨λt=>bif fq t (looks o)then σ.E t else none,gX σ.L (eL σ o),gY σ.U (eL σ o)⟩
def nq(T:Nat->Bool)(dst:Option Nat)(σ σ':St):St:=⟨mh σ.E dst σ'.E,jR T σ'.L σ.L,iT T σ'.U σ.U⟩
section
variable {P:Program} {B:dh} {F:ae} {Sg:Nat->ae} {cg:Nat->List Value} {σ:St} {a:Act} {w:World}
theorem aJ.gh(h:aJ B F Sg cg σ a w):Gh F w:=B.gh.step h.f0 (λp hp=>h.fr.block p (B.ghl p hp) (B.ghs p hp))
def vB(h:aJ B F Sg cg σ a w)(T:Nat->Bool):dh:=
 {w0:=w,S0:=λk=>∃ l b,T l=true/\σ.L l=some b/\Sg l k,F0:=F,N:=B.N,fix:=B.fix,gh:=h.gh,ghs:=λp hp ⟨l,b,_,h1,h2⟩=>h.dG l b h1 p h2 (h.gh p hp).1,ghl:=λp hp=>h.fl p (h.gh p hp).1}
theorem cI{L:Nat->Option Lab}{T:Nat->Bool}{l:Nat}{b:Lab}(h:gX L T l=some b):T l=true/\L l=some b:=by
 unfold gX at h
 cases hT:T l
 ·rw[hT]at h;cases h
 ·rw[hT]at h;exact⟨rfl,h⟩
theorem jS{U T:Nat->Bool}{l:Nat}(h:U l=true):gY U T l=true:=by
 unfold gY;cases T l
 ·rfl
 ·exact h
theorem aw.lg{T:Nat->Bool}{e:aj}{v:Value}(h:aw F w σ.L σ.U cg e v):aw F w (gX σ.L T) (gY σ.U T) cg e v:=by
 cases e with
 |val t x=>exact h
 |cst u=>exact h
 |jF t x=>exact h
 |hdr l n π c=>exact⟨jS h.1,λb hb=>h.2 b (cI hb).2⟩
 |adr l n π c=>exact⟨jS h.1,λb hb=>h.2 b (cI hb).2⟩
 |view l te lo hi=>exact⟨jS h.1,λb hb=>h.2 b (cI hb).2⟩
theorem aJ.restrict(h:aJ B F Sg cg σ a w)(T:Nat->Bool):aJ (vB h T) F Sg cg ⟨σ.E,gX σ.L T,gY σ.U T⟩ a w:=
 {fr:=⟨rfl,rfl,rfl,ar _,λ_ _ _=>rfl⟩
  size:=h.size
  defers:=h.defers
  f0:=Sub.refl _
  fl:=h.fl
  fs:=λk hk _ _=>hk
  lab:=λl b hb=>h.lab l b (cI hb).2
  dis:=λl l' b b' hne hb hb'=>h.dis l l' b b' hne (cI hb).2 (cI hb').2
  dG:=λl b hb=>h.dG l b (cI hb).2
  lt:=λl b hb=>h.lt l b (cI hb).2
  may:=λl b hb k hk _=>⟨l,b,(cI hb).1,(cI hb).2,hk⟩
  used:=λl b hb=>jS (h.used l b (cI hb).2)
  fix:=λl cs hf=>⟨⟨jS (h.fix l cs hf).1.1,(h.fix l cs hf).1.2⟩,λb hb=>(h.fix l cs hf).2 b (cI hb).2⟩
  ent:=λt e he=>(h.ent t e he).imp λe v hv=>hv.lg}
theorem aw.vC{T:Nat->Bool}{σ':St}{F':ae}{w':World}{cg':Nat->List Value}{e:aj}{v:Value}(h:aw F' w' σ'.L σ'.U cg' e v)(hk:∀ l∈dv e,T l=true):
 aw F' w' (jR T σ'.L σ.L) (iT T σ'.U σ.U) (λl=>if T l=true then cg' l else cg l) e v:=by
 cases e with
 |val t x=>exact h
 |cst u=>exact h
 |jF t x=>exact h
 |hdr l n π c=>
  have hT:=hk l (by simp[dv])
  refine⟨by simp only[iT,hT,cond_true];exact h.1,λb hb=>?_⟩
  simp only[jR,hT,cond_true]at hb
  simp only[hT,if_true]
  exact h.2 b hb
 |adr l n π c=>
  have hT:=hk l (by simp[dv])
  refine⟨by simp only[iT,hT,cond_true];exact h.1,λb hb=>?_⟩
  simp only[jR,hT,cond_true]at hb
  simp only[hT,if_true]
  exact h.2 b hb
 |view l te lo hi=>
  have hT:=hk l (by simp[dv])
  refine⟨by simp only[iT,hT,cond_true];exact h.1,λb hb=>?_⟩
  simp only[jR,hT,cond_true]at hb
  simp only[hT,if_true]
  exact h.2 b hb
theorem aw.Ij{T:Nat->Bool}{σ':St}{F':ae}{w':World}{cg':Nat->List Value}{e:aj}{v:Value}(h:aw F' w' σ.L σ.U cg e v)(hk:∀ l∈dv e,T l=false):
 aw F' w' (jR T σ'.L σ.L) (iT T σ'.U σ.U) (λl=>if T l=true then cg' l else cg l) e v:=by
 cases e with
 |val t x=>exact h
 |cst u=>exact h
 |jF t x=>exact h
 |hdr l n π c=>
  have hT:=hk l (by simp[dv])
  refine⟨by simp only[iT,hT,cond_false];exact h.1,λb hb=>?_⟩
  simp only[jR,hT,cond_false]at hb
  simp only[hT,aE,if_false]
  exact h.2 b hb
 |adr l n π c=>
  have hT:=hk l (by simp[dv])
  refine⟨by simp only[iT,hT,cond_false];exact h.1,λb hb=>?_⟩
  simp only[jR,hT,cond_false]at hb
  simp only[hT,aE,if_false]
  exact h.2 b hb
 |view l te lo hi=>
  have hT:=hk l (by simp[dv])
  refine⟨by simp only[iT,hT,cond_false];exact h.1,λb hb=>?_⟩
  simp only[jR,hT,cond_false]at hb
  simp only[hT,aE,if_false]
  exact h.2 b hb
theorem JT(e:aj):dv e=[]\/∃ l,dv e=[l]:=by cases e <;> simp[dv]
theorem aw.Ik{T:Nat->Bool}{F':ae}{w':World}{e:aj}{v:Value}(h:aw F w σ.L σ.U cg e v)(hF:Sub F F')(hFw:∀ k,F k->w'.heap[k]?=w.heap[k]?)(oz:∀ l b,σ.L l=some b->Rep F w b.t b.m b.x (cg l) (Sg l))(hw:∀ l b,T l=false->σ.L l=some b->∀ k,Sg l k->w'.heap[k]?=w.heap[k]?)(hk:∀ l∈dv e,T l=false):aw F' w' σ.L σ.U cg e v:=by
 cases e with
 |val t x=>
  obtain⟨cs,h1,h2⟩:=h
  exact⟨cs,aP hF hFw t .ro x cs _ _ h1 (Sub.refl _) (λ_ h=>h.elim),h2⟩
 |cst u=>exact h
 |view l te lo hi=>exact h
 |jF t x=>
  obtain⟨a,ds,h1,h2,h3,h4⟩:=h
  exact⟨a,ds,h1,hF _ h2,h3.congr (hFw _ h2),aP hF hFw t .ro x ds _ _ h4 (Sub.refl _) (λ_ h=>h.elim)⟩
 |hdr l n π c=>
  have hT:=hk l (by simp[dv])
  refine⟨h.1,λb hb=>?_⟩
  obtain⟨h0,h1,h2⟩:=h.2 b hb
  refine⟨h0,h1,λhn=>?_⟩
  obtain⟨h3,h4,h5⟩:=h2 hn
  refine⟨h3,h4,?_⟩
  rw[resolve_congr π b.t b.m b.x (cg l) (Sg l) none (oz l b hb) h3 (by rw[h4];rfl) (hw l b hT hb)]
  exact h5
 |adr l n π c=>
  have hT:=hk l (by simp[dv])
  refine⟨h.1,λb hb=>?_⟩
  obtain⟨h0,h1,h2⟩:=h.2 b hb
  refine⟨h0,h1,λhn=>?_⟩
  obtain⟨h3,h4,h5⟩:=h2 hn
  refine⟨h3,h4,?_⟩
  rw[resolve_congr π b.t b.m b.x (cg l) (Sg l) none (oz l b hb) h3 (by rw[h4];rfl) (hw l b hT hb)]
  exact h5
theorem Ax{T:Nat->Bool}{ls:List Nat}(h:yr T ls=true):∀ l∈ls,T l=true:=by
 induction ls with
 |nil=>intro l hl;simp at hl
 |cons x xs ih=>
  simp only[yr,ag]at h
  intro l hl
  rcases aH.1 hl with rfl|hl
  ·exact h.1
  ·exact ih h.2 l hl
theorem bW.JU{F F':ae}{w w':World}{L L' L'':Nat->Option Lab}{U U' U'':Nat->Bool}{cg cg' JV:Nat->List Value}:∀ {es:List aj} {vs:List Value},(∀ e v,e∈es->aw F w L U cg e v->aw F' w' L' U' cg' e v->aw F' w' L'' U'' JV e v)->bW F w L U cg es vs->bW F' w' L' U' cg' es vs->bW F' w' L'' U'' JV es vs:=by
 intro es
 induction es with
 |nil=>intro vs _ h _;exact h
 |cons e es ih=>
  rintro vs hi ⟨v,r,rfl,h1,h2⟩ ⟨v',r',e',h3,h4⟩
  injection e' with e1 e2
  subst e1;subst e2
  exact⟨v,r,rfl,hi e v (by simp) h1 h3,ih (λe v he=>hi e v (by simp[he])) h2 h4⟩
theorem bW.JW{F:ae}{w:World}{L L':Nat->Option Lab}{U U':Nat->Bool}{cg cg':Nat->List Value}:∀ {es:List aj} {vs:List Value},(∀ e v,e∈es->aw F w L U cg e v->aw F w L' U' cg' e v)->bW F w L U cg es vs->bW F w L' U' cg' es vs:=by
 intro es
 induction es with
 |nil=>intro vs _ h;exact h
 |cons e es ih=>
  rintro vs hi ⟨v,r,rfl,h1,h2⟩
  exact⟨v,r,rfl,hi e v (by simp) h1,ih (λe v he=>hi e v (by simp[he])) h2⟩
theorem nr{es:List aj}{e:aj}(he:e∈es):∀ l∈dv e,l∈jQ es:=by
 induction es with
 |nil=>simp at he
 |cons x xs ih=>
  intro l hl
  rcases aH.1 he with rfl|he
  ·simp[jQ,hl]
  ·simp[jQ,ih he l hl]
theorem aJ.merge(h:aJ B F Sg cg σ a w){T:Nat->Bool}{σ':St}{a':Act}{w':World}(h':Inv (vB h T) σ' a' w'){dst:Option Nat}(htm:∀ t,dst≠some t->a'.tmps.getD t undef=a.tmps.getD t undef)(hE:∀ t,dst≠some t->σ'.E t=σ.E t)(hk:kn T dst σ'=true):
 Inv B ⟨σ'.E,jR T σ'.L σ.L,iT T σ'.U σ.U⟩ a' w':=by
 obtain⟨F',Sg',cg',h'⟩:=h'
 have Ff:∀ l b,T l=false->σ.L l=some b->∀ k,Sg l k->¬(vB h T).S0 k:=by
  rintro l b hT hl k hk ⟨l2,b2,hT2,hl2,hk2⟩
  have hne:l≠l2:=λe=>by rw[e,hT2]at hT;cases hT
  exact h.dis l l2 b b2 hne hl hl2 k hk hk2
 have hblk:∀ l b,T l=false->σ.L l=some b->∀ k,Sg l k->w'.heap[k]?=w.heap[k]?:=λl b hT hl k hk=>h'.fr.block k (h.lt l b hl k hk) (Ff l b hT hl k hk)
 have hFS:∀ k,F k->¬(vB h T).S0 k:=by
  rintro k hk ⟨l,b,_,hl,hs⟩
  exact h.dG l b hl k hs hk
 have hFw:∀ k,F k->w'.heap[k]?=w.heap[k]?:=λk hk=>h'.fr.block k (h.fl k hk) (hFS k hk)
 have hS0:∀ k,(vB h T).S0 k->k<B.w0.heap.size->B.S0 k:=by
  rintro k ⟨l,b,_,hl,hs⟩ hlt
  exact h.may l b hl k hs hlt
 have cases2:∀ l b,jR T σ'.L σ.L l=some b->(T l=true/\σ'.L l=some b)\/(T l=false/\σ.L l=some b):=λl b hb=>by
  unfold jR at hb
  cases hT:T l
  ·rw[hT]at hb;exact .inr ⟨rfl,hb⟩
  ·rw[hT]at hb;exact .inl ⟨rfl,hb⟩
 refine⟨F',λl=>if T l=true then Sg' l else Sg l,λl=>if T l=true then cg' l else cg l,?_⟩
 exact
 {fr:=⟨h'.fr.os.trans h.fr.os,h'.fr.tape.trans h.fr.tape,h'.fr.output.trans h.fr.output,bn h.fr.size h'.fr.size,λk hk hn=>(h'.fr.block k (bc hk h.fr.size) (λhs=>hn (hS0 k hs hk))).trans (h.fr.block k hk hn)⟩
  size:=h'.size
  defers:=h'.defers
  f0:=h.f0.trans h'.f0
  fl:=h'.fl
  fs:=λk hk hlt hns=>h.fs k (h'.fs k hk (bc hlt h.fr.size) (λhs=>hns (hS0 k hs hlt))) hlt hns
  lab:=λl b hb=>by
   rcases cases2 l b hb with⟨hT,hl⟩|⟨hT,hl⟩
   ·simp only[hT,if_true];exact h'.lab l b hl
   ·simp only[hT,aE,if_false];exact aP h'.f0 hFw _ _ _ _ _ _ (h.lab l b hl) (Sub.refl _) (hblk l b hT hl)
  dis:=λl l2 b b2 hne hb hb2=>by
   rcases cases2 l b hb with⟨hT,hl⟩|⟨hT,hl⟩ <;> rcases cases2 l2 b2 hb2 with⟨hT2,hl2⟩|⟨hT2,hl2⟩
   ·simp only[hT,hT2,if_true];exact h'.dis l l2 b b2 hne hl hl2
   ·simp only[hT,hT2,if_true,aE,if_false]
    intro k h1 h2
    exact Ff l2 b2 hT2 hl2 k h2 (h'.may l b hl k h1 (h.lt l2 b2 hl2 k h2))
   ·simp only[hT,hT2,if_true,aE,if_false]
    intro k h1 h2
    exact Ff l b hT hl k h1 (h'.may l2 b2 hl2 k h2 (h.lt l b hl k h1))
   ·simp only[hT,hT2,aE,if_false];exact h.dis l l2 b b2 hne hl hl2
  dG:=λl b hb=>by
   rcases cases2 l b hb with⟨hT,hl⟩|⟨hT,hl⟩
   ·simp only[hT,if_true];exact h'.dG l b hl
   ·simp only[hT,aE,if_false]
    intro k h1 h2
    exact h.dG l b hl k h1 (h'.fs k h2 (h.lt l b hl k h1) (Ff l b hT hl k h1))
  lt:=λl b hb k hk=>by
   rcases cases2 l b hb with⟨hT,hl⟩|⟨hT,hl⟩
   ·simp only[hT,if_true]at hk;exact h'.lt l b hl k hk
   ·simp only[hT,aE,if_false]at hk;exact bc (h.lt l b hl k hk) h'.fr.size
  may:=λl b hb k hk hlt=>by
   rcases cases2 l b hb with⟨hT,hl⟩|⟨hT,hl⟩
   ·simp only[hT,if_true]at hk;exact hS0 k (h'.may l b hl k hk (bc hlt h.fr.size)) hlt
   ·simp only[hT,aE,if_false]at hk;exact h.may l b hl k hk hlt
  used:=λl b hb=>by
   rcases cases2 l b hb with⟨hT,hl⟩|⟨hT,hl⟩
   ·simp only[iT,hT,cond_true];exact h'.used l b hl
   ·simp only[iT,hT,cond_false];exact h.used l b hl
  fix:=λl cs hf=>by
   have q:=h.fix l cs hf
   have q':=h'.fix l cs hf
   refine⟨⟨?_,q.1.2⟩,λb hb=>?_⟩
   ·simp only[iT]
    cases T l
    ·exact q.1.1
    ·exact q'.1.1
   ·rcases cases2 l b hb with⟨hT,hl⟩|⟨hT,hl⟩
    ·simp only[hT,if_true];exact q'.2 b hl
    ·simp only[hT,aE,if_false];exact q.2 b hl
  ent:=λt e he=>by
   have h1:=h'.ent t e he
   by_cases hd:dst=some t
   ·subst hd
    simp only[kn]at hk
    have he':σ'.E t=some e:=he
    rw[he']at hk
    have hin:=Ax hk
    cases e with
    |one e=>exact aw.vC h1 hin
    |tup es=>
     obtain⟨vs,hv,hes⟩:=h1
     exact⟨vs,hv,hes.JW λe v hm hv=>hv.vC λl hl=>hin l (nr hm l hl)⟩
    |clo f es=>
     obtain⟨vs,hv,hes⟩:=h1
     exact⟨vs,hv,hes.JW λe v hm hv=>hv.vC λl hl=>hin l (nr hm l hl)⟩
   ·have h0:=h.ent t e (by rw[<-hE t hd];exact he)
    rw[htm t hd]at h1 |-
    have step:∀ e v,aw F w σ.L σ.U cg e v->aw F' w' σ'.L σ'.U cg' e v->aw F' w' (jR T σ'.L σ.L) (iT T σ'.U σ.U) (λl=>if T l=true then cg' l else cg l) e v:=by
     intro e v g0 g1
     rcases JT e with hk0|⟨l,hl⟩
     ·exact g1.vC (λl hl=>by rw[hk0]at hl;simp at hl)
     ·cases hT:T l
      ·have hkk:∀ j∈dv e,T j=false:=λj hj=>by rw[hl]at hj;simp at hj;rw[hj];exact hT
       exact(g0.Ik h'.f0 hFw h.lab hblk hkk).Ij hkk
      ·exact g1.vC (λj hj=>by rw[hl]at hj;simp at hj;rw[hj];exact hT)
    cases e with
    |one e=>exact step e _ h0 h1
    |tup es=>
     obtain⟨vs,hv,hes⟩:=h0
     obtain⟨vs',hv',qz⟩:=h1
     rw[hv]at hv'
     injection hv' with hv'
     have:vs=vs':=by simpa using congrArg Array.toList hv'
     subst this
     exact⟨vs,hv,hes.JU (λe v _=>step e v) qz⟩
    |clo f es=>
     obtain⟨vs,hv,hes⟩:=h0
     obtain⟨vs',hv',qz⟩:=h1
     rw[hv]at hv'
     injection hv' with _ _ hv'
     have:vs=vs':=by simpa using congrArg Array.toList hv'
     subst this
     exact⟨vs,hv,hes.JU (λe v _=>step e v) qz⟩}
end
section
variable {P:Program} {B:dh} {F:ae} {Sg:Nat->ae} {cg:Nat->List Value} {σ:St} {a:Act} {w:World}
theorem qJ{dst:Option Nat}{v:Value}{t:Nat}(h:dst≠some t):(a.put dst v).tmps.getD t undef=a.tmps.getD t undef:=by
 cases dst with
 |none=>rfl
 |some d=>
  have hne:t≠d:=λe=>h (by rw[e])
  simp only[Act.put,dM]
  rw[nU (Ne.symm hne)]
theorem Oper.Fg{o:Oper}{next:Act->World->Prop}{Q:Exit->Act->World->Prop}(h:o.wp P a w next Q):o.wp P a w (λa' w'=>next a' w'/\∀ t,o.dst≠some t->a'.tmps.getD t undef=a.tmps.getD t undef) Q:=by
 unfold Oper.wp at *
 generalize (execOp a.eval o).run P w=res at *
 cases res with
 |ok n w'=>
  cases n <;> simp only[Oper.upon]at h |-
  case value u=>exact⟨h,λt ht=>qJ ht⟩
  case skip=>exact⟨h,λt ht=>qJ ht⟩
  case defer d=>exact⟨h,λt ht=>qJ (a:={a with defers:=d::a.defers}) ht⟩
  case enter f args=>
   refine Calls.mono h λe w'' he=>?_
   cases e with
   |returned u=>exact⟨he,λt ht=>qJ ht⟩
   |panicked c=>exact he
   |outgrown=>exact he
  case row row args=>exact Rows.mono h λu w'' he=>⟨he,λt ht=>qJ ht⟩
 |halt x w'=>
  cases x <;> simp only[Oper.upon]at h |-
  case panic u=>exact h
theorem JX{V:Env}(hV:fh P V)(h:Inv B σ a w){o:Oper}(hc:calm V o=true)(hN:∀ d,o.dst=some d->d<B.N){σ':St}(hk:opD V (lg σ o) o some=some σ')(hin:kn (eL σ o) o.dst σ'=true){Q:Exit->Act->World->Prop}:
 o.wp P a w (λa' w'=>Inv B (nq (eL σ o) o.dst σ σ') a' w') Q:=by
 obtain⟨F,Sg,cg,h⟩:=h
 have i1:=h.restrict (eL σ o)
 have hE:∀ t∈looks o,(λt=>bif fq t (looks o)then σ.E t else none) t=σ.E t:=λt ht=>by
  have:∀ l:List Nat,t∈l->fq t l=true:=by
   intro l
   induction l with
   |nil=>intro h;simp at h
   |cons x xs ih=>
    intro h
    simp only[fq,aR]
    rcases aH.1 h with rfl|h
    ·exact .inl (cr _)
    ·exact .inr (ih h)
  simp only[this _ ht,cond_true]
 have vD:=Fe (R:=St) (E:=σ.E) (L:=gX σ.L (eL σ o)) (U:=gY σ.U (eL σ o)) V hc hE some
 have hb:=vz (λσ'=>some (bH σ.E o.dst σ')) V (lg σ o) o some
 rw[hk]at hb
 have hk2:opD V ⟨σ.E,gX σ.L (eL σ o),gY σ.U (eL σ o)⟩ o some=some (bH σ.E o.dst σ'):=by
  rw[vD]
  exact hb.symm
 refine Oper.kj (Oper.Fg (Ii (Q:=Q) hV i1 hN hk2)) (λa' w' hp=>?_) (λ_ _ _ h=>h)
 obtain⟨⟨oL,q1,q2,_⟩,q4⟩:=hp
 injection q1 with q1
 subst q1
 have:=h.merge q2 q4 (λt ht=>by
  simp only[bH,mh]
  cases hd:o.dst with
  |none=>rfl
  |some d=>exact aI _ _ (λe=>ht (by rw[hd,e]))) (by
  unfold kn at hin |-
  cases hd:o.dst with
  |none=>rfl
  |some d=>
   rw[hd]at hin
   simp only[bH,mh,ay]
   exact hin)
 exact this
def qK:List (Ty×Md)->Bool
 |[]=>true
 |p::ps=>decide (p.2=.ro)&&qK ps
def Cp(c:Callee):Bool:=qK c.ps&&(qK c.rs&&(match c.mi with|[]=>(match c.ms with|[]=>true|_=>false)|_=>false))
def isV(V:Env)(o:Oper):Bool:=match o.op with
 |.move _|.assign _|.pick .. |.load .. |.nilCheck _|.binOp .. |.unOp .. |.fieldAddr .. |.field .. |.indexAddr .. |.index .. |.extract ..=>true
 |.call c=>(match c.callee with|.builtin .len=>true|.builtin .min=>true|.builtin .max=>true|.value (.func f)=>(match V.CT f with|some ce=>Cp ce&&((bS ce.rs&&bS ce.ms)||V.qx o.dst)|none=>false)|_=>false)
 |_=>false
theorem l5{dst:Option Nat}{e:aj}:(σ.bF dst e).L=σ.L/\(σ.bF dst e).U=σ.U:=by cases dst <;> exact⟨rfl,rfl⟩
theorem yu{dst:Option Nat}{es:List aj}:(σ.kU dst es).L=σ.L/\(σ.kU dst es).U=σ.U:=by cases dst <;> exact⟨rfl,rfl⟩
theorem Ay{o:Oper}{σ':St}{f:Option aj}(h:(f.bind λe=>some (σ.bF o.dst e))=some σ'):σ'.L=σ.L/\σ'.U=σ.U:=by
 obtain⟨e,_,h2⟩:=bN.1 h
 injection h2 with h2
 rw[<-h2];exact l5
theorem tF{R:Type}{σ:St}{e:aj}{K:Nat->Lab->List Stp->V->Option R}{r:R}(h:jH σ e K=some r):∃ l b π c,K l b π c=some r:=by
 unfold jH at h
 split at h
 ·split at h
  ·rename_i b _
   simp only[cH]at h
   split at h
   ·exact⟨_,_,_,_,h⟩
   ·split at h
    ·exact⟨_,_,_,_,h⟩
    ·cases h
  ·cases h
 ·cases h
theorem Cq{σ:St}{es:List aj}{mi:List Nat}{ms:List (Ty×Md)}(hq:(match mi with|[]=>(match ms with|[]=>true|_=>false)|_=>false)=true){y:(dx ms).T}{L L2:Nat->Option Lab}(h:mu σ es mi ms y L=some L2):L2=L:=by
 cases mi with
 |cons _ _=>cases hq
 |nil=>cases ms with
  |cons _ _=>cases hq
  |nil=>injection h with h;exact h.symm
theorem Cr{R:Type}{σ:St}:∀ {ps:List (Ty×Md)} {es:List aj} {L:Nat->Option Lab} {K:(dx ps).T->(Nat->Option Lab)->List Nat->Option R} {r:R},qK ps=true->jK σ ps es L K=some r->∃ x bs,K x L bs=some r:=by
 intro ps
 induction ps with
 |nil=>
  intro es L K r _ h
  cases es with
  |nil=>exact⟨(),[],h⟩
  |cons _ _=>cases h
 |cons p ps ih=>
  intro es L K r ha h
  simp only[qK,ag]at ha
  cases es with
  |nil=>cases h
  |cons e es=>
   simp only[jK]at h
   unfold ta at h
   rw[ha.1]at h
   simp only[cond_true]at h
   split at h
   ·obtain⟨l,b,π,c,h⟩:=tF h
    split at h
    ·obtain⟨x,bs,h⟩:=ih ha.2 h;exact⟨_,_,h⟩
    ·cases h
   ·obtain⟨x0,h⟩:=HY h
    obtain⟨x,bs,h⟩:=ih ha.2 h;exact⟨_,_,h⟩
theorem Fh{R:Type}:∀ {rs:List (Ty×Md)} {x:(dx rs).T} {k:Nat} {σ:St} {K:St->List aj->Option R} {r:R},qK rs=true->oE rs x k σ K=some r->∃ es,K σ es=some r:=by
 intro rs
 induction rs with
 |nil=>intro x k σ K r _ h;exact⟨[],h⟩
 |cons p rs ih=>
  intro x k σ K r ha h
  simp only[qK,ag,decide_eq_true_eq]at ha
  simp only[oE,ha.1,di,cond_true]at h
  obtain⟨es,h⟩:=ih ha.2 h
  exact⟨_,h⟩
theorem Fi{V:Env}{o:Oper}(hv:isV V o=true){σ':St}(hk:opK V σ o some=some σ'):σ'.L=σ.L/\σ'.U=σ.U:=by
 have one:∀ (f:(aj->Option St)->Option St) (g:Option aj),(∀ K,f K=g.bind K)->f (λe=>some (σ.bF o.dst e))=some σ'->σ'.L=σ.L/\σ'.U=σ.U:=λf g hf h=>by
  rw[hf]at h;exact Ay h
 unfold isV at hv
 unfold opK at hk
 split at hk
 ·split at hk
  ·injection hk with hk;rw[<-hk];exact yu
  ·split at hk
   ·injection hk with hk;rw[<-hk];exact l5
   ·cases hk
 ·split at hk
  ·injection hk with hk;rw[<-hk];exact yu
  ·split at hk
   ·injection hk with hk;rw[<-hk];exact l5
   ·cases hk
 ·split at hk
  ·split at hk
   ·split at hk
    ·injection hk with hk;rw[<-hk];exact l5
    ·cases hk
   ·split at hk
    ·injection hk with hk;rw[<-hk];exact l5
    ·cases hk
  ·cases hk
 ·rename_i t ho;rw[ho]at hv;cases hv
 ·rename_i t x ho;rw[ho]at hv;cases hv
 ·rename_i t x ho;rw[ho]at hv;cases hv
 ·rename_i t l x ho;rw[ho]at hv;cases hv
 ·split at hk
  ·split at hk
   ·exact one _ _ (λK=>(qF K _ _ _ some).symm) hk
   ·cases hk
  ·cases hk
 ·rename_i t l x ho;rw[ho]at hv;cases hv
 ·split at hk
  ·exact one _ _ (λK=>(sb K _ _ some).symm) hk
  ·cases hk
 ·split at hk
  ·split at hk
   ·exact one _ _ (λK=>(sf K _ _ _ _ _ _ _ some).symm) hk
   ·cases hk
  ·cases hk
 ·split at hk
  ·exact one _ _ (λK=>(uZ K _ _ some).symm) hk
  ·cases hk
 ·rename_i s t x ho;rw[ho]at hv;cases hv
 ·rename_i t l x ho;rw[ho]at hv;cases hv
 ·rename_i t x l h m ho;rw[ho]at hv;cases hv
 ·split at hk
  ·exact one _ _ (λK=>(kD K _ _ _ _ _ some).symm) hk
  ·cases hk
 ·split at hk
  ·exact one _ _ (λK=>(pt K _ _ _ _ _ some).symm) hk
  ·cases hk
 ·split at hk
  ·split at hk
   ·exact one _ _ (λK=>(sg K _ _ _ _ _ some).symm) hk
   ·cases hk
  ·cases hk
 ·split at hk
  ·split at hk
   ·exact one _ _ (λK=>(pu K _ _ _ _ some).symm) hk
   ·cases hk
  ·cases hk
 ·split at hk
  ·split at hk
   ·injection hk with hk;rw[<-hk];exact l5
   ·cases hk
  ·cases hk
 ·rename_i c ho
  rw[ho]at hv
  simp only at hv
  split at hk
  ·rename_i b hc
   rw[hc]at hv
   unfold fo at hk
   split at hk
   ·split at hk
    ·exact one _ _ (λK=>(r9 K _ _ _ _ some).symm) hk
    ·cases hk
   ·split at hk
    ·exact one _ _ (λK=>(sa K _ _ _ _ some).symm) hk
    ·cases hk
   ·cases hv
   ·split at hk
    ·split at hk
     ·exact one _ _ (λK=>(sd K _ _ some).symm) hk
     ·cases hk
    ·cases hk
   ·split at hk
    ·split at hk
     ·exact one _ _ (λK=>(se K _ _ some).symm) hk
     ·cases hk
    ·cases hk
   ·cases hk
  ·rename_i f hc
   rw[hc]at hv
   simp only at hv
   cases hf:V.CT f with
   |none=>rw[hf]at hv;cases hv
   |some ce=>
   rw[hf]at hv hk
   simp only[ag]at hv
   simp only at hk
   obtain⟨hro,hfl⟩:=hv
   split at hk
   ·rename_i es hes
    rw[hfl]at hk
    simp only[cond_true]at hk
    unfold Cp at hro
    simp only[ag]at hro
    obtain⟨r1,r2,r3⟩:=hro
    unfold gQ at hk
    obtain⟨x,bs,hk⟩:=Cr r1 hk
    simp only[cH]at hk
    split at hk
    ·unfold ah at hk
     cases zU:ce.den x with
     |none=>rw[zU]at hk;cases hk
     |some y=>
     rw[zU]at hk
     simp only at hk
     split at hk
     ·rename_i L2 hL2
      have hL2:=Cq r3 hL2
      subst hL2
      split at hk
      ·obtain⟨es',hk⟩:=Fh r2 hk
       injection hk with hk
       rw[<-hk]
       exact⟨rfl,rfl⟩
      ·injection hk with hk
       rw[<-hk]
       exact⟨rfl,rfl⟩
     ·cases hk
    ·cases hk
   ·cases hk
  ·cases hk
 ·cases hk
theorem Fj{V:Env}{o:Oper}(hv:isV V o=true){σ':St}(hk:opD V σ o some=some σ'):σ'.L=σ.L/\σ'.U=σ.U:=by
 unfold opD at hk
 cases hq:cvQ σ o
 ·rw[hq]at hk;exact Fi hv hk
 ·rw[hq]at hk
  simp only[cond_true]at hk
  have mv:∀ t,cvM σ o.dst t some=some σ'->σ'.L=σ.L/\σ'.U=σ.U:=by
   intro t hk
   unfold cvM at hk
   split at hk
   ·injection hk with hk
    rw[<-hk]
    unfold St.oK
    cases o.dst <;> exact⟨rfl,rfl⟩
   ·cases hk
  unfold cvK at hk
  split at hk
  ·exact mv _ hk
  ·exact mv _ hk
  ·rename_i c ho
   split at hk
   ·rename_i t hc
    simp[isV,ho,hc]at hv
   ·cases hk
  ·cases hk
end
def qL(σ:St)(ops:List Oper)(o:Oper):Option Bool:=
 match o.guard with
 |none=>some true
 |some (j,want)=>match kX ops j with
  |some s=>(match σ.E s with
   |some (.one (.val .bool b))=>some ((b:Bool) == want)
   |some (.one (.cst v))=>(match v with
    |.bool b=>some (b == want)
    |_=>some false)
   |_=>none)
  |none=>none
def bX(ops:List Oper)(o:Oper):List Nat:=match o.guard with
 |none=>[]
 |some (j,_)=>match kX ops j with|some s=>[s]|none=>[]
structure Tr where
 o:Oper
 st:St
 run:Bool
 e:Option Ent
 T:Nat->Bool
 L':Nat->Option Lab
 U':Nat->Bool
 re:List Nat
 TR:Nat->Bool
 anc:List Nat
 wh:Option St:=none
def Tr.U(t:Tr)(σ:St):St:=match t.wh with|some σ'=>σ'|none=>⟨match t.o.dst with|some d=>upd σ.E d t.e|none=>σ.E,jR t.T t.L' σ.L,iT t.T t.U' σ.U⟩
structure gS(s t:Tr):Prop where
 r1:∀ d,s.o.dst=some d->d∉t.re
 r2:∀ d,t.o.dst=some d->d∉s.re
 w:∀ d,s.o.dst=some d->t.o.dst≠some d
 l1:∀ l,s.T l=true->t.TR l=true->False
 l2:∀ l,t.T l=true->s.TR l=true->False
 l3:∀ l,s.T l=true->t.T l=true->False
 n1:s.wh=none
 n2:t.wh=none
structure Ag(t:Tr)(σ1 σ2:St):Prop where
 e:∀ x∈t.re,σ1.E x=σ2.E x
 l:∀ l,t.TR l=true->σ1.L l=σ2.L l/\σ1.U l=σ2.U l
 w:t.wh.isSome=true->σ1=σ2
def b9(D:Nat->Bool):List Tr->Nat->St->St
 |[],_,σ=>σ
 |t::tr,m,σ=>b9 D tr (m+1) (bif D m then t.U σ else σ)
section
theorem Ag.refl(t:Tr)(σ:St):Ag t σ σ:=⟨λ_ _=>rfl,λ_ _=>⟨rfl,rfl⟩,λ_=>rfl⟩
theorem Ag.both{t s:Tr}{σ1 σ2:St}(h:Ag t σ1 σ2):Ag t (s.U σ1) (s.U σ2):=by
 cases hw:s.wh with
 |some σ'=>simp only[Tr.U,hw];exact Ag.refl _ _
 |none=>
 refine⟨λx hx=>?_,λl hl=>?_,λhw'=>by rw[h.w hw']⟩
 ·simp only[Tr.U,hw]
  cases s.o.dst with
  |none=>exact h.1 x hx
  |some d=>
   by_cases e:x=d
   ·subst e;simp only[ay]
   ·simp only[aI _ _ e];exact h.1 x hx
 ·simp only[Tr.U,hw,jR,iT]
  cases s.T l
  ·exact h.2 l hl
  ·exact⟨rfl,rfl⟩
theorem Ag.one{t s:Tr}{σ:St}(h:gS s t):Ag t (s.U σ) σ:=by
 refine⟨λx hx=>?_,λl hl=>?_,λhw=>by rw[h.n2]at hw;cases hw⟩
 ·simp only[Tr.U,h.n1]
  cases hd:s.o.dst with
  |none=>rfl
  |some d=>exact aI _ _ (λe=>h.r1 d hd (e ▸ hx))
 ·simp only[Tr.U,h.n1,jR,iT]
  cases hT:s.T l
  ·exact⟨rfl,rfl⟩
  ·exact(h.l1 l hT hl).elim
theorem Ag.trans{t:Tr}{σ1 σ2 σ3:St}(h:Ag t σ1 σ2)(k:Ag t σ2 σ3):Ag t σ1 σ3:=⟨λx hx=>(h.1 x hx).trans (k.1 x hx),λl hl=>⟨(h.2 l hl).1.trans (k.2 l hl).1,(h.2 l hl).2.trans (k.2 l hl).2⟩,λhw=>(h.w hw).trans (k.w hw)⟩
theorem Ag.symm{t:Tr}{σ1 σ2:St}(h:Ag t σ1 σ2):Ag t σ2 σ1:=⟨λx hx=>(h.1 x hx).symm,λl hl=>⟨(h.2 l hl).1.symm,(h.2 l hl).2.symm⟩,λhw=>(h.w hw).symm⟩
theorem gS.symm{s t:Tr}(h:gS s t):gS t s:=⟨h.r2,h.r1,λd h1 h2=>h.w d h2 h1,h.l2,h.l1,λl h1 h2=>h.l3 l h2 h1,h.n2,h.n1⟩
theorem Il{s t:Tr}(h:gS s t)(σ:St):s.U (t.U σ)=t.U (s.U σ):=by
 have hE:(s.U (t.U σ)).E=(t.U (s.U σ)).E:=by
  simp only[Tr.U,h.n1,h.n2]
  cases hs:s.o.dst with
  |none=>cases t.o.dst <;> rfl
  |some d=>
   cases ht:t.o.dst with
   |none=>rfl
   |some d'=>
    have hne:d≠d':=λe=>h.w d hs (by rw[ht,e])
    funext j
    by_cases e1:j=d
    ·subst e1;simp only[ay,aI _ _ hne]
    ·by_cases e2:j=d'
     ·subst e2;simp only[aI _ _ e1,ay]
     ·simp only[aI _ _ e1,aI _ _ e2]
 have hL:(s.U (t.U σ)).L=(t.U (s.U σ)).L:=by
  funext l
  simp only[Tr.U,h.n1,h.n2,jR]
  cases h1:s.T l <;> cases h2:t.T l <;> first|rfl|exact(h.l3 l h1 h2).elim
 have hU:(s.U (t.U σ)).U=(t.U (s.U σ)).U:=by
  funext l
  simp only[Tr.U,h.n1,h.n2,iT]
  cases h1:s.T l <;> cases h2:t.T l <;> first|rfl|exact(h.l3 l h1 h2).elim
 cases h1:s.U (t.U σ)with
 |mk E1 L1 U1=>
  cases h2:t.U (s.U σ)with
  |mk E2 L2 U2=>
   rw[h1,h2]at hE hL hU
   simp only at hE hL hU
   rw[hE,hL,hU]
theorem oP{D D':Nat->Bool}:∀ (tr:List Tr) (m:Nat) (σ:St),(∀ k,m<=k->k<m+tr.length->D k=D' k)->b9 D tr m σ=b9 D' tr m σ:=by
 intro tr
 induction tr with
 |nil=>intro m σ _;rfl
 |cons t tr ih=>
  intro m σ h
  simp only[b9]
  rw[h m (ar _) (by simp)]
  exact ih (m+1) _ (λk h1 h2=>h k (by omega) (by simp at h2 |-;omega))
theorem Az{D:Nat->Bool}{i:Nat}{t:Tr}:∀ (tr:List Tr) (m:Nat) (σ:St),(m<=i)->tr[i-m]?=some t->D i=false->(∀ k s,i<k->D k=true->m<=k->tr[k-m]?=some s->gS s t)->
 b9 (λk=>D k||Nat.beq k i) tr m σ=t.U (b9 D tr m σ):=by
 have Cs:∀ (tr:List Tr) (m:Nat) (σ:St),i<m->(∀ k s,D k=true->m<=k->tr[k-m]?=some s->gS s t)->b9 (λk=>D k||Nat.beq k i) tr m (t.U σ)=t.U (b9 D tr m σ):=by
  intro tr
  induction tr with
  |nil=>intro m σ _ _;rfl
  |cons s tr ih=>
   intro m σ hm ha
   have hne:Nat.beq m i=false:=by
    cases hb:Nat.beq m i
    ·rfl
    ·have:=aV hb;omega
   simp only[b9,hne,iq]
   cases hD:D m
   ·exact ih (m+1) σ (by omega) (λk s' h1 h2 h3=>ha k s' h1 (by omega) (by rw[show k-m=(k-(m+1))+1 by omega];exact h3))
   ·simp only[cond_true]
    rw[Il (ha m s hD (ar _) (by simp))]
    exact ih (m+1) _ (by omega) (λk s' h1 h2 h3=>ha k s' h1 (by omega) (by rw[show k-m=(k-(m+1))+1 by omega];exact h3))
 intro tr
 induction tr with
 |nil=>intro m σ _ h;simp at h
 |cons s tr ih=>
  intro m σ hm ht hD ha
  by_cases e:m=i
  ·subst e
   simp at ht
   subst ht
   simp only[b9,hD,cr,cR,cond_true,cond_false]
   exact Cs tr (m+1) σ (cG _) (λk s' h1 h2 h3=>ha k s' (by omega) h1 (by omega) (by rw[show k-m=(k-(m+1))+1 by omega];exact h3))
  ·have hne:Nat.beq m i=false:=by
    cases hb:Nat.beq m i
    ·rfl
    ·exact absurd (aV hb) e
   simp only[b9,hne,iq]
   exact ih (m+1) _ (by omega) (by rw[show i-m=(i-(m+1))+1 by omega]at ht;exact ht) hD (λk s' h0 h1 h2 h3=>ha k s' h0 h1 (by omega) (by rw[show k-m=(k-(m+1))+1 by omega];exact h3))
theorem Ct{D:Nat->Bool}{i:Nat}{t:Tr}:∀ (tr:List Tr) (m:Nat) (σ1 σ2:St),m<=i->i-m<=tr.length->Ag t σ1 σ2->D i=false->(∀ k s,m<=k->k<i->D k=false->tr[k-m]?=some s->gS s t)->(∀ k s,i<k->D k=true->tr[k-m]?=some s->gS s t)->
 Ag t (b9 D tr m σ1) (b9 (λ_=>true) (tr.take (i-m)) m σ2):=by
 have Cs:∀ (tr:List Tr) (m:Nat) (σ1:St),i<m->(∀ k s,m<=k->D k=true->tr[k-m]?=some s->gS s t)->Ag t (b9 D tr m σ1) σ1:=by
  intro tr
  induction tr with
  |nil=>intro m σ1 _ _;exact Ag.refl _ _
  |cons s tr ih=>
   intro m σ1 hm ha
   simp only[b9]
   have hs:∀ k s',m+1<=k->D k=true->tr[k-(m+1)]?=some s'->gS s' t:=λk s' h1 h2 h3=>ha k s' (by omega) h2 (by rw[show k-m=(k-(m+1))+1 by omega];exact h3)
   cases hD:D m
   ·exact ih (m+1) σ1 (by omega) hs
   ·exact(ih (m+1) _ (by omega) hs).trans (Ag.one (ha m s (ar _) hD (by simp)))
 intro tr
 induction tr with
 |nil=>intro m σ1 σ2 _ _ h _ _ _;simpa [b9]using h
 |cons s tr ih=>
  intro m σ1 σ2 hm hl h hD h1 h2
  by_cases e:m=i
  ·subst e
   simp only[Nat.sub_self,List.take_zero,b9,hD,cond_false]
   exact(Cs tr (m+1) σ1 (cG _) (λk s' q1 q2 q3=>h2 k s' (by omega) q2 (by rw[show k-m=(k-(m+1))+1 by omega];exact q3))).trans h
  ·rw[show i-m=(i-(m+1))+1 by omega,List.take_succ_cons]
   simp only[b9,cond_true]
   refine ih (m+1) _ _ (by omega) (by simp at hl;omega) ?_ hD (λk s' q1 q2 q3 q4=>h1 k s' (by omega) q2 q3 (by rw[show k-m=(k-(m+1))+1 by omega];exact q4)) (λk s' q1 q2 q3=>h2 k s' q1 q2 (by rw[show k-m=(k-(m+1))+1 by omega];exact q3))
   cases hDm:D m
   ·exact h.trans (Ag.one (h1 m s (ar _) (by omega) hDm (by simp))).symm
   ·exact h.both
end
def jd(V:Env)(t:Tr):Prop:=∀ {P:Program} {B:dh} {σ:St} {a:Act} {w:World} {Q:Exit->Act->World->Prop},fh P V->Inv B σ a w->(∀ d,t.o.dst=some d->d<B.N)->Ag t σ t.st->t.o.wp P a w (λa' w'=>Inv B (t.U σ) a' w') Q
structure GoodP(V:Env)(ops:List Oper)(tr:List Tr)(σ0:St):Prop where
 op:∀ (i:Nat) (t:Tr),tr[i]?=some t->ops[i]?=some t.o
 st:∀ (i:Nat) (t:Tr),tr[i]?=some t->t.st=b9 (λ_=>true) (tr.take i) 0 σ0
 gv:∀ (i:Nat) (t:Tr),tr[i]?=some t->qL t.st ops t.o=some t.run/\∀ s∈bX ops t.o,s∈t.re
 run:∀ (i:Nat) (t:Tr),tr[i]?=some t->t.run=true->jd V t
 skip:∀ (i:Nat) (t:Tr),tr[i]?=some t->t.run=false->∀ σ,σ.bF t.o.dst (.cst undef)=t.U σ
 AA:∀ (i:Nat) (t:Tr) (e:Edge),tr[i]?=some t->e∈t.o.after->Region.binds .any e=true->e.on<i
 anc:∀ (i:Nat) (t:Tr) (m:Nat),tr[i]?=some t->m∈t.anc->m<i/\∃ e:Edge,e∈t.o.after/\Region.binds .any e=true/\(m=e.on\/∃ s:Tr,tr[e.on]?=some s/\m∈s.anc)
 apart:∀ (i j:Nat) (s t:Tr),i<j->tr[i]?=some s->tr[j]?=some t->i∉t.anc->gS s t
 wE:∀ (i:Nat) (t:Tr) (σ':St),tr[i]?=some t->t.wh=some σ'->∀ j,t.o.dst≠some j->σ'.E j=t.st.E j
structure Good(V:Env)(ops:List Oper)(tr:List Tr)(σ0:St):Prop extends GoodP V ops tr σ0 where
 len:tr.length=ops.length
section
variable {P:Program} {B:dh} {V:Env} {ops:Array Oper} {tr:List Tr} {σ0:St}
theorem Cu{σ σ':St}{ops:List Oper}{o:Oper}(h:∀ s∈bX ops o,σ.E s=σ'.E s):qL σ ops o=qL σ' ops o:=by
 unfold bX at h
 unfold qL
 cases hg:o.guard with
 |none=>rfl
 |some p=>
  obtain⟨j,want⟩:=p
  rw[hg]at h
  simp only at h |-
  cases hs:kX ops j with
  |none=>rfl
  |some s=>rw[hs]at h;simp only at h |-;rw[h s (by simp)]
theorem Fk{σ:St}{a:Act}{w:World}(h:Inv B σ a w){o:Oper}{b:Bool}(hg:qL σ ops.toList o=some b):Region.wanted o (yielded ops a.tmps)=b:=by
 obtain⟨F,Sg,cg,h⟩:=h
 unfold qL at hg
 unfold Region.wanted
 split at hg
 ·rename_i hg';rw[hg'];exact cP hg
 ·rename_i j want hg'
  rw[hg']
  simp only
  cases hs:kX ops.toList j with
  |none=>rw[hs]at hg;cases hg
  |some s=>
  rw[hs]at hg
  simp only at hg
  split at hg
  ·rename_i b' hE
   have hv:=iD (L:=σ.L) (U:=σ.U) (cg:=cg) (h.ent s _ hE)
   rw[ki hs hv]
   have hg:=cP hg
   rw[<-hg]
   cases b' <;> cases want <;> rfl
  ·rename_i v hE
   have hv:a.tmps.getD s undef=v:=h.ent s _ hE
   split at hg
   ·rename_i b'
    rw[ki hs hv]
    have hg:=cP hg
    rw[<-hg]
    cases b' <;> cases want <;> rfl
   ·rename_i hnb
    rw[pq hs (λb hb=>by rw[hv]at hb;exact hnb b hb)]
    have hg:=cP hg
    rw[<-hg]
    rfl
  ·cases hg
theorem xB{σ σ':St}:∀ {ts:List Nat},(∀ t∈ts,σ.E t=σ'.E t)->iM σ ts=iM σ' ts:=by
 intro ts
 induction ts with
 |nil=>intro _;rfl
 |cons t ts ih=>intro h;simp only[iM];rw[h t (by simp),ih (λt ht=>h t (by simp[ht]))]
theorem vE{σ σ':St}{o:Oper}(h:∀ t∈looks o,σ.E t=σ'.E t):eL σ o=eL σ' o:=by
 unfold eL;rw[xB h]
theorem Cv{t:Nat}{l:List Nat}(h:fq t l=true):t∈l:=qD h
theorem AB{σ σ':St}{o:Oper}(h:∀ t∈looks o,σ.E t=σ'.E t)(hl:∀ l,eL σ' o l=true->σ.L l=σ'.L l/\σ.U l=σ'.U l):lg σ o=lg σ' o:=by
 unfold lg
 rw[vE h]
 have e1:(λt=>bif fq t (looks o)then σ.E t else none)=λt=>bif fq t (looks o)then σ'.E t else none:=by
  funext t
  cases hm:fq t (looks o)
  ·rfl
  ·exact h t (Cv hm)
 have e2:gX σ.L (eL σ' o)=gX σ'.L (eL σ' o):=by
  funext l
  unfold gX
  cases hv:eL σ' o l
  ·rfl
  ·exact(hl l hv).1
 have e3:gY σ.U (eL σ' o)=gY σ'.U (eL σ' o):=by
  funext l
  unfold gY
  cases hv:eL σ' o l
  ·rfl
  ·exact(hl l hv).2
 rw[e1,e2,e3]
theorem jd.of{t:Tr}(h:(∀ x∈looks t.o,x∈t.re)/\(∀ l,eL t.st t.o l=true->t.TR l=true)/\calm V t.o=true/\∃ σ',opD V (lg t.st t.o) t.o some=some σ'/\kn (eL t.st t.o) t.o.dst σ'=true/\∀ σ,Ag t σ t.st->nq (eL t.st t.o) t.o.dst σ σ'=t.U σ):jd V t:=by
 intro P B σ a w Q hV hi hd hag
 obtain⟨r1,r2,r3,σ',r4,r5,r6⟩:=h
 have hlk:∀ x∈looks t.o,σ.E x=t.st.E x:=λx hx=>hag.1 x (r1 x hx)
 have hre:=AB hlk (λl hl=>hag.2 l (r2 l hl))
 have hvi:=vE hlk
 refine Oper.kj (Q:=Q) (JX hV hi r3 hd (by rw[hre];exact r4) (by rw[hvi];exact r5)) (λa' w' hp=>?_) (λ_ _ _ h=>h)
 rw[hvi,r6 _ hag]at hp
 exact hp
def mvE(σ:St)(o:Oper):Option aj:=match o.op with
 |.move (.tmp t)|.assign (.tmp t)=>(match σ.E t with
  |some (.one (.hdr l n p c))=>some (.hdr l n p c)
  |some (.one (.adr l n p c))=>some (.adr l n p c)
  |_=>none)
 |_=>none
theorem Im{σ:St}{o:Oper}{e:aj}(h:mvE σ o=some e):∃ x,(o.op=.move (.tmp x)\/o.op=.assign (.tmp x))/\looks o=[x]/\σ.E x=some (.one e)/\coN e=e:=by
 unfold mvE at h
 split at h
 ·rename_i x ho
  refine⟨x,.inl ho,by unfold looks;rw[ho];rfl,?_⟩
  split at h
  ·rename_i hx;injection h with h;rw[<-h];exact⟨hx,rfl⟩
  ·rename_i hx;injection h with h;rw[<-h];exact⟨hx,rfl⟩
  ·cases h
 ·rename_i x ho
  refine⟨x,.inr ho,by unfold looks;rw[ho];rfl,?_⟩
  split at h
  ·rename_i hx;injection h with h;rw[<-h];exact⟨hx,rfl⟩
  ·rename_i hx;injection h with h;rw[<-h];exact⟨hx,rfl⟩
  ·cases h
 ·cases h
theorem jd.wh{t:Tr}{σ':St}(hw:t.wh=some σ')(hk:oF V t.st t.o some=some σ'):jd V t:=by
 intro P B σ a w Q hV hi hd hag
 have e:σ=t.st:=hag.w (by rw[hw];rfl)
 subst e
 obtain⟨F,Sg,cg,hg⟩:=hi
 refine Oper.kj (Q:=Q) (tu hV hg hd hk) (λa' w' hp=>?_) (λ_ _ _ h=>h)
 obtain⟨oL,q1,q2,_⟩:=hp
 injection q1 with q1
 unfold Tr.U
 rw[hw,<-q1];exact q2
def mkE(V:Env)(o:Oper):Option (Nat×Lab):=
 match o.op with
 |.makeMap t none=>(match o.dst with
  |some d=>kW V t λk q=>some (d,⟨0,.map k (.int q),.own .ro,[]⟩)
  |none=>none)
 |_=>none
theorem Cw{o:Oper}{d:Nat}{b:Lab}(h:mkE V o=some (d,b)):o.dst=some d/\∀ σ:St,σ.U (d*8)=false->oF V σ o some=some (σ.mk' σ.L (d*8) d b):=by
 unfold mkE at h
 split at h
 case h_2=>cases h
 rename_i t ho
 split at h
 case h_2=>cases h
 rename_i d' hd
 have hb:∀ {R:Type} (K:Ty->IntKind->Option R),kW V t K=(kW V t λk q=>some (k,q)).bind λp=>K p.1 p.2:=by
  intro R K
  unfold kW
  repeat' split
  all_goals rfl
 rw[hb]at h
 obtain⟨p,hp,h⟩:=bN.1 h
 injection h with h
 injection h with h1 h2
 subst h1
 refine⟨hd,λσ hU=>?_⟩
 unfold oF
 rw[ho,hd]
 simp only
 rw[hb,hp]
 simp only[fI,hU,cond_false]
 rw[h2]
theorem jd.mk{t:Tr}{d:Nat}{b:Lab}(h:mkE V t.o=some (d,b))(hU:t.st.U (d*8)=false)(hT:t.TR (d*8)=true)(hu:∀ σ:St,σ.mk' σ.L (d*8) d b=t.U σ):jd V t:=by
 intro P B σ a w Q hV hi hd hag
 obtain⟨h1,h2⟩:=Cw h
 have hU':σ.U (d*8)=false:=by rw[(hag.l _ hT).2];exact hU
 obtain⟨F,Sg,cg,hg⟩:=hi
 refine Oper.kj (Q:=Q) (tu hV hg hd (h2 σ hU')) (λa' w' hp=>?_) (λ_ _ _ h=>h)
 obtain⟨oL,q1,q2,_⟩:=hp
 injection q1 with q1
 rw[<-hu,<-q1];exact q2
theorem jd.mv{t:Tr}{e:aj}(h:mvE t.st t.o=some e)(hre:∀ x∈looks t.o,x∈t.re)(hU:∀ σ:St,σ.bF t.o.dst e=t.U σ):jd V t:=by
 intro P B σ a w Q hV hi hd hag
 obtain⟨x,hx,hl,hE,hco⟩:=Im h
 have hE':σ.E x=some (.one e):=by rw[hag.1 x (hre x (by rw[hl];simp))];exact hE
 have hk:opK V σ t.o some=some (t.U σ):=by
  rw[<-hU]
  unfold opK
  rcases hx with hx|hx <;> rw[hx] <;> simp only[xh,opd,hE',hco]
 obtain⟨F,Sg,cg,hg⟩:=hi
 refine Oper.kj (Q:=Q) (xi hV hg hd hk) (λa' w' hp=>?_) (λ_ _ _ h=>h)
 obtain⟨σ',q1,q2,_⟩:=hp
 injection q1 with q1
 rw[<-q1];exact q2
theorem AD{p p':Nat->Bool}:∀ {l:List Nat} {i:Nat},(∀ k,p' k=true->p k=true)->i∈l->p i=true->p' i=false->l.countP p' < l.countP p:=by
 intro l
 induction l with
 |nil=>intro i _ h;simp at h
 |cons x xs ih=>
  intro i hp hi h1 h2
  have hle:xs.countP p'<=xs.countP p:=List.countP_mono_left (λk _ h=>hp k h)
  rw[List.countP_cons,List.countP_cons]
  rcases aH.1 hi with rfl|hi
  ·rw[h1,h2];simp;omega
  ·have:=ih hp hi h1 h2
   by_cases hx:p' x=true
   ·rw[hx,hp x hx];simp;omega
   ·have:p' x=false:=by simpa using hx
    rw[this];simp;omega
theorem Fl(G:Good V ops.toList tr σ0)(hV:fh P V)(hN:kY B.N ops.toList=true){Q:Exit->Act->World->Prop}(hQ:∀ a w,Inv B (b9 (λ_=>true) tr 0 σ0) a w->Q .normal a w):
 ∀ (bM:Nat) (listed:Array Bool) (a:Act) (w:World),listed.size=ops.size->(∀ (i:Nat) (t:Tr) (e:Edge),tr[i]?=some t->listed.getD i false=true->e∈t.o.after->Region.binds .any e=true->listed.getD e.on false=true)->(List.range ops.size).countP (λk=>!listed.getD k false)<=bM->
  Inv B (b9 (λk=>listed.getD k false) tr 0 σ0) a w->wpAny P .any ops Q bM listed a w:=by
 have hlen:tr.length=ops.size:=by rw[G.len];simp
 have JY:∀ i:Nat,i<ops.size->∃ t,tr[i]?=some t:=λi hi=>⟨tr[i]'(by omega),by simp[show i<tr.length by omega]⟩
 have JZ:∀ (i:Nat) (t:Tr),tr[i]?=some t->ops[i]?=some t.o:=λi t h=>by rw[<-eD];exact G.op i t h
 have Cb:∀ (i:Nat) (t:Tr),tr[i]?=some t->∀ d,t.o.dst=some d->d<B.N:=λi t h=>by
  have:∀ l:List Oper,kY B.N l=true->∀ o∈l,∀ d,o.dst=some d->d<B.N:=by
   intro l
   induction l with
   |nil=>intro _ o ho;simp at ho
   |cons x l ihl=>
    intro hl o ho d hd
    simp only[kY,ag]at hl
    rcases aH.1 ho with rfl|ho
    ·rw[hd]at hl;exact fH hl.1
    ·exact ihl hl.2 o ho d hd
  exact this _ hN _ (eT (G.op i t h))
 -- nothing ready:all done
 have done:∀ (listed:Array Bool) (a:Act) (w:World),listed.size=ops.size->Region.ready .any ops listed=[]->Inv B (b9 (λk=>listed.getD k false) tr 0 σ0) a w->Q .normal a w:=by
  intro listed a w hs hr h
  have all:∀ k,k<ops.size->listed.getD k false=true:=by
   intro k
   induction k using Nat.strongRecOn with
   |_ k ih=>
    intro hk
    cases hl:listed.getD k false with
    |true=>rfl
    |false=>
     exfalso
     obtain⟨t,ht⟩:=JY k hk
     have:k∈Region.ready .any ops listed:=by
      rw[mem_ready]
      refine⟨?_,t.o,JZ k t ht,λe he hb=>?_⟩
      ·rw[dM]at hl |-
       simp[show k<listed.size by omega]at hl |-
       exact hl
      ·have:=G.AA k t e ht he hb
       exact ih e.on this (by omega)
     rw[hr]at this
     simp at this
  have e:b9 (λk=>listed.getD k false) tr 0 σ0=b9 (λ_=>true) tr 0 σ0:=oP tr 0 σ0 (λk _ hk=>all k (by omega))
  rw[e]at h
  exact hQ a w h
 intro bM
 induction bM with
 |zero=>
  intro listed a w hs hcl hc h
  have hr:Region.ready .any ops listed=[]:=by
   cases hr:Region.ready .any ops listed with
   |nil=>rfl
   |cons i is=>
    exfalso
    have hm:i∈Region.ready .any ops listed:=by rw[hr];simp
    obtain⟨h1,o,h2,_⟩:=mem_ready.1 hm
    have hi:i<ops.size:=(ie.1 h2).1
    have:0<(List.range ops.size).countP (λk=>!listed.getD k false):=by
     rw[List.countP_pos_iff]
     refine⟨i,by simpa using hi,?_⟩
     rw[dM]at h1 |-
     simp[show i<listed.size by omega]at h1 |-
     exact h1
    omega
  exact⟨hr,done listed a w hs hr h⟩
 |succ bM ih=>
  intro listed a w hs hcl hc h
  refine⟨λhr=>done listed a w hs hr h,λi hi=>?_⟩
  obtain⟨h1,o,h2,h3⟩:=mem_ready.1 hi
  have J0:i<ops.size:=(ie.1 h2).1
  obtain⟨t,ht⟩:=JY i J0
  have hot:=JZ i t ht
  have hlf:listed.getD i false=false:=by
   rw[dM]at h1 |-
   simp[show i<listed.size by omega]at h1 |-
   exact h1
  -- EE is listed is closed
  have vF:∀ (j:Nat) (s:Tr),tr[j]?=some s->(∀ e:Edge,e∈s.o.after->Region.binds .any e=true->listed.getD e.on false=true)->∀ m∈s.anc,listed.getD m false=true:=by
   intro j
   induction j using Nat.strongRecOn with
   |_ j ihj=>
    intro s hs' he m hm
    obtain⟨_,e,q1,q2,q3⟩:=G.anc j s m hs' hm
    rcases q3 with rfl|⟨s2,q4,q5⟩
    ·exact he e q1 q2
    ·exact ihj e.on (G.AA j s e hs' q1 q2) s2 q4 (λe2 he2 hb2=>hcl e.on s2 e2 q4 (he e q1 q2) he2 hb2) m q5
  have hti:t.o=o:=by rw[hot]at h2;injection h2
  have J1:∀ m∈t.anc,listed.getD m false=true:=vF i t ht (λe he hb=>h3 e (hti ▸ he) hb)
  have J2:∀ (k:Nat) (s:Tr),tr[k]?=some s->listed.getD k false=true->i∉s.anc:=λk s hk hl hm=>by
   have:=vF k s hk (λe he hb=>hcl k s e hk hl he hb) i hm
   rw[hlf]at this;cases this
  have LC:∀ (k:Nat) (s:Tr),0<=k->k<i->listed.getD k false=false->tr[k-0]?=some s->gS s t:=λk s _ hk hl hsk=>G.apart k i s t hk hsk ht (λhm=>by rw[J1 k hm]at hl;cases hl)
  have J3:∀ (k:Nat) (s:Tr),i<k->listed.getD k false=true->tr[k-0]?=some s->gS s t:=λk s hk hl hsk=>(G.apart i k t s hk ht hsk (J2 k s hsk hl)).symm
  have hag:Ag t (b9 (λk=>listed.getD k false) tr 0 σ0) t.st:=by
   rw[G.st i t ht]
   exact Ct tr 0 σ0 σ0 (bT _) (by omega) (Ag.refl _ _) hlf LC J3
  have H8:b9 (λk=>(listed.setIfInBounds i true).getD k false) tr 0 σ0=t.U (b9 (λk=>listed.getD k false) tr 0 σ0):=by
   rw[<-Az (D:=λk=>listed.getD k false) tr 0 σ0 (bT _) (by simpa using ht) hlf (λk s h1 h2 _ h4=>J3 k s h1 h2 h4)]
   refine oP tr 0 σ0 (λk _ hk=>?_)
   by_cases e:k=i
   ·subst e
    simp[show k<listed.size by omega,cr]
   ·rw[getD_set_ne false (Ne.symm e)]
    have:Nat.beq k i=false:=by
     cases hb:Nat.beq k i
     ·rfl
     ·exact absurd (aV hb) e
    simp only[this,iq]
  have next:∀ a' w',Inv B (t.U (b9 (λk=>listed.getD k false) tr 0 σ0)) a' w'->wpAny P .any ops Q bM (listed.setIfInBounds i true) a' w':=by
   intro a' w' h'
   refine ih (listed.setIfInBounds i true) a' w' (by simpa using hs) ?_ ?_ (by rw[H8];exact h')
   ·intro j s e hj hl he hb
    by_cases e':j=i
    ·subst e'
     have:s=t:=by rw[ht]at hj;injection hj with hj;exact hj.symm
     subst this
     have hlt:=G.AA j s e ht he hb
     rw[getD_set_ne false (by omega)]
     exact h3 e (hti ▸ he) hb
    ·rw[getD_set_ne false (Ne.symm e')]at hl
     exact getD_set_true (hcl j s e hj hl he hb)
   ·have:=AD (p:=λk=>!listed.getD k false) (p':=λk=>!(listed.setIfInBounds i true).getD k false) (l:=List.range ops.size) (i:=i) (λk hk=>by
     cases hl:listed.getD k false with
     |false=>rfl
     |true=>rw[getD_set_true hl]at hk;simp at hk) (by simpa using J0) (by simp only[hlf];rfl) (by simp[show i<listed.size by omega])
    omega
  have hgv:=G.gv i t ht
  have hgs:qL (b9 (λk=>listed.getD k false) tr 0 σ0) ops.toList t.o=some t.run:=by
   rw[Cu (σ':=t.st) (λs hs=>hag.1 s (hgv.2 s hs))];exact hgv.1
  have hw:=Fk h hgs
  unfold wpOp
  rw[hot]
  simp only
  cases bE:t.run with
  |true=>
   rw[bE]at hw
   rw[if_pos hw]
   left
   exact Oper.kj (Q:=Q) (G.run i t ht bE hV h (Cb i t ht) hag) (λa' w' hp=>next a' w' hp) (λ_ _ _ h=>h)
  |false=>
   rw[bE]at hw
   rw[if_neg (by rw[hw];simp)]
   refine next _ _ ?_
   rw[<-G.skip i t ht bE]
   obtain⟨F,Sg,cg,h⟩:=h
   exact h.bF (Cb i t ht) (e:=.cst undef) rfl
end
structure Fp where
 v:Bool
 re:List Nat
 dst:Option Nat
 ks:List Nat
 b:Bool:=false
def yv(d:Option Nat)(l:List Nat):Bool:=match d with|some d=>!fq d l|none=>true
def oQ(k:Nat)(d:Option Nat):Bool:=match d with|some d=>!Nat.beq (k / 8) d|none=>true
def Cx(ks2:List Nat)(d2:Option Nat):List Nat->Bool
 |[]=>true
 |k::ks=>(!fq k ks2&&oQ k d2)&&Cx ks2 d2 ks
def Cy(d1:Option Nat):List Nat->Bool
 |[]=>true
 |k::ks=>oQ k d1&&Cy d1 ks
def neO(d d':Option Nat):Bool:=match d,d' with|some d,some d'=>!Nat.beq d d'|_,_=>true
def J4(f g:Fp):Bool:=yv f.dst g.re&&(yv g.dst f.re&&(neO f.dst g.dst&&((f.v&&g.v)||(Cx g.ks g.dst f.ks&&Cy f.dst g.ks))))
def tG(f g:Fp):Bool:=!(f.b||g.b)&&J4 f g
def je(fp:Fp)(an:List Nat):List (Fp×List Nat)->Nat->Bool
 |[],_=>true
 |p::ps,j=>(fq j an||tG p.1 fp)&&je fp an ps (j+1)
def nu(i:Nat):List Edge->Bool
 |[]=>true
 |e::es=>(!Region.binds .any e||Nat.blt e.on i)&&nu i es
def yw{R:Type}(n:Nat)(k:Nat->R):R:=Nat.rec (k 0) (λm _=>k (m+1)) n
def ia{R:Type}:List Nat->(List Nat->R)->R
 |[],k=>k []
 |x::xs,k=>yw x λx=>ia xs λxs=>k (x::xs)
theorem xC{R:Type}(n:Nat)(k:Nat->R):yw n k=k n:=by cases n <;> rfl
theorem mL{R:Type}:∀ (l:List Nat) (k:List Nat->R),ia l k=k l
 |[],_=>rfl
 |x::xs,k=>by rw[ia,xC,mL xs]
def Cz:List Nat->List Nat->List Nat
 |[],l=>l
 |x::xs,l=>bif fq x l then Cz xs l else x::Cz xs l
theorem qM{m:Nat}:∀ {xs l:List Nat},m∈Cz xs l->m∈xs\/m∈l
 |[],l,h=>.inr h
 |x::xs,l,h=>by
  simp only[Cz]at h
  cases hb:fq x l
  ·rw[hb]at h
   simp only[cond_false,aH]at h
   rcases h with h|h
   ·exact .inl (by simp[h])
   ·exact(qM h).imp (λh=>by simp[h]) id
  ·rw[hb]at h
   exact(qM h).imp (λh=>by simp[h]) id
def dJ(acc:List (Fp×List Nat)):List Edge->List Nat
 |[]=>[]
 |e::es=>bif Region.binds .any e then ia (dJ acc es) λr=>bif fq e.on r then r else e.on::Cz (match acc[e.on]? with|some p=>p.2|none=>[]) r else dJ acc es
def qN(V:Env)(σ:St)(o:Oper)(σ':St):St:=bif isV V o then⟨mh σ.E o.dst σ'.E,σ.L,σ.U⟩else nq (eL σ o) o.dst σ σ'
def jT{R:Type}(V:Env)(ops:List Oper):List Oper->Nat->List (Fp×List Nat)->St->(St->Option R)->Option R
 |[],_,_,σ,K=>K σ
 |o::rest,i,acc,σ,K=>
  bif nu i o.after.toList then
   oJ σ ops o
    (λσ1=>match mvE σ1 o with
     |some e=>ia (dJ acc o.after.toList) λan=>bif je ⟨true,bX ops o++looks o,o.dst,[],false⟩ an acc 0 then
      jT V ops rest (i+1) (acc++[(⟨true,bX ops o++looks o,o.dst,[],false⟩,an)]) (σ1.bF o.dst e) K else none
     |none=>bif fS V.TT o.op then ia (dJ acc o.after.toList) λan=>(match mkE V o with
      |some p=>bif σ1.U (p.1*8)then none else bif je ⟨false,bX ops o,o.dst,[],false⟩ an acc 0 then
       jT V ops rest (i+1) (acc++[(⟨false,bX ops o,o.dst,[],false⟩,an)]) (σ1.mk' σ1.L (p.1*8) p.1 p.2) K else none
      |none=>bif je ⟨false,bX ops o,o.dst,[],true⟩ an acc 0 then
       oF V σ1 o λσ'=>jT V ops rest (i+1) (acc++[(⟨false,bX ops o,o.dst,[],true⟩,an)]) σ' K else none)
     else ia (dJ acc o.after.toList) λan=>ia (iM σ1 (looks o)) λks=>bif calm V o&&je ⟨isV V o,bX ops o++looks o,o.dst,ks,false⟩ an acc 0 then
     opD V (lg σ1 o) o λσ'=>bif kn (eL σ1 o) o.dst σ' then
      jT V ops rest (i+1) (acc++[(⟨isV V o,bX ops o++looks o,o.dst,ks,false⟩,an)]) (qN V σ1 o σ') K else none
     else none)
    (λσ1=>ia (dJ acc o.after.toList) λan=>bif je ⟨true,bX ops o,o.dst,[],false⟩ an acc 0 then
     jT V ops rest (i+1) (acc++[(⟨true,bX ops o,o.dst,[],false⟩,an)]) (σ1.bF o.dst (.cst undef)) K else none)
  else none
section
variable {R:Type} {V:Env}
def Tr.fp(V:Env)(t:Tr):Fp:=bif t.run then(match mvE t.st t.o with|some _=>⟨true,t.re,t.o.dst,[],false⟩|none=>bif fS V.TT t.o.op then⟨false,t.re,t.o.dst,[],t.wh.isSome⟩else⟨isV V t.o,t.re,t.o.dst,iM t.st (looks t.o),false⟩)else⟨true,t.re,t.o.dst,[],false⟩
theorem Tr.oR(t:Tr):(t.fp V).dst=t.o.dst:=by
 unfold Tr.fp;cases t.run
 ·rfl
 ·simp only[cond_true];split
  ·rfl
  ·cases fS V.TT t.o.op <;> rfl
theorem Tr.Hq(t:Tr):(t.fp V).re=t.re:=by
 unfold Tr.fp;cases t.run
 ·rfl
 ·simp only[cond_true];split
  ·rfl
  ·cases fS V.TT t.o.op <;> rfl
theorem CA{ks2:List Nat}{d2:Option Nat}{ks:List Nat}(h:Cx ks2 d2 ks=true){k:Nat}(hk:fq k ks=true):fq k ks2=false/\oQ k d2=true:=by
 induction ks with
 |nil=>cases hk
 |cons x xs ih=>
  simp only[Cx,ag,bq]at h
  simp only[fq,aR]at hk
  rcases hk with hk|hk
  ·rw[aV hk];exact h.1
  ·exact ih h.2 hk
theorem CB{d1:Option Nat}{ks:List Nat}(h:Cy d1 ks=true){k:Nat}(hk:fq k ks=true):oQ k d1=true:=by
 induction ks with
 |nil=>cases hk
 |cons x xs ih=>
  simp only[Cy,ag]at h
  simp only[fq,aR]at hk
  rcases hk with hk|hk
  ·rw[aV hk];exact h.1
  ·exact ih h.2 hk
theorem yx{t:Nat}{l:List Nat}(h:t∈l):fq t l=true:=by
 induction l with
 |nil=>simp at h
 |cons x xs ih=>
  simp only[fq,aR]
  rcases aH.1 h with rfl|h
  ·exact .inl (cr _)
  ·exact .inr (ih h)
theorem CC{ks1 ks2:List Nat}{d1 d2:Option Nat}(h1:Cx ks2 d2 ks1=true)(h2:Cy d1 ks2=true)(hd:neO d1 d2=true){l:Nat}(v1:rI ks1 d1 l=true)(v2:rI ks2 d2 l=true):False:=by
 unfold rI at v1 v2
 simp only[aR]at v1 v2
 rcases v1 with v1|v1
 ·obtain⟨q1,q2⟩:=CA h1 v1
  rcases v2 with v2|v2
  ·rw[q1]at v2;cases v2
  ·cases d2 with
   |none=>cases v2
   |some d2=>simp only[oQ]at q2 v2;rw[v2]at q2;cases q2
 ·cases d1 with
  |none=>cases v1
  |some d1=>
   simp only at v1
   rcases v2 with v2|v2
   ·have q:=CB h2 v2
    simp only[oQ]at q
    rw[v1]at q;cases q
   ·cases d2 with
    |none=>cases v2
    |some d2=>
     simp only[neO]at hd v2
     have e1:=aV v1
     have e2:=aV v2
     rw[<-e1,<-e2,cr]at hd
     cases hd
structure Loc(V:Env)(t:Tr):Prop where
 t1:∀ l,t.T l=true->(t.fp V).v=false/\rI (t.fp V).ks t.o.dst l=true
 t2:∀ l,t.TR l=true->rI (t.fp V).ks t.o.dst l=true
 t3:(t.fp V).b=false->t.wh=none
theorem CD{s t:Tr}(hs:Loc V s)(ht:Loc V t)(h:tG (s.fp V) (t.fp V)=true):gS s t:=by
 unfold tG J4 at h
 simp only[ag,aR,bq,eS]at h
 obtain⟨⟨hb1,hb2⟩,h1,h2,h3,h4⟩:=h
 have dis:∀ l,((s.fp V).v=false\/(t.fp V).v=false)->rI (s.fp V).ks s.o.dst l=true->rI (t.fp V).ks t.o.dst l=true->False:=by
  intro l hv v1 v2
  rcases h4 with h4|h4
  ·rcases hv with hv|hv
   ·rw[hv]at h4;exact absurd h4.1 (by simp)
   ·rw[hv]at h4;exact absurd h4.2 (by simp)
  ·exact CC h4.1 h4.2 h3 (by rw[Tr.oR];exact v1) (by rw[Tr.oR];exact v2)
 refine⟨λd hd hm=>?_,λd hd hm=>?_,λd hd hd'=>?_,λl a b=>dis l (.inl (hs.t1 l a).1) (hs.t1 l a).2 (ht.t2 l b),λl a b=>dis l (.inr (ht.t1 l a).1) (hs.t2 l b) (ht.t1 l a).2,λl a b=>dis l (.inl (hs.t1 l a).1) (hs.t1 l a).2 (ht.t1 l b).2,hs.t3 hb1,ht.t3 hb2⟩
 ·have e:(s.fp V).dst=some d:=(Tr.oR s).trans hd
  rw[e]at h1
  simp only[yv,bq]at h1
  have:fq d t.re=true:=yx hm
  rw[show(t.fp V).re=t.re from Tr.Hq t]at h1
  rw[this]at h1;cases h1
 ·have e:(t.fp V).dst=some d:=(Tr.oR t).trans hd
  rw[e]at h2
  simp only[yv,bq]at h2
  have:fq d s.re=true:=yx hm
  rw[show(s.fp V).re=s.re from Tr.Hq s]at h2
  rw[this]at h2;cases h2
 ·have e1:(s.fp V).dst=some d:=(Tr.oR s).trans hd
  have e2:(t.fp V).dst=some d:=(Tr.oR t).trans hd'
  rw[e1,e2]at h3
  simp[neO,cr]at h3
theorem AE{fp:Fp}{an:List Nat}:∀ {acc:List (Fp×List Nat)} {j:Nat},je fp an acc j=true->∀ k p,acc[k]?=some p->j+k∉an->tG p.1 fp=true:=by
 intro acc
 induction acc with
 |nil=>intro j _ k p h;simp at h
 |cons q acc ih=>
  intro j h k p hk hn
  simp only[je,ag,aR]at h
  cases k with
  |zero=>
   simp at hk
   subst hk
   rcases h.1 with h1|h1
   ·exact absurd (qD h1) hn
   ·exact h1
  |succ k=>
   simp at hk
   exact ih h.2 k p hk (by rw[show j+1+k=j+(k+1) by omega];exact hn)
theorem vG{i:Nat}{es:List Edge}(h:nu i es=true):∀ e∈es,Region.binds .any e=true->e.on<i:=by
 induction es with
 |nil=>intro e he;simp at he
 |cons x xs ih=>
  intro e he hb
  simp only[nu,ag,aR,bq]at h
  rcases aH.1 he with rfl|he
  ·rcases h.1 with h1|h1
   ·rw[hb]at h1;cases h1
   ·exact fH h1
  ·exact ih h.2 e he hb
theorem AF{acc:List (Fp×List Nat)}{es:List Edge}{m:Nat}(h:m∈dJ acc es):∃ e,e∈es/\Region.binds .any e=true/\(m=e.on\/∃ p,acc[e.on]?=some p/\m∈p.2):=by
 induction es with
 |nil=>simp[dJ]at h
 |cons x xs ih=>
  simp only[dJ]at h
  cases hb:Region.binds .any x
  ·rw[hb]at h
   obtain⟨e,q1,q2,q3⟩:=ih h
   exact⟨e,by simp[q1],q2,q3⟩
  ·rw[hb]at h
   simp only[cond_true,mL]at h
   have tail:m∈dJ acc xs->∃ e,e∈x::xs/\Region.binds .any e=true/\(m=e.on\/∃ p,acc[e.on]?=some p/\m∈p.2):=λh=>by
    obtain⟨e,q1,q2,q3⟩:=ih h
    exact⟨e,by simp[q1],q2,q3⟩
   cases hm:fq x.on (dJ acc xs)
   ·rw[hm]at h
    simp only[cond_false,aH]at h
    rcases h with h|h
    ·exact⟨x,by simp,hb,.inl h⟩
    ·rcases qM h with h|h
     ·cases ha:acc[x.on]? with
      |none=>rw[ha]at h;simp at h
      |some p=>rw[ha]at h;exact⟨x,by simp,hb,.inr ⟨p,ha,h⟩⟩
     ·exact tail h
   ·rw[hm]at h;exact tail h
theorem vH{σ:St}{ops:List Oper}{o:Oper}{Ky Kn:St->Option R}{r:R}(hk:oJ σ ops o Ky Kn=some r):(qL σ ops o=some true/\Ky σ=some r)\/(qL σ ops o=some false/\Kn σ=some r):=by
 unfold oJ at hk
 unfold qL
 split at hk
 ·rename_i hg;rw[hg];exact .inl ⟨rfl,hk⟩
 ·rename_i j want hg
  rw[hg]
  simp only
  cases hs:kX ops j with
  |none=>rw[hs]at hk;cases hk
  |some s=>
  rw[hs]at hk
  simp only at hk |-
  split at hk
  ·rename_i b hE
   rw[hE]
   dsimp only
   split at hk
   ·rw[lW hE]at hk
    cases want
    ·exact .inr ⟨rfl,hk⟩
    ·exact .inl ⟨rfl,hk⟩
   ·rw[lW hE]at hk
    cases want
    ·exact .inl ⟨rfl,hk⟩
    ·exact .inr ⟨rfl,hk⟩
  ·rename_i v hE
   rw[hE]
   simp only
   split at hk
   ·rename_i b
    cases b <;> cases want
    ·exact .inl ⟨rfl,hk⟩
    ·exact .inr ⟨rfl,hk⟩
    ·exact .inr ⟨rfl,hk⟩
    ·exact .inl ⟨rfl,hk⟩
   ·rename_i hnb
    refine .inr ⟨?_,hk⟩
    split
    ·rename_i b;exact absurd rfl (hnb b)
    ·rfl
  ·cases hk
end
section
variable {R:Type} {V:Env} {ops:List Oper} {σ0:St}
theorem gA{D:Nat->Bool}:∀ (tr:List Tr) (m:Nat) (σ:St) (t:Tr),b9 D (tr++[t]) m σ=bif D (m+tr.length)then t.U (b9 D tr m σ)else b9 D tr m σ:=by
 intro tr
 induction tr with
 |nil=>intro m σ t;simp only[bJ,b9,eX,fM]
 |cons s tr ih=>
  intro m σ t
  simp only[dP,b9,bU]
  rw[ih,show m+1+tr.length=m+(tr.length+1) by omega]
theorem eP{tr:List Tr}{t:Tr}{i:Nat}{s:Tr}(h:(tr++[t])[i]?=some s):(i<tr.length/\tr[i]?=some s)\/(i=tr.length/\s=t):=by
 rcases av i tr.length with hi|hi
 ·rw[ig hi]at h;exact .inl ⟨hi,h⟩
 ·rw[jn hi]at h
  cases hk:i-tr.length with
  |zero=>rw[hk]at h;simp at h;exact .inr ⟨by omega,h.symm⟩
  |succ n=>rw[hk]at h;simp at h
theorem Io{tr:List Tr}{i:Nat}{s:Tr}(h:tr[i]?=some s):i<tr.length:=(bB.1 h).1
theorem vI{tr:List Tr}{t:Tr}{i:Nat}{s:Tr}(h:tr[i]?=some s):(tr++[t])[i]?=some s:=by
 rw[ig (Io h)];exact h
theorem sj{tr:List Tr}{t:Tr}{i:Nat}(h:i<=tr.length):(tr++[t]).take i=tr.take i:=eQ h
section
variable {R':Type} (G:R->Option R')
theorem iy(V:Env)(t:TypeId)(K:Ty->IntKind->Option R):(kW V t K).bind G=kW V t λa b=>(K a b).bind G:=by
 unfold kW
 repeat' split
 all_goals rfl
theorem sk(σ:St)(e:aj)(k v:Ty)(K:List (k.T×v.T)->Option R):(tp σ e k v K).bind G=tp σ e k v λx=>(K x).bind G:=by
 unfold tp
 split
 ·rw[dY]
  congr 1
  funext l b π c
  split <;> rfl
 ·exact bD G _ _ _
theorem oS(σ:St)(e:aj)(k v:Ty)(K:Nat->Lab->List Stp->List (k.T×v.T)->Option R):(rG σ e k v K).bind G=rG σ e k v λl b π x=>(K l b π x).bind G:=by
 unfold rG
 split
 ·rw[dY]
  congr 1
  funext l b π c
  rw[aB]
  congr 1
  split <;> rfl
 ·rfl
theorem lh(σ:St)(l:Nat)(b:Lab)(π:List Stp)(k v:Ty)(y:List (k.T×v.T))(K:St->Option R):(jh σ l b π k v y K).bind G=jh σ l b π k v y λx=>(K x).bind G:=by
 unfold jh
 split
 ·rw[lY]
 ·rfl
theorem AG(V:Env)(σ:St)(o:Oper)(K:St->Option R):(oF V σ o K).bind G=oF V σ o λx=>(K x).bind G:=by
 unfold oF
 split
 ·split
  ·rw[iy]
   congr 1
   funext k q
   rw[aB]
   rfl
  ·rfl
 ·rw[iy]
  congr 1
  funext k q
  split
  ·split
   ·rw[sk]
    congr 1
    funext l
    rw[bD]
    congr 1
    funext y
    split <;> rfl
   ·rfl
  ·rfl
 ·rw[iy]
  congr 1
  funext k q
  split
  ·split
   ·split
    ·rw[oS]
     congr 1
     funext l b π xs
     rw[bD]
     congr 1
     funext y
     rw[bD]
     congr 1
     funext z
     rw[lh]
    ·rfl
   ·rfl
  ·rfl
 ·rw[iy]
  congr 1
  funext k q
  split
  ·split
   ·rw[oS]
    congr 1
    funext l b π xs
    rw[bD]
    congr 1
    funext y
    rw[aB,lh]
    rfl
   ·rfl
  ·rfl
 ·rw[iy]
  congr 1
  funext k q
  split
  ·split
   ·split
    ·rw[oS]
     congr 1
     funext l b π xs
     rw[bD]
     congr 1
     funext y
     rw[aB,bD]
     congr 1
     congr 1
     funext z
     rw[lh]
    ·rfl
   ·rfl
  ·rfl
 ·split
  ·rw[iy]
   congr 1
   funext k q
   split
   ·rw[sk]
    congr 1
    funext l
    rw[aB]
    rfl
   ·rfl
  ·rfl
 ·rfl
end
theorem Ip{V:Env}{σ σ':St}{o:Oper}(h:oF V σ o some=some σ'):∀ j,o.dst≠some j->σ'.E j=σ.E j:=by
 have sv:∀ (σ1:St) (e:aj),σ1.E=σ.E->∀ j,o.dst≠some j->(σ1.bF o.dst e).E j=σ.E j:=by
  intro σ1 e h1 j hj
  unfold St.bF
  split
  ·rename_i d hd
   exact(aI _ _ (λe=>hj (by rw[hd,e]))).trans (congrFun h1 j)
  ·exact congrFun h1 j
 have stt:∀ (σ1:St) (es:List aj),σ1.E=σ.E->∀ j,o.dst≠some j->(σ1.kU o.dst es).E j=σ.E j:=by
  intro σ1 e h1 j hj
  unfold St.kU
  split
  ·rename_i d hd
   exact(aI _ _ (λe=>hj (by rw[hd,e]))).trans (congrFun h1 j)
  ·exact congrFun h1 j
 have su:∀ (σ1:St),σ1.E=σ.E->∀ j,o.dst≠some j->(σ1.iS o.dst).E j=σ.E j:=by
  intro σ1 h1 j hj
  unfold St.iS
  split
  ·rename_i d hd
   exact(aI _ _ (λe=>hj (by rw[hd,e]))).trans (congrFun h1 j)
  ·exact congrFun h1 j
 have ms:∀ (l:Nat) (b:Lab) (π:List Stp) (k v:Ty) (y:List (k.T×v.T)) (K:St->Option St),jh σ l b π k v y K=some σ'->∃ L,K (σ.iI L)=some σ':=by
  intro l b π k v y K h
  unfold jh at h
  split at h
  ·rw[gH]at h
   obtain⟨x',_,h⟩:=bN.1 h
   exact⟨_,h⟩
  ·cases h
 have mt:∀ (t:TypeId) (K:Ty->IntKind->Option St),kW V t K=some σ'->∃ k q,K k q=some σ':=by
  intro t K h
  unfold kW at h
  repeat' split at h
  all_goals first
   |exact⟨_,_,h⟩
   |cases h
 have mr:∀ (e:aj) (k v:Ty) (K:List (k.T×v.T)->Option St),tp σ e k v K=some σ'->∃ x,K x=some σ':=by
  intro e k v K h
  unfold tp at h
  split at h
  ·obtain⟨l,b,π,c,h⟩:=tF h
   split at h
   ·exact⟨_,h⟩
   ·cases h
  ·obtain⟨x,h⟩:=kT h
   exact⟨x,h⟩
 have mw:∀ (e:aj) (k v:Ty) (K:Nat->Lab->List Stp->List (k.T×v.T)->Option St),rG σ e k v K=some σ'->∃ l b π x,K l b π x=some σ':=by
  intro e k v K h
  unfold rG at h
  split at h
  ·obtain⟨l,b,π,c,h⟩:=tF h
   simp only[cH]at h
   split at h
   ·split at h
    ·exact⟨_,_,_,_,h⟩
    ·cases h
   ·cases h
  ·cases h
 unfold oF at h
 split at h
 ·split at h
  ·rename_i d hd
   obtain⟨k,q,h⟩:=mt _ _ h
   simp only[cH]at h
   split at h
   ·cases h
   ·injection h with h
    intro j hj
    rw[<-h]
    exact aI _ _ (λe=>hj (by rw[hd,e]))
  ·cases h
 ·obtain⟨k,q,h⟩:=mt _ _ h
  split at h
  case h_2=>cases h
  split at h
  case h_2=>cases h
  obtain⟨l,h⟩:=mr _ _ _ _ h
  obtain⟨y,h⟩:=kT h
  split at h
  ·injection h with h;rw[<-h];exact sv σ _ rfl
  ·injection h with h;rw[<-h];exact stt σ _ rfl
 ·obtain⟨k,q,h⟩:=mt _ _ h
  split at h
  case h_2=>cases h
  split at h
  case h_2=>cases h
  split at h
  case h_2=>cases h
  obtain⟨l,b,π,xs,h⟩:=mw _ _ _ _ h
  obtain⟨y,h⟩:=kT h
  obtain⟨z,h⟩:=kT h
  obtain⟨L,h⟩:=ms _ _ _ _ _ _ _ h
  injection h with h;rw[<-h];exact su _ rfl
 ·obtain⟨k,q,h⟩:=mt _ _ h
  split at h
  case h_2=>cases h
  split at h
  case h_2=>cases h
  obtain⟨l,b,π,xs,h⟩:=mw _ _ _ _ h
  obtain⟨y,h⟩:=kT h
  simp only[cH]at h
  split at h
  case isFalse=>cases h
  obtain⟨L,h⟩:=ms _ _ _ _ _ _ _ h
  injection h with h;rw[<-h];exact stt _ _ rfl
 ·obtain⟨k,q,h⟩:=mt _ _ h
  split at h
  case h_2=>cases h
  split at h
  case h_2=>cases h
  split at h
  case h_2=>cases h
  obtain⟨l,b,π,xs,h⟩:=mw _ _ _ _ h
  obtain⟨s,h⟩:=kT h
  simp only[cH]at h
  split at h
  case isFalse=>cases h
  obtain⟨z,h⟩:=kT h
  obtain⟨L,h⟩:=ms _ _ _ _ _ _ _ h
  injection h with h;rw[<-h];exact su _ rfl
 ·split at h
  case h_2=>cases h
  obtain⟨k,q,h⟩:=mt _ _ h
  split at h
  case h_2=>cases h
  obtain⟨l,h⟩:=mr _ _ _ _ h
  simp only[cH]at h
  split at h
  case isFalse=>cases h
  injection h with h;rw[<-h];exact sv σ _ rfl
 ·cases h
theorem GoodP.snoc{tr:List Tr}(G:GoodP V ops tr σ0){t:Tr}(h1:ops[tr.length]?=some t.o)(h2:t.st=b9 (λ_=>true) tr 0 σ0)(h3:qL t.st ops t.o=some t.run/\∀ s∈bX ops t.o,s∈t.re)
 (h4:t.run=true->jd V t)
 (h5:t.run=false->∀ σ,σ.bF t.o.dst (.cst undef)=t.U σ) (h6:∀ e,e∈t.o.after->Region.binds .any e=true->e.on<tr.length)
 (h7:∀ m,m∈t.anc->∃ e:Edge,e∈t.o.after/\Region.binds .any e=true/\(m=e.on\/∃ s:Tr,tr[e.on]?=some s/\m∈s.anc))
 (h8:∀ i s,tr[i]?=some s->i∉t.anc->gS s t) (h9:∀ σ',t.wh=some σ'->∀ j,t.o.dst≠some j->σ'.E j=t.st.E j):GoodP V ops (tr++[t]) σ0 where
 op:=λi s hs=>by
  rcases eP hs with⟨_,hs⟩|⟨rfl,rfl⟩
  ·exact G.op i s hs
  ·exact h1
 st:=λi s hs=>by
  rcases eP hs with⟨hi,hs⟩|⟨rfl,rfl⟩
  ·rw[sj (by omega)];exact G.st i s hs
  ·rw[sj (ar _),cN];exact h2
 gv:=λi s hs=>by
  rcases eP hs with⟨_,hs⟩|⟨rfl,rfl⟩
  ·exact G.gv i s hs
  ·exact h3
 run:=λi s hs=>by
  rcases eP hs with⟨_,hs⟩|⟨rfl,rfl⟩
  ·exact G.run i s hs
  ·exact h4
 skip:=λi s hs=>by
  rcases eP hs with⟨_,hs⟩|⟨rfl,rfl⟩
  ·exact G.skip i s hs
  ·exact h5
 AA:=λi s e hs he hb=>by
  rcases eP hs with⟨_,hs⟩|⟨rfl,rfl⟩
  ·exact G.AA i s e hs he hb
  ·exact h6 e he hb
 anc:=λi s m hs hm=>by
  rcases eP hs with⟨_,hs⟩|⟨rfl,rfl⟩
  ·obtain⟨q1,e,q2,q3,q4⟩:=G.anc i s m hs hm
   refine⟨q1,e,q2,q3,q4.imp id ?_⟩
   rintro⟨s2,q5,q6⟩
   exact⟨s2,vI q5,q6⟩
  ·obtain⟨e,q2,q3,q4⟩:=h7 m hm
   have hlt:=h6 e q2 q3
   refine⟨?_,e,q2,q3,q4.imp id ?_⟩
   ·rcases q4 with rfl|⟨s2,q5,q6⟩
    ·exact hlt
    ·have:=(G.anc _ s2 m q5 q6).1;omega
   ·rintro⟨s2,q5,q6⟩
    exact⟨s2,vI q5,q6⟩
 wE:=λi s σ' hs hw=>by
  rcases eP hs with⟨_,hs⟩|⟨rfl,rfl⟩
  ·exact G.wE i s σ' hs hw
  ·exact h9 σ' hw
 apart:=λi j s u hij hs hu hn=>by
  rcases eP hu with⟨hj,hu⟩|⟨rfl,rfl⟩
  ·rcases eP hs with⟨_,hs⟩|⟨rfl,rfl⟩
   ·exact G.apart i j s u hij hs hu hn
   ·omega
  ·rcases eP hs with⟨_,hs⟩|⟨e,rfl⟩
   ·exact h8 i s hs hn
   ·omega
theorem CE{σ:St}{dst:Option Nat}{e:aj}:σ.bF dst e=⟨match dst with|some d=>upd σ.E d (some (.one e))|none=>σ.E,σ.L,σ.U⟩:=by
 cases dst <;> rfl
theorem xD{K:St->Option R}{r:R}:∀ (rest:List Oper) (i:Nat) (acc:List (Fp×List Nat)) (σ:St) (tr0:List Tr),jT V ops rest i acc σ K=some r->ops.drop i=rest->tr0.length=i->acc=tr0.map (λt=>((t.fp V),t.anc))->σ=b9 (λ_=>true) tr0 0 σ0->GoodP V ops tr0 σ0->(∀ t∈tr0,Loc V t)->
 ∃ tr,Good V ops tr σ0/\K (b9 (λ_=>true) tr 0 σ0)=some r:=by
 intro rest
 induction rest with
 |nil=>
  intro i acc σ tr0 hk hd hl ha hσ G _
  subst hσ
  have hle:ops.length<=i:=by
   have:=congrArg List.length hd
   simp at this;omega
  have hge:i<=ops.length:=by
   rcases cM tr0.length with h0|h0
   ·omega
   ·have⟨t,ht⟩:∃ t,tr0[tr0.length-1]?=some t:=⟨tr0[tr0.length-1]'(by omega),by simp[show tr0.length-1<tr0.length by omega]⟩
    have:=(bB.1 (G.op _ t ht)).1
    omega
  exact⟨tr0,⟨G,by omega⟩,hk⟩
 |cons o rest ih=>
  intro i acc σ tr0 hk hd hl ha hσ G vD
  have hoi:ops[i]?=some o:=by
   have:=congrArg (·[0]?) hd
   simpa using this
  have hd':ops.drop (i+1)=rest:=by rw[<-List.tail_drop,hd];rfl
  simp only[jT,mL]at hk
  cases hed:nu i o.after.toList
  ·rw[hed]at hk;cases hk
  rw[hed]at hk
  simp only[cond_true]at hk
  have vJ:∀ e,e∈o.after->Region.binds .any e=true->e.on<tr0.length:=λe he hb=>by rw[hl];exact vG hed e (by simpa using he) hb
  have vF:∀ m,m∈dJ acc o.after.toList->∃ e:Edge,e∈o.after/\Region.binds .any e=true/\(m=e.on\/∃ s:Tr,tr0[e.on]?=some s/\m∈s.anc):=λm hm=>by
   obtain⟨e,q1,q2,q3⟩:=AF hm
   refine⟨e,by simpa using q1,q2,q3.imp id ?_⟩
   rintro⟨p,q4,q5⟩
   rw[ha,cn]at q4
   obtain⟨s,q6,rfl⟩:=nZ.1 q4
   exact⟨s,q6,q5⟩
  have hap:∀ (t:Tr),Loc V t->t.anc=dJ acc o.after.toList->je (t.fp V) (dJ acc o.after.toList) acc 0=true->∀ k s,tr0[k]?=some s->k∉t.anc->gS s t:=λt ht hta hok k s hs hn=>by
   refine CD (vD s (eT hs)) ht (AE hok k ((s.fp V),s.anc) (by rw[ha,cn,hs];rfl) (by rw[dF,<-hta];exact hn))
  rcases vH hk with⟨hg,hk⟩|⟨hg,hk⟩
  ·cases hmv:mvE σ o with
   |some e0=>
   rw[hmv]at hk
   simp only at hk
   cases hc:je ⟨true,bX ops o++looks o,o.dst,[],false⟩ (dJ acc o.after.toList) acc 0
   ·rw[hc]at hk;cases hk
   rw[hc]at hk
   simp only[cond_true]at hk
   let t:Tr:={o:=o,st:=σ,run:=true,e:=some (.one e0),T:=λ_=>false,L':=λ_=>none,U':=λ_=>false,re:=bX ops o++looks o,TR:=λ_=>false,anc:=dJ acc o.after.toList}
   have hfp:(t.fp V)=⟨true,bX ops o++looks o,o.dst,[],false⟩:=by simp[t,Tr.fp,hmv]
   have hlt:Loc V t:=⟨λl hl=>(by cases hl),λl hl=>(by cases hl),λ_=>rfl⟩
   have hU:∀ σ1:St,σ1.bF o.dst e0=t.U σ1:=λσ1=>CE
   refine ih (i+1) _ _ (tr0++[t]) hk hd' (by simp[hl]) (by rw[ha,dQ,<-hfp,<-ha];rfl) (by rw[gA,<-hσ];exact hU σ) ?_ (λs hs=>by
    rcases aC.1 hs with hs|hs
    ·exact vD s hs
    ·simp at hs;rw[hs];exact hlt)
   exact G.snoc (by rw[hl];exact hoi) hσ ⟨hg,λs hs=>aC.2 (.inl hs)⟩ (λ_=>jd.mv (t:=t) hmv (λx hx=>aC.2 (.inr hx)) hU) (λh=>(by cases h)) vJ vF (hap t hlt rfl (by rw[hfp];exact hc)) (λ_ h=>by cases h)
   |none=>
   rw[hmv]at hk
   simp only at hk
   cases hmo:fS V.TT o.op
   case true=>
    rw[hmo]at hk
    simp only[cond_true]at hk
    cases hmk:mkE V o with
    |some p=>
     obtain⟨d,b⟩:=p
     rw[hmk]at hk
     simp only at hk
     cases hU:σ.U (d*8)
     case true=>rw[hU]at hk;cases hk
     rw[hU]at hk
     simp only[cond_false]at hk
     cases hc:je ⟨false,bX ops o,o.dst,[],false⟩ (dJ acc o.after.toList) acc 0
     ·rw[hc]at hk;cases hk
     rw[hc]at hk
     simp only[cond_true]at hk
     obtain⟨hd0,_⟩:=Cw hmk
     let t:Tr:={o:=o,st:=σ,run:=true,e:=some (.one (.hdr (d*8) b.v [] ⟨b.t,b.x⟩)),T:=λl=>Nat.beq l (d*8),L':=λ_=>some b,U':=λ_=>true,re:=bX ops o,TR:=λl=>Nat.beq l (d*8),anc:=dJ acc o.after.toList}
     have hfp:(t.fp V)=⟨false,bX ops o,o.dst,[],false⟩:=by simp[t,Tr.fp,hmv,hmo]
     have J5:∀ l,Nat.beq l (d*8)=true->rI [] o.dst l=true:=by
      intro l hl
      rw[aV hl,hd0]
      simp[rI,fq]
     have hlt:Loc V t:=⟨λl hl=>by rw[hfp];exact⟨rfl,J5 l hl⟩,λl hl=>by rw[hfp];exact J5 l hl,λ_=>rfl⟩
     have hUU:∀ σ1:St,σ1.mk' σ1.L (d*8) d b=t.U σ1:=by
      intro σ1
      have hU1:(λj=>Nat.beq j (d*8)||σ1.U j)=iT (λl=>Nat.beq l (d*8)) (λ_=>true) σ1.U:=by
       funext j
       show _=bif Nat.beq j (d*8)then true else σ1.U j
       cases Nat.beq j (d*8) <;> rfl
      show St.mk _ _ _=St.mk _ _ _
      rw[hU1]
      simp only[t,hd0]
      rfl
     refine ih (i+1) _ _ (tr0++[t]) hk hd' (by simp[hl]) (by rw[ha,dQ,<-hfp,<-ha];rfl) (by rw[gA,<-hσ];exact hUU σ) ?_ (λs hs=>by
      rcases aC.1 hs with hs|hs
      ·exact vD s hs
      ·simp at hs;rw[hs];exact hlt)
     exact G.snoc (by rw[hl];exact hoi) hσ ⟨hg,λs hs=>hs⟩ (λ_=>jd.mk (t:=t) hmk hU (cr _) hUU) (λh=>(by cases h)) vJ vF (hap t hlt rfl (by rw[hfp];exact hc)) (λ_ h=>by cases h)
    |none=>
     rw[hmk]at hk
     simp only at hk
     cases hc:je ⟨false,bX ops o,o.dst,[],true⟩ (dJ acc o.after.toList) acc 0
     ·rw[hc]at hk;cases hk
     rw[hc]at hk
     simp only[cond_true]at hk
     have hb:=AG (λσ'=>jT V ops rest (i+1) (acc++[(⟨false,bX ops o,o.dst,[],true⟩,dJ acc o.after.toList)]) σ' K) V σ o some
     rw[show(oF V σ o λx=>(some x).bind λσ'=>jT V ops rest (i+1) (acc++[(⟨false,bX ops o,o.dst,[],true⟩,dJ acc o.after.toList)]) σ' K)=some r from hk]at hb
     obtain⟨σ',hop,hk⟩:=bN.1 hb
     let t:Tr:={o:=o,st:=σ,run:=true,e:=none,T:=λ_=>false,L':=λ_=>none,U':=λ_=>false,re:=bX ops o,TR:=λ_=>false,anc:=dJ acc o.after.toList,wh:=some σ'}
     have hfp:(t.fp V)=⟨false,bX ops o,o.dst,[],true⟩:=by simp[t,Tr.fp,hmv,hmo]
     have hlt:Loc V t:=⟨λl hl=>(by cases hl),λl hl=>(by cases hl),λh=>by rw[hfp]at h;cases h⟩
     refine ih (i+1) _ _ (tr0++[t]) hk hd' (by simp[hl]) (by rw[ha,dQ,<-hfp,<-ha];rfl) (by rw[gA];rfl) ?_ (λs hs=>by
      rcases aC.1 hs with hs|hs
      ·exact vD s hs
      ·simp at hs;rw[hs];exact hlt)
     exact G.snoc (by rw[hl];exact hoi) hσ ⟨hg,λs hs=>hs⟩ (λ_=>jd.wh (t:=t) rfl hop) (λh=>(by cases h)) vJ vF (hap t hlt rfl (by rw[hfp];exact hc)) (λσ2 h=>by injection h with h;rw[<-h];exact Ip hop)
   rw[hmo]at hk
   simp only[cond_false]at hk
   cases hc:calm V o&&je ⟨isV V o,bX ops o++looks o,o.dst,iM σ (looks o),false⟩ (dJ acc o.after.toList) acc 0
   ·rw[hc]at hk;cases hk
   rw[hc]at hk
   simp only[cond_true]at hk
   simp only[ag]at hc
   have hb:=vz (λσ'=>bif kn (eL σ o) o.dst σ' then jT V ops rest (i+1) (acc++[(⟨isV V o,bX ops o++looks o,o.dst,iM σ (looks o),false⟩,dJ acc o.after.toList)]) (qN V σ o σ') K else none) V (lg σ o) o some
   rw[show(opD V (lg σ o) o λe=>(some e).bind λσ'=>bif kn (eL σ o) o.dst σ' then jT V ops rest (i+1) (acc++[(⟨isV V o,bX ops o++looks o,o.dst,iM σ (looks o),false⟩,dJ acc o.after.toList)]) (qN V σ o σ') K else none)=some r from hk]at hb
   obtain⟨σ',hop,hk⟩:=bN.1 hb
   cases hin:kn (eL σ o) o.dst σ'
   ·rw[hin]at hk;cases hk
   rw[hin]at hk
   simp only[cond_true]at hk
   let t:Tr:={o:=o,st:=σ,run:=true,e:=match o.dst with|some d=>σ'.E d|none=>none,T:=λl=>bif isV V o then false else eL σ o l,L':=σ'.L,U':=σ'.U,re:=bX ops o++looks o,TR:=eL σ o,anc:=dJ acc o.after.toList}
   have hfp:(t.fp V)=⟨isV V o,bX ops o++looks o,o.dst,iM σ (looks o),false⟩:=by simp[t,Tr.fp,hmv,hmo]
   have hlt:Loc V t:=by
    refine⟨λl hl=>?_,λl hl=>by rw[hfp];exact hl,λ_=>rfl⟩
    rw[hfp]
    simp only[t]at hl
    cases hv:isV V o
    ·rw[hv]at hl;exact⟨rfl,hl⟩
    ·rw[hv]at hl;cases hl
   have hU:∀ σ1,Ag t σ1 σ->nq (eL σ o) o.dst σ1 σ'=t.U σ1:=by
    intro σ1 hag
    have hE:mh σ1.E o.dst σ'.E=match o.dst with|some d=>upd σ1.E d (match o.dst with|some d=>σ'.E d|none=>none)|none=>σ1.E:=by
     unfold mh
     cases o.dst <;> rfl
    unfold nq Tr.U
    simp only[t]
    cases hv:isV V o
    ·simp only[cond_false]
     rw[hE]
     try rfl
    ·simp only[cond_true]
     obtain⟨he1,he2⟩:=Fj hv hop
     have e1:σ'.L=gX σ.L (eL σ o):=he1
     have e2:σ'.U=gY σ.U (eL σ o):=he2
     have f1:jR (eL σ o) σ'.L σ1.L=jR (λ_=>false) σ'.L σ1.L:=by
      funext l
      unfold jR
      cases hvl:eL σ o l
      ·rfl
      ·rw[e1];simp only[gX,hvl,cond_true,cond_false];exact(hag.2 l hvl).1.symm
     have f2:iT (eL σ o) σ'.U σ1.U=iT (λ_=>false) σ'.U σ1.U:=by
      funext l
      unfold iT
      cases hvl:eL σ o l
      ·rfl
      ·rw[e2];simp only[gY,hvl,cond_true,cond_false];exact(hag.2 l hvl).2.symm
     rw[hE,f1,f2]
     try rfl
   have CF:qN V σ o σ'=t.U σ:=by
    unfold qN
    cases hv:isV V o
    ·exact hU σ (Ag.refl _ _)
    ·simp only[cond_true,Tr.U,t,hv]
     unfold mh
     cases o.dst <;> rfl
   refine ih (i+1) _ _ (tr0++[t]) hk hd' (by simp[hl]) (by rw[ha,dQ,<-hfp,<-ha];rfl) (by rw[gA,<-hσ];exact CF) ?_ (λs hs=>by
    rcases aC.1 hs with hs|hs
    ·exact vD s hs
    ·simp at hs;rw[hs];exact hlt)
   exact G.snoc (by rw[hl];exact hoi) hσ ⟨hg,λs hs=>aC.2 (.inl hs)⟩ (λ_=>jd.of (t:=t) ⟨λx hx=>aC.2 (.inr hx),λl hl=>hl,hc.1,σ',hop,hin,hU⟩) (λh=>(by cases h)) vJ vF (hap t hlt rfl (by rw[hfp];exact hc.2)) (λ_ h=>by cases h)
  ·cases hc:je ⟨true,bX ops o,o.dst,[],false⟩ (dJ acc o.after.toList) acc 0
   ·rw[hc]at hk;cases hk
   rw[hc]at hk
   simp only[cond_true]at hk
   let t:Tr:={o:=o,st:=σ,run:=false,e:=some (.one (.cst undef)),T:=λ_=>false,L':=λ_=>none,U':=λ_=>false,re:=bX ops o,TR:=λ_=>false,anc:=dJ acc o.after.toList}
   have hfp:(t.fp V)=⟨true,bX ops o,o.dst,[],false⟩:=by simp[t,Tr.fp]
   have hlt:Loc V t:=⟨λl hl=>(by cases hl),λl hl=>(by cases hl),λ_=>rfl⟩
   have hU:∀ σ1:St,σ1.bF o.dst (.cst undef)=t.U σ1:=λσ1=>CE
   refine ih (i+1) _ _ (tr0++[t]) hk hd' (by simp[hl]) (by rw[ha,dQ,<-hfp,<-ha];rfl) (by rw[gA,<-hσ];exact hU σ) ?_ (λs hs=>by
    rcases aC.1 hs with hs|hs
    ·exact vD s hs
    ·simp at hs;rw[hs];exact hlt)
   exact G.snoc (by rw[hl];exact hoi) hσ ⟨hg,λs hs=>hs⟩ (λh=>(by cases h)) (λ_=>hU) vJ vF (hap t hlt rfl (by rw[hfp];exact hc)) (λ_ h=>by cases h)
end
inductive Alt where
 |leaf (perm:List Nat)
 |split (i j:Nat) (a b:Alt)
def Lin(E:Nat->Nat->Prop)(n:Nat)(D:Nat->Prop):List Nat->Prop
 |[]=>∀ k,k<n->D k
 |i::r=>i<n/\¬D i/\(∀ m,m<n->E m i->D m)/\Lin E n (λk=>D k\/k=i) r
section
variable {E E':Nat->Nat->Prop} {n:Nat}
theorem Lin.congr:∀ {r:List Nat} {D D':Nat->Prop},(∀ k,k<n->(D k↔D' k))->Lin E n D r->Lin E n D' r:=by
 intro r
 induction r with
 |nil=>intro D D' h hl k hk;exact(h k hk).1 (hl k hk)
 |cons i r ih=>
  intro D D' h hl
  obtain⟨h1,h2,h3,h4⟩:=hl
  exact⟨h1,λhd=>h2 ((h i h1).2 hd),λm hm he=>(h m hm).1 (h3 m hm he),ih (λk hk=>or_congr (h k hk) Iff.rfl) h4⟩
theorem Lin.add{i j:Nat}:∀ {r:List Nat} {D:Nat->Prop},D i->Lin E n D r->Lin (λm k=>E m k\/(m=i/\k=j)) n D r:=by
 intro r
 induction r with
 |nil=>intro D _ h;exact h
 |cons x r ih=>
  intro D hD h
  obtain⟨h1,h2,h3,h4⟩:=h
  exact⟨h1,h2,λm hm he=>he.elim (h3 m hm) (λe=>e.1 ▸ hD),ih (.inl hD) h4⟩
theorem Lin.split{i j:Nat}(hij:i≠j)(hi:i<n)(hj:j<n):∀ {r:List Nat} {D:Nat->Prop},¬D i->¬D j->Lin E n D r->Lin (λm k=>E m k\/(m=i/\k=j)) n D r\/Lin (λm k=>E m k\/(m=j/\k=i)) n D r:=by
 intro r
 induction r with
 |nil=>intro D h1 _ h;exact absurd (h i hi) h1
 |cons x r ih=>
  intro D hi' hj' h
  obtain⟨h1,h2,h3,h4⟩:=h
  by_cases ei:x=i
  ·subst ei
   exact .inl ⟨h1,h2,λm hm he=>he.elim (h3 m hm) (λe=>absurd e.2 hij),Lin.add (.inr rfl) h4⟩
  ·by_cases ej:x=j
   ·subst ej
    exact .inr ⟨h1,h2,λm hm he=>he.elim (h3 m hm) (λe=>absurd e.2 (Ne.symm hij)),Lin.add (.inr rfl) h4⟩
   ·rcases ih (D:=λk=>D k\/k=x) (λh=>h.elim hi' (λe=>ei e.symm)) (λh=>h.elim hj' (λe=>ej e.symm)) h4 with h4|h4
    ·exact .inl ⟨h1,h2,λm hm he=>he.elim (h3 m hm) (λe=>absurd e.2 ej),h4⟩
    ·exact .inr ⟨h1,h2,λm hm he=>he.elim (h3 m hm) (λe=>absurd e.2 ei),h4⟩
theorem Lin.mono(hE:∀ m k,E' m k->E m k):∀ {r:List Nat} {D:Nat->Prop},Lin E n D r->Lin E' n D r:=by
 intro r
 induction r with
 |nil=>intro D h;exact h
 |cons x r ih=>intro D h;exact⟨h.1,h.2.1,λm hm he=>h.2.2.1 m hm (hE _ _ he),ih h.2.2.2⟩
theorem Lin.map{π inv:Nat->Nat}(hπ:∀ k,k<n->π k<n)(hinv:∀ k,k<n->inv k<n)(hl:∀ k,k<n->π (inv k)=k)(hr:∀ k,k<n->inv (π k)=k):∀ {r:List Nat} {D:Nat->Prop},Lin E n D r->Lin (λm k=>E (π m) (π k)) n (λk=>D (π k)) (r.map inv):=by
 intro r
 induction r with
 |nil=>intro D h k hk;exact h _ (hπ k hk)
 |cons x r ih=>
  intro D h
  obtain⟨h1,h2,h3,h4⟩:=h
  refine⟨hinv x h1,by show ¬D (π (inv x));rw[hl x h1];exact h2,λm hm he=>h3 _ (hπ m hm) (by have he:E (π m) (π (inv x)):=he;rw[hl x h1]at he;exact he),?_⟩
  refine(ih h4).congr (λk hk=>or_congr Iff.rfl ⟨λe=>by rw[<-e,hr k hk],λe=>by rw[e,hl x h1]⟩)
end
section
variable {P:Program} {ops NJ:Array Oper} {Q:Exit->Act->World->Prop}
end
section
variable {P:Program} {ops:Array Oper}
end
section
variable {P:Program} {B:dh} {V:Env} {σ:St} {a:Act} {w:World} {R:Type}
theorem Iq{V:Env}{ops:List Oper}{tr:List Tr}{σ:St}(G:GoodP V ops tr σ){j:Nat}(h:∀ t∈tr,t.o.dst≠some j):∀ n,n<=tr.length->(b9 (λ_=>true) (tr.take n) 0 σ).E j=σ.E j:=by
 intro n
 induction n with
 |zero=>intro _;rfl
 |succ n ih=>
  intro hn
  have hg:tr[n]?=some tr[n]:=au hn
  have hst:=G.st n _ hg
  have hw:=G.wE n tr[n]
  have hm:=h _ (bO hn)
  rw[il,hg]
  generalize tr[n]=t at *
  simp only[Option.toList]
  rw[gA,<-hst]
  simp only[cond_true]
  rw[<-hst]at ih
  rw[<-ih (by omega)]
  cases hw':t.wh with
  |some σ'=>simp only[Tr.U,hw'];exact hw σ' hg hw' j hm
  |none=>
   simp only[Tr.U,hw']
   cases hd:t.o.dst with
   |none=>rfl
   |some d=>exact aI _ _ (λe=>hm (by rw[hd,e]))
theorem AH{ops:List Oper}{j:Nat}(h:jN ops j=false):∀ o∈ops,o.dst≠some j:=by
 induction ops with
 |nil=>intro o ho;simp at ho
 |cons x xs ih=>
  simp only[jN,eS]at h
  intro o ho
  rcases aH.1 ho with rfl|ho
  ·intro e
   rw[e]at h
   simp[cr]at h
  ·exact ih h.2 o ho
theorem xE:∀ (tr:List Tr) (m:Nat) (σ:St),b9 (λ_=>false) tr m σ=σ:=by
 intro tr
 induction tr with
 |nil=>intro m σ;rfl
 |cons t tr ih=>intro m σ;simp only[b9,cond_false];exact ih _ _
theorem CG(hV:fh P V){ops:Array Oper}(hN:kY B.N ops.toList=true){K:St->Option R}{r:R}(hk:jT V ops.toList ops.toList 0 [] σ K=some r)(h:Inv B σ a w){Q:Exit->Act->World->Prop}(hQ:∀ σ' a' w',K σ'=some r->Inv B σ' a' w'->ES σ σ' (jN ops.toList)->Q .normal a' w'):
 wpAny P .any ops Q ops.size (Array.replicate ops.size false) a w:=by
 obtain⟨tr,G,hK⟩:=xD (σ0:=σ) ops.toList 0 [] σ [] hk rfl rfl rfl rfl
  {op:=λi t h=>(by simp at h),st:=λi t h=>(by simp at h),gv:=λi t h=>(by simp at h),run:=λi t h=>(by simp at h),skip:=λi t h=>(by simp at h),AA:=λi t e h=>(by simp at h),anc:=λi t m h=>(by simp at h),apart:=λi j s t _ h=>(by simp at h),wE:=λi t σ' h=>(by simp at h)} (λt ht=>(by simp at ht))
 have hES:ES σ (b9 (λ_=>true) tr 0 σ) (jN ops.toList):=by
  intro j hj
  refine .inl ((congrArg (λl=>(b9 (λ_=>true) l 0 σ).E j) (cN (l:=tr)).symm).trans (Iq G.toGoodP (λt ht=>?_) tr.length (ar _)))
  obtain⟨i,hi⟩:=jw.1 ht
  exact AH hj t.o (eT (G.op i t hi))
 refine Fl G hV hN (B:=B) (λa' w' h'=>hQ _ a' w' hK h' hES) ops.size _ a _ (by simp) (λi t e _ hl=>?_) ?_ ?_
 ·simp[dM,Array.getElem?_replicate]at hl
  split at hl <;> simp at hl
 ·exact bn List.countP_le_length (by simp)
 ·rw[show b9 (λk=>(Array.replicate ops.size false).getD k false) tr 0 σ=σ by
   refine(oP tr 0 σ (D':=λ_=>false) (λk _ _=>?_)).trans (xE tr 0 σ)
   simp[dM,Array.getElem?_replicate]
   split <;> rfl]
  exact h
theorem CH(h:Inv B σ a w):Inv B σ a {w with drawn:=w.drawn+1}:=by
 obtain⟨F,Sg,cg,h⟩:=h
 exact⟨F,Sg,cg,h.world rfl rfl rfl (ar _) (λ_ _=>rfl)⟩
end
def wpN(P:Program)(c:Code)(Q:Exit->Act->World->Prop)(a:Act)(w:World):Prop:=
 ∀ (b:Frame) (k:List Item) (cs:List Frame),b.kind=.normal->∃ e a' w',Q e a' w'/\Arrives P (lone (b.at a (.code c::k)) cs w) b k cs e a' w'
section
variable {P:Program} {Q:Exit->Act->World->Prop} {a:Act} {w:World}
theorem qO{c:Code}(h:c.wp P Q a w):wpN P c Q a w:=λb k cs _=>h b k cs
theorem fU{c:Code}{Q':Exit->Act->World->Prop}(h:wpN P c Q a w)(hq:∀ e a w,Q e a w->Q' e a w):wpN P c Q' a w:=by
 intro b k cs hb
 obtain⟨e,a',w',q,r⟩:=h b k cs hb
 exact⟨e,a',w',hq e a' w' q,r⟩
theorem Fm{x y:Code}(h:wpN P x (Exit.then (wpN P y Q) Q) a w):wpN P (.seq x y) Q a w:=by
 intro b k cs hb
 obtain⟨e,a1,w1,hq,har⟩:=h b (.code y::k) cs hb
 by_cases he:e=.normal
 ·subst he
  obtain⟨e2,a2,w2,hq2,Ir⟩:=hq b k cs hb
  exact⟨e2,a2,w2,hq2,.of_steps (.head step_seq har) Ir⟩
 ·refine⟨e,a1,w1,?_,.of_steps (.one step_seq) (.pass (x:=.code y) rfl (λ_ _=>.inl he) har)⟩
  cases e <;> first|exact absurd rfl he|exact hq
theorem CI{c:Operand}{x y:Code}{t:Bool}(hc:a.eval c=.bool t)(h:wpN P (if t then x else y) Q a w):wpN P (.cond c x y) Q a w:=by
 intro b k cs hb
 obtain⟨e,a1,w1,hq,har⟩:=h b k cs hb
 exact⟨e,a1,w1,hq,.of_steps (.one (step_cond hc)) har⟩
theorem AI{id:Nat}{c:Code}(h:wpN P c (Exit.inBlock id Q) a w):wpN P (.block id c) Q a w:=by
 intro b k cs hb
 obtain⟨e,a1,w1,hq,har⟩:=h b (.inBlock id::k) cs hb
 cases e with
 |normal=>exact⟨.normal,a1,w1,hq,.head step_block (Steps.trans har (.one step_inBlock))⟩
 |exit j=>
  by_cases hj:j=id
  ·have hq:Q .normal a1 w1:=by simpa [Exit.inBlock,hj]using hq
   exact⟨.normal,a1,w1,hq,.head step_block (har k (by simp[exitTo,hj]))⟩
  ·have hq:Q (.exit j) a1 w1:=by simpa [Exit.inBlock,hj]using hq
   have hn:(id == j)=false:=by simpa using λe:id=j=>hj e.symm
   exact⟨.exit j,a1,w1,hq,λk' hk=>.head step_block (har k' (by simp[exitTo,hn,hk]))⟩
 |goto l=>exact⟨_,a1,w1,hq,λk' hk=>.head step_block (har k' (by simp[gotoIn,hk]))⟩
 |ret=>exact⟨_,a1,w1,hq,.of_steps (.one step_block) har⟩
 |panic _=>exact⟨_,a1,w1,hq,.of_steps (.one step_block) har⟩
 |outgrown=>exact⟨_,a1,w1,hq,.of_steps (b:=b) (k:=k) (cs:=cs) (e:=.outgrown) (.one step_block) har⟩
theorem CJ{c:Code}(I:Nat->Act->World->Prop)(h0:∀ a w,¬I 0 a w)(round:∀ m a w,I (m+1) a w->wpN P c (Exit.then (I m) Q) a w)(m:Nat)(a:Act)(w:World)(h:I m a w):wpN P (.loop c) Q a w:=by
 intro b k cs hb
 have key:∀ m a w,I m a w->∃ e a' w',Q e a' w'/\Arrives P (lone (b.at a (.code c::.inLoop c::k)) cs w) b k cs e a' w':=by
  intro m
  induction m with
  |zero=>intro a w h;exact absurd h (h0 a w)
  |succ m ih=>
   intro a w hI
   obtain⟨e,a1,w1,hq,har⟩:=round m a w hI b (.inLoop c::k) cs hb
   by_cases he:e=.normal
   ·subst he
    obtain⟨e2,a2,w2,hq2,Ir⟩:=ih a1 w1 hq
    exact⟨e2,a2,w2,hq2,.of_steps (Steps.trans har (.one step_inLoop)) Ir⟩
   ·refine⟨e,a1,w1,?_,.pass (x:=.inLoop c) rfl (λ_ _=>.inl he) har⟩
    cases e <;> first|exact absurd rfl he|exact hq
 obtain⟨e,a',w',hq,har⟩:=key m a w h
 exact⟨e,a',w',hq,.of_steps (.one step_loop) har⟩
theorem tH{f:FuncId}{fn:Func}{c:Code}{args:Array Value}{R:Ending->World->Prop}(hf:P.funcs[f]?=some fn)(hb:fn.body=some c)
 (h:wpN P c (bodyPost P fn R) {tmps:=args++Array.replicate (fn.ntmps-args.size) undef,defers:=[]} w):Calls P f args w R:=by
 intro cs
 have hen:Frame.enter P f args .normal=({(default:Frame)with fn:=f,kind:=.normal}:Frame).at {tmps:=args++Array.replicate (fn.ntmps-args.size) undef,defers:=[]} [.code c]:=by
  simp[Frame.enter,Frame.at,hf,hb]
 obtain⟨e,a',w',hq,har⟩:=h {(default:Frame)with fn:=f,kind:=.normal} [] cs rfl
 rw[<-hen]at har
 cases e with
 |normal=>
  obtain⟨hd,v,hr,hR⟩:=hq
  exact⟨.returned v,w',_,hR,Steps.trans har (.one step_end),rfl,rfl,hd,rfl,fn,hf,hr⟩
 |ret=>
  obtain⟨hd,v,hr,hR⟩:=hq
  obtain⟨todo,hs⟩:=har
  exact⟨.returned v,w',_,hR,hs,rfl,rfl,hd,rfl,fn,hf,hr⟩
 |panic chain=>
  obtain⟨hd,hR⟩:=hq
  obtain⟨todo,hs⟩:=har
  exact⟨.panicked chain,w',_,hR,hs,rfl,rfl,hd,fn,hf⟩
 |exit id=>exact hq.elim
 |goto l=>exact hq.elim
 |outgrown=>exact⟨.outgrown,w',{(default:Frame)with fn:=f,kind:=.normal},hq,har.resolve_left (by simp),rfl,trivial⟩
end
section
variable {P:Program} {B:dh} {F:ae} {Sg:Nat->ae} {cg:Nat->List Value} {σ:St} {a:Act} {w:World}
end
inductive Ann where
 |nop
 |seq (x y:Ann)
 |cond (j:Option Spec) (x y:Ann)
 |block (j:Option Spec) (x:Ann)
 |loop (s:Spec) (x:Ann)
 |reg (j:Option Spec) (fz:List Nat)
 |rgf (j:Option Spec) (pf fz:List Nat)
 |rgp (j:Option Spec) (pf fz:List Nat) (pz:List (Nat×List Stp))
 |rga (j:Option Spec) (pf fz:List Nat) (t:Alt)
def Ann.a1:Ann->Ann
 |.seq x _=>x
 |.cond _ x _=>x
 |.block _ x=>x
 |.loop _ x=>x
 |_=>.nop
def Ann.a2:Ann->Ann
 |.seq _ y=>y
 |.cond _ _ y=>y
 |_=>.nop
def Ann.j:Ann->Option Spec
 |.cond j _ _=>j
 |.block j _=>j
 |.loop s _=>some s
 |.reg j _=>j
 |.rgf j _ _=>j
 |.rgp j _ _ _=>j
 |.rga j _ _ _=>j
 |_=>none
def Ann.fz:Ann->List Nat
 |.reg _ l=>l
 |.rgf _ _ l=>l
 |.rgp _ _ l _=>l
 |.rga _ _ l _=>l
 |_=>[]
def Ann.alt:Ann->Option Alt
 |.rga _ _ _ t=>some t
 |_=>none
def Ann.pf:Ann->List Nat
 |.rgf _ l _=>l
 |.rgp _ l _ _=>l
 |.rga _ l _ _=>l
 |_=>[]
def Ann.pz:Ann->List (Nat×List Stp)
 |.rgp _ _ _ l=>l
 |_=>[]
def li:Ty->List Stp->Bool
 |_,[]=>true
 |.st t,.st::π=>li t π
 |.pair a _,.fst::π=>li a π
 |.pair _ b,.snd::π=>li b π
 |.box t,.deref::π=>li t π
 |_,_=>false
def Fo(σ:St)(s:Nat)(π:List Stp):St:=
 match σ.E s with
 |some (.one (.hdr l _ [] _))=>(match σ.L l with
  |some b=>bif li b.t π then(match fy b.t b.m π .ro with
   |some mr=>{σ with L:=upd σ.L l (some ⟨b.v+1,b.t,mr,b.x⟩)}
   |none=>σ)else σ
  |none=>σ)
 |_=>σ
def vK(σ:St):List (Nat×List Stp)->St
 |[]=>σ
 |p::ps=>vK (Fo σ p.1 p.2) ps
def tI(σ:St):List Nat->St
 |[]=>σ
 |s::ss=>match σ.E s with
  |some (.one (.hdr l _ _ _))=>(match σ.L l with|some b=>tI (σ.frz l b) ss|none=>tI σ ss)
  |_=>tI σ ss
structure Ks(R:Type)where
 nrm:St->Option R
 ext:Nat->St->Option R
 ret:St->Option R
def aq{A R:Type}(J:A->Option R)(body:(A->Option R)->Option R):Option R:=body J
def aA{A R:Type}(body:A->(A->Option R)->Option R):Nat->A->Option R
 |0,_=>none
 |n+1,x=>body x (aA body n)
def vL{R:Type}(o:Option Spec)(W:Nat->Bool)(σ:St)(K:St->Option R)(body:(St->Option R)->Option R):Option R:=
 match o with
 |none=>body K
 |some s=>bif kZ σ s W then aq (λx=>K (stJ σ s x)) (λj=>body λσ1=>uT σ s σ1 j)else none
def wrC:Code->Nat->Bool
 |.region _ ops _,j=>jN ops.toList j
 |.seq x y,j=>wrC x j||wrC y j
 |.cond _ x y,j=>wrC x j||wrC y j
 |.block _ x,j=>wrC x j
 |.loop x,j=>wrC x j
 |_,_=>false
def Is{R:Type}(V:Env)(N:Nat)(ops:Array Oper)(draw:Bool)(alt:Option Alt)(σ:St)(K:St->Option R):Option R:=
 bif kY N ops.toList then(bif draw then jT V ops.toList ops.toList 0 [] σ K else Ae V ops.toList ops.toList σ K)else none
def exec{R:Type}(V:Env)(N n:Nat):Code->Ann->St->Ks R->Option R
 |.skip,_,σ,k=>k.nrm σ
 |.region _ ops draw,an,σ,k=>vL an.j (jN ops.toList) σ k.nrm λnrm=>Is V N ops draw an.alt (tI σ an.pf) λσ1=>nrm (vK (tI σ1 an.fz) an.pz)
 |.seq x y,an,σ,k=>exec V N n x an.a1 σ {k with nrm:=λσ1=>exec V N n y an.a2 σ1 k}
 |.cond c x y,an,σ,k=>vL an.j (λj=>wrC x j||wrC y j) σ k.nrm λnrm=>(match opd σ c with
  |some (.val .bool b)=>(match(b:Bool)with
   |true=>exec V N n x an.a1 σ {k with nrm:=nrm}
   |false=>exec V N n y an.a2 σ {k with nrm:=nrm})
  |_=>none)
 |.block id x,an,σ,k=>vL an.j (wrC x) σ k.nrm λnrm=>exec V N n x an.a1 σ {nrm:=nrm,ext:=λi σ1=>bif Nat.beq i id then nrm σ1 else k.ext i σ1,ret:=k.ret}
 |.loop x,an,σ,k=>(match an.j with
  |some s=>bif kZ σ s (wrC x)then uT σ s σ λx0=>aA (λy cont=>exec V N n x an.a1 (stJ σ s y) {k with nrm:=λσ1=>uT σ s σ1 cont}) n x0 else none
  |none=>none)
 |.exit id,_,σ,k=>k.ext id σ
 |.ret,_,σ,k=>k.ret σ
 |_,_,_,_=>none
def qP{R:Type}(B:dh)(σ:St)(W:Nat->Bool)(k:Ks R)(r:R):Exit->Act->World->Prop
 |.normal,a,w=>∃ σ',k.nrm σ'=some r/\Inv B σ' a w/\ES σ σ' W
 |.exit id,a,w=>∃ σ',k.ext id σ'=some r/\Inv B σ' a w/\ES σ σ' W
 |.ret,a,w=>∃ σ',k.ret σ'=some r/\Inv B σ' a w
 |_,_,_=>False
section
variable {P:Program} {B:dh} {σ:St} {a:Act} {w:World}
theorem qP.imp{R:Type}{σ σ1:St}{W W1:Nat->Bool}{k k1:Ks R}{r:R}(hes:ES σ σ1 W)(hW:∀ j,W j=false->W1 j=false)(hn:∀ σ' a w,k1.nrm σ'=some r->Inv B σ' a w->ES σ σ' W->∃ oL,k.nrm oL=some r/\Inv B oL a w/\ES σ oL W)
 (he:∀ i σ',k1.ext i σ'=k.ext i σ') (hr:∀ σ',k1.ret σ'=k.ret σ') {e:Exit} {a:Act} {w:World} (h:qP B σ1 W1 k1 r e a w):qP B σ W k r e a w:=by
 cases e with
 |normal=>
  obtain⟨σ',h1,h2,h3⟩:=h
  exact hn σ' a w h1 h2 (hes.trans h3 (λ_ h=>h) hW)
 |exit id=>
  obtain⟨σ',h1,h2,h3⟩:=h
  exact⟨σ',by rw[<-he];exact h1,h2,hes.trans h3 (λ_ h=>h) hW⟩
 |ret=>
  obtain⟨σ',h1,h2⟩:=h
  exact⟨σ',by rw[<-hr];exact h1,h2⟩
 |goto _=>exact h
 |panic _=>exact h
 |outgrown=>exact h
theorem qQ{R:Type}{o:Option Spec}{c:Code}{W:Nat->Bool}(h:Inv B σ a w){k:Ks R}{r:R}{body:(St->Option R)->Option R}(hk:vL o W σ k.nrm body=some r)(main:∀ nrm,body nrm=some r->wpN P c (qP B σ W {k with nrm:=nrm} r) a w):
 wpN P c (qP B σ W k r) a w:=by
 unfold vL at hk
 split at hk
 ·exact main _ hk
 ·rename_i s
  cases hs:kZ σ s W
  ·rw[hs]at hk;cases hk
  rw[hs]at hk
  simp only[cond_true]at hk
  have hv:ym σ:=by obtain⟨F,Sg,cg,h⟩:=h;exact h.ver
  have hvf:yn B σ:=by obtain⟨F,Sg,cg,h⟩:=h;exact h.Ho
  refine fU (main _ hk) (λe a' w' hp=>qP.imp (k:=k) (k1:={k with nrm:=λσ1=>uT σ s σ1 λx=>k.nrm (stJ σ s x)}) (ES.refl _ _) (λ_ h=>h) (λσ' a w h1 h2 h3=>?_) (λ_ _=>rfl) (λ_=>rfl) hp)
  have h1:(uT σ s σ' λx=>k.nrm (stJ σ s x))=some r:=h1
  obtain⟨x,g1,g2⟩:=xn h2 hv hvf h3 hs h1
  exact⟨_,g1,g2,xo hs x⟩
theorem Fq{R:Type}{V:Env}(hV:fh P V){id:Nat}{ops:Array Oper}{draw:Bool}{alt:Option Alt}(h:Inv B σ a w){k:Ks R}{r:R}(hk:Is V B.N ops draw alt σ k.nrm=some r):wpN P (Code.region id ops draw) (qP B σ (jN ops.toList) k r) a w:=by
 unfold Is at hk
 cases hN:kY B.N ops.toList
 ·rw[hN]at hk;cases hk
 rw[hN]at hk
 simp only[cond_true]at hk
 cases draw
 ·simp only[cond_false]at hk
  exact qO (Ah hV hN h hk (λσ' a' w' h1 h2 h3=>⟨σ',h1,h2,h3⟩))
 ·simp only[cond_true]at hk
  exact qO (wp_region_any hV.mix (CG hV hN hk (CH h) (λσ' a' w' h1 h2 h3=>⟨σ',h1,h2,h3⟩)))
theorem yy:∀ (ss:List Nat) {σ:St},Inv B σ a w->Inv B (tI σ ss) a w/\∀ j,ER (σ.E j) ((tI σ ss).E j):=by
 intro ss
 induction ss with
 |nil=>intro σ h;exact⟨h,λ_=>.refl _⟩
 |cons s ss ih=>
  intro σ h
  simp only[tI]
  split
  ·rename_i l n π c hE
   cases hl:σ.L l with
   |none=>simp only;exact ih h
   |some b=>
    simp only
    obtain⟨F,Sg,cg,h⟩:=h
    obtain⟨g1,g2⟩:=ih ⟨_,Sg,cg,h.frz hl⟩
    exact⟨g1,λj=>(BT j).trans (g2 j)⟩
  ·exact ih h
theorem CK:∀ (π:List Stp) (t:Ty) (m mr:Md) (x:t.T) (cs:List Value) (S F:ae) (w:World),Rep F w t m x cs S->li t π=true->fy t m π .ro=some mr->
 ∃ Sp S':ae,Sub Sp S/\Sub S' S/\Dis Sp S'/\∀ F',Sub F F'->Sub Sp F'->Rep F' w t mr x cs S':=by
 intro π
 induction π with
 |nil=>
  intro t m mr x cs S F w h _ hm
  have hmr:Md.ro=mr:=by unfold fy at hm;cases t <;> (injection hm)
  subst hmr
  exact⟨S,ae.none,Sub.refl _,λ_ h=>h.elim,λ_ _ h=>h.elim,λF' hF hS=>iC hF _ _ _ _ _ _ h hS⟩
 |cons p π ih=>
  intro t m mr x cs S F w h hp hm
  cases t <;> cases p <;> simp only[li,aE]at hp
  case st.st t=>
   simp only[fy]at hm
   exact ih t m mr x cs S F w h hp hm
  case pair.fst a b=>
   simp only[fy]at hm
   cases h1:fy a m.fst π .ro with
   |none=>rw[h1]at hm;cases hm
   |some r=>
    obtain⟨c1,c2,S1,S2,rfl,g1,g2,s1,s2,d⟩:=h
    obtain⟨Sp,S1',q1,q2,q3,q4⟩:=ih a m.fst r x.1 c1 S1 F w g1 hp h1
    refine⟨Sp,S1'.or S2,q1.trans s1,λk hk=>hk.elim (λh=>s1 k (q2 k h)) (λh=>s2 k h),λk a b=>b.elim (λb=>q3 k a b) (λb=>d k (q1 k a) b),λF' hF hS=>?_⟩
    have hx1:=q4 F' hF hS
    have hx2:=aP (w':=w) hF (λ_ _=>rfl) _ _ _ _ _ _ g2 (Sub.refl _) (λ_ _=>rfl)
    rw[h1]at hm
    simp only at hm
    have fin:∀ mm:Md,mm.fst=r->mm.snd=m.snd->Rep F' w (.pair a b) mm x (c1++c2) (S1'.or S2):=λmm e1 e2=>
     ⟨c1,c2,S1',S2,rfl,by rw[e1];exact hx1,by rw[e2];exact hx2,λ_ h=>.inl h,λ_ h=>.inr h,λk a b=>d k (q2 k a) b⟩
    split at hm
    ·rename_i he
     injection hm with hm;subst hm;exact fin _ he.symm rfl
    ·injection hm with hm;subst hm;exact fin _ rfl rfl
  case pair.snd a b=>
   simp only[fy]at hm
   cases h1:fy b m.snd π .ro with
   |none=>rw[h1]at hm;cases hm
   |some r=>
    obtain⟨c1,c2,S1,S2,rfl,g1,g2,s1,s2,d⟩:=h
    obtain⟨Sp,S2',q1,q2,q3,q4⟩:=ih b m.snd r x.2 c2 S2 F w g2 hp h1
    refine⟨Sp,S1.or S2',q1.trans s2,λk hk=>hk.elim (λh=>s1 k h) (λh=>s2 k (q2 k h)),λk a b=>b.elim (λb=>d k b (q1 k a)) (λb=>q3 k a b),λF' hF hS=>?_⟩
    have hx2:=q4 F' hF hS
    have hx1:=aP (w':=w) hF (λ_ _=>rfl) _ _ _ _ _ _ g1 (Sub.refl _) (λ_ _=>rfl)
    rw[h1]at hm
    simp only at hm
    have fin:∀ mm:Md,mm.fst=m.fst->mm.snd=r->Rep F' w (.pair a b) mm x (c1++c2) (S1.or S2'):=λmm e1 e2=>
     ⟨c1,c2,S1,S2',rfl,by rw[e1];exact hx1,by rw[e2];exact hx2,λ_ h=>.inl h,λ_ h=>.inr h,λk a b=>d k a (q2 k b)⟩
    split at hm
    ·rename_i he
     injection hm with hm;subst hm;exact fin _ rfl he.symm
    ·injection hm with hm;subst hm;exact fin _ rfl rfl
  case box.deref t=>
   cases m with
   |ro=>simp[fy]at hm
   |pr _ _=>simp[fy]at hm
   |own e=>
    simp only[fy]at hm
    cases h1:fy t e π .ro with
    |none=>rw[h1]at hm;cases hm
    |some r=>
     rw[h1]at hm
     simp only[aW]at hm
     subst hm
     obtain⟨b,c,ee,rfl,hb,hS,S1,hr,s1,n1⟩:=h
     obtain⟨Sp,S1',q1,q2,q3,q4⟩:=ih t e r x _ S1 F w hr hp h1
     refine⟨Sp,λk=>S1' k\/k=b,q1.trans s1,λk hk=>hk.elim (λh=>s1 k (q2 k h)) (λh=>h ▸ hS),λk a c=>c.elim (λc=>q3 k a c) (λc=>n1 (c ▸ q1 k a)),λF' hF hSp=>?_⟩
     exact⟨b,c,ee,rfl,hb,.inr rfl,S1',q4 F' hF hSp,λk h=>.inl h,λh=>n1 (q2 b h)⟩
theorem Fs(h:Inv B σ a w)(s:Nat)(π:List Stp):Inv B (Fo σ s π) a w/\(Fo σ s π).E=σ.E:=by
 unfold Fo
 split
 case h_2=>exact⟨h,rfl⟩
 rename_i l n c hE
 cases hl:σ.L l with
 |none=>exact⟨h,rfl⟩
 |some b=>
 simp only
 cases hp:li b.t π
 ·exact⟨h,rfl⟩
 simp only[cond_true]
 cases hm:fy b.t b.m π .ro with
 |none=>exact⟨h,rfl⟩
 |some mr=>
 obtain⟨F,Sg,cg,h⟩:=h
 obtain⟨Sp,S',q1,q2,q3,q4⟩:=CK π b.t b.m mr b.x (cg l) (Sg l) F w (h.lab l b hl) hp hm
 have hL:∀ j bj,upd σ.L l (some ⟨b.v+1,b.t,mr,b.x⟩) j=some bj->(j=l/\bj=⟨b.v+1,b.t,mr,b.x⟩)\/(j≠l/\σ.L j=some bj):=λj bj hj=>by
  rcases eO hj with⟨e,e2⟩|e
  ·injection e2 with e2;exact .inl ⟨e,e2.symm⟩
  ·exact .inr e
 refine⟨⟨λk=>F k\/Sp k,λj=>if j=l then S' else Sg j,cg,h.step (w':=w) (S:=ae.none) ⟨rfl,rfl,rfl,ar _,λ_ _ _=>rfl⟩ (λ_ h=>h.elim) (λ_ h=>h.elim) ?_ ?_ ?_ ?_ ?_ (λ_ h=>.inl h) ?_ ?_⟩,rfl⟩
 ·intro j bj hj
  rcases hL j bj hj with⟨rfl,rfl⟩|⟨hne,hj⟩
  ·right
   exact⟨b,hl,cG _,rfl,by rw[if_pos rfl];exact q4 _ (λ_ h=>.inl h) (λ_ h=>.inr h)⟩
  ·left
   exact⟨hj,if_neg hne,λ_ _ h=>h.elim⟩
 ·intro j j' bj bj' hne hj hj'
  rcases hL j bj hj with⟨rfl,rfl⟩|⟨h1,hj1⟩ <;> rcases hL j' bj' hj' with⟨rfl,rfl⟩|⟨h2,hj2⟩
  ·exact absurd rfl hne
  ·rw[if_pos rfl,if_neg h2];exact(h.dis j j' b bj' hne hl hj2).mono q2 (Sub.refl _)
  ·rw[if_pos rfl,if_neg h1];exact(h.dis j j' bj b hne hj1 hl).mono (Sub.refl _) q2
  ·rw[if_neg h1,if_neg h2];exact h.dis j j' bj bj' hne hj1 hj2
 ·intro j bj hj
  rcases hL j bj hj with⟨rfl,rfl⟩|⟨h1,hj⟩
  ·rw[if_pos rfl]
   rintro k hk (hf|hf)
   ·exact h.dG j b hl k (q2 k hk) hf
   ·exact q3 k hf hk
  ·rw[if_neg h1]
   rintro k hk (hf|hf)
   ·exact h.dG j bj hj k hk hf
   ·exact h.dis j l bj b h1 hj hl k hk (q1 k hf)
 ·intro j bj hj k hk
  rcases hL j bj hj with⟨rfl,rfl⟩|⟨h1,hj⟩
  ·rw[if_pos rfl]at hk;exact h.lt j b hl k (q2 k hk)
  ·rw[if_neg h1]at hk;exact h.lt j bj hj k hk
 ·intro j bj hj k hk hlt
  rcases hL j bj hj with⟨rfl,rfl⟩|⟨h1,hj⟩
  ·rw[if_pos rfl]at hk;exact h.may j b hl k (q2 k hk) hlt
  ·rw[if_neg h1]at hk;exact h.may j bj hj k hk hlt
 ·rintro k (hk|hk)
  ·exact h.fl k hk
  ·exact h.lt l b hl k (q1 k hk)
 ·rintro k (hk|hk) hlt hn
  ·exact h.fs k hk hlt hn
  ·exact absurd (h.may l b hl k (q1 k hk) hlt) hn
theorem CL:∀ (ps:List (Nat×List Stp)) {σ:St},Inv B σ a w->Inv B (vK σ ps) a w/\(vK σ ps).E=σ.E:=by
 intro ps
 induction ps with
 |nil=>intro σ h;exact⟨h,rfl⟩
 |cons p ps ih=>
  intro σ h
  obtain⟨h1,h2⟩:=Fs h p.1 p.2
  obtain⟨h3,h4⟩:=ih h1
  exact⟨h3,h4.trans h2⟩
theorem Ft{R:Type}{V:Env}(hV:fh P V)(n:Nat):∀ (c:Code) (an:Ann) (σ:St) (k:Ks R) (r:R) (a:Act) (w:World),exec V B.N n c an σ k=some r->Inv B σ a w->wpN P c (qP B σ (wrC c) k r) a w:=by
 intro c
 induction c with
 |skip=>intro an σ k r a w hk h;exact qO (wp_skip ⟨σ,hk,h,ES.refl _ _⟩)
 |region id ops draw=>
  intro an σ k r a w hk h
  refine qQ h hk (λnrm hk=>?_)
  obtain⟨h',zP⟩:=yy an.pf h
  have hwp:=Fq (id:=id) hV (k:={k with nrm:=λσ1=>nrm (vK (tI σ1 an.fz) an.pz)}) h' hk
  refine fU hwp (λe a' w' hp=>?_)
  cases e with
  |normal=>
   obtain⟨σ1,q1,q2,q3⟩:=hp
   obtain⟨g1,g2⟩:=yy an.fz q2
   obtain⟨g3,g4⟩:=CL an.pz g1
   exact⟨_,q1,g3,λj hj=>(zP j).trans ((q3 j hj).trans (by rw[g4];exact g2 j))⟩
  |exit i=>obtain⟨σ1,q1,q2,q3⟩:=hp;exact⟨σ1,q1,q2,λj hj=>(zP j).trans (q3 j hj)⟩
  |ret=>exact hp
  |goto _=>exact hp
  |panic _=>exact hp
  |outgrown=>exact hp
 |seq x y ihx ihy=>
  intro an σ k r a w hk h
  simp only[exec]at hk
  have wx:∀ j,wrC (.seq x y) j=false->wrC x j=false:=λj hj=>by simp only[wrC,eS]at hj;exact hj.1
  have wy:∀ j,wrC (.seq x y) j=false->wrC y j=false:=λj hj=>by simp only[wrC,eS]at hj;exact hj.2
  refine Fm (fU (ihx an.a1 σ _ r a w hk h) (λe a' w' hp=>?_))
  cases e with
  |normal=>
   obtain⟨σ1,h1,h2,h3⟩:=hp
   exact fU (ihy an.a2 σ1 k r a' w' h1 h2) (λe a'' w'' hp=>qP.imp (h3.mono wx) wy (λσ' a w q1 q2 q3=>⟨σ',q1,q2,q3⟩) (λ_ _=>rfl) (λ_=>rfl) hp)
  |exit id=>obtain⟨σ1,h1,h2,h3⟩:=hp;exact⟨σ1,h1,h2,h3.mono wx⟩
  |ret=>exact hp
  |goto _=>exact hp
  |panic _=>exact hp
  |outgrown=>exact hp
 |cond c x y ihx ihy=>
  intro an σ k r a w hk h
  refine qQ (W:=wrC (.cond c x y)) h hk (λnrm hk=>?_)
  have wx:∀ j,wrC (.cond c x y) j=false->wrC x j=false:=λj hj=>by simp only[wrC,eS]at hj;exact hj.1
  have wy:∀ j,wrC (.cond c x y) j=false->wrC y j=false:=λj hj=>by simp only[wrC,eS]at hj;exact hj.2
  split at hk
  ·rename_i b hc
   have hcv:a.eval c=.bool b:=by obtain⟨F,Sg,cg,h⟩:=h;exact iD (bf h hc)
   refine CI hcv ?_
   split at hk
   ·exact fU (ihx an.a1 σ _ r a w hk h) (λe a' w' hp=>qP.imp (k:={k with nrm:=nrm}) (ES.refl _ _) wx (λσ' a w q1 q2 q3=>⟨σ',q1,q2,q3⟩) (λ_ _=>rfl) (λ_=>rfl) hp)
   ·exact fU (ihy an.a2 σ _ r a w hk h) (λe a' w' hp=>qP.imp (k:={k with nrm:=nrm}) (ES.refl _ _) wy (λσ' a w q1 q2 q3=>⟨σ',q1,q2,q3⟩) (λ_ _=>rfl) (λ_=>rfl) hp)
  ·cases hk
 |block id x ihx=>
  intro an σ k r a w hk h
  refine qQ (W:=wrC (.block id x)) h hk (λnrm hk=>?_)
  refine AI (fU (ihx an.a1 σ _ r a w hk h) (λe a' w' hp=>?_))
  cases e with
  |normal=>exact hp
  |exit i=>
   obtain⟨σ1,h1,h2,h3⟩:=hp
   simp only at h1
   show(if i=id then _ else _:Prop)
   cases hb:Nat.beq i id
   ·rw[hb]at h1
    rw[if_neg (λe=>by rw[e,cr]at hb;cases hb)]
    exact⟨σ1,h1,h2,h3⟩
   ·rw[hb]at h1
    rw[if_pos (aV hb)]
    exact⟨σ1,h1,h2,h3⟩
  |ret=>exact hp
  |goto _=>exact hp
  |panic _=>exact hp
  |outgrown=>exact hp
 |loop x ihx=>
  intro an σ k r a w hk h
  simp only[exec]at hk
  cases hj:an.j with
  |none=>rw[hj]at hk;cases hk
  |some s=>
  rw[hj]at hk
  simp only at hk
  cases hs:kZ σ s (wrC x)
  ·rw[hs]at hk;cases hk
  rw[hs]at hk
  simp only[cond_true]at hk
  have hv:ym σ:=by obtain⟨F,Sg,cg,h⟩:=h;exact h.ver
  have hvf:yn B σ:=by obtain⟨F,Sg,cg,h⟩:=h;exact h.Ho
  obtain⟨x0,hk,h0⟩:=xn h hv hvf (ES.refl σ (wrC x)) hs hk
  refine CJ (λm a w=>∃ y,aA (λy cont=>exec V B.N n x an.a1 (stJ σ s y) {k with nrm:=λσ1=>uT σ s σ1 cont}) m y=some r/\Inv B (stJ σ s y) a w) (λa w h=>by obtain⟨y,h1,_⟩:=h;cases h1) ?_ n a w ⟨x0,hk,h0⟩
  rintro m a w ⟨y,h1,h2⟩
  simp only[aA]at h1
  refine fU (ihx an.a1 _ _ r a w h1 h2) (λe a' w' hp=>?_)
  cases e with
  |normal=>
   obtain⟨σ1,q1,q2,q3⟩:=hp
   exact xn q2 hv hvf ((xo hs y).trans q3 (λ_ h=>h) (λ_ h=>h)) hs q1
  |exit i=>obtain⟨σ1,q1,q2,q3⟩:=hp;exact⟨σ1,q1,q2,(xo hs y).trans q3 (λ_ h=>h) (λ_ h=>h)⟩
  |ret=>exact hp
  |goto _=>exact hp
  |panic _=>exact hp
  |outgrown=>exact hp
 |exit id=>intro an σ k r a w hk h;exact qO (wp_exit ⟨σ,hk,h,ES.refl _ _⟩)
 |ret=>intro an σ k r a w hk h;exact qO (wp_ret ⟨σ,hk,h⟩)
 |rangeFunc f ps x y _ _=>intro an σ k r a w hk h;cases hk
 |scope x _=>intro an σ k r a w hk h;cases hk
 |label l=>intro an σ k r a w hk h;cases hk
 |goto l=>intro an σ k r a w hk h;cases hk
 |refuse s=>intro an σ k r a w hk h;cases hk
end
def dI:(ps:List (Ty×Md))->(dx ps).T->Nat->St
 |[],_,_=>⟨λ_=>none,λ_=>none,λ_=>false⟩
 |p::ps,x,i=>bif di p.2 then(dI ps x.2 (i+1)).p5 i (.val p.1 x.1)
  else {E:=upd (dI ps x.2 (i+1)).E i (some (.one (.hdr (i*8+6) 0 [] ⟨p.1,x.1⟩))),L:=upd (dI ps x.2 (i+1)).L (i*8+6) (some ⟨0,p.1,p.2,x.1⟩),U:=λj=>Nat.beq j (i*8+6)||(dI ps x.2 (i+1)).U j}
def Fu(TT:Tab)(σ:St):ResultVar->Option aj
 |.tmp t=>match σ.E t with
  |some (.one e)=>some e
  |_=>none
 |.cell a t=>match σ.E a with
  |some (.one e)=>(match TT t with|some td=>qc td σ e some|none=>none)
  |_=>none
def gT(TT:Tab)(σ:St):List ResultVar->Option (List aj)
 |[]=>some []
 |t::ts=>match Fu TT σ t with
  |some e=>(match gT TT σ ts with|some es=>some (e::es)|none=>none)
  |none=>none
def Fv{R:Type}:(ms:List (Ty×Md))->List Nat->(Nat->Option Lab)->((dx ms).T->(Nat->Option Lab)->Option R)->Option R
 |[],[],L,K=>K () L
 |p::ms,i::mi,L,K=>match L (i*8+6)with
  |some ⟨_,t,m,x⟩=>if h:t=p.1 then(bif decide (m=p.2)&&!p.1.agg then Fv ms mi (upd L (i*8+6) none) λys L'=>K (h ▸ x,ys) L' else none)else none
  |none=>none
 |_,_,_,_=>none
def CM(ps:List (Ty×Md)):List Nat->Bool
 |[]=>true
 |i::mi=>(match ps[i]? with|some p=>!di p.2&&!p.1.agg|none=>false)&&CM ps mi
def Fw(TT:Tab)(rs:List (Ty×Md))(mi:List Nat)(ms:List (Ty×Md))(rv:List ResultVar)(σ:St):Option ((dx rs).T×(dx ms).T):=
 match gT TT σ rv with
 |some es=>jK σ rs es σ.L λx L bs=>Fv ms mi L λys L'=>bif bs.all λl=>(L' l).isSome then some (x,ys)else none
 |none=>none
def yz(V:Env)(N n:Nat)(c:Code)(an:Ann)(ps rs:List (Ty×Md))(mi:List Nat)(ms:List (Ty×Md))(rv:List ResultVar)(x:(dx ps).T):Option ((dx rs).T×(dx ms).T):=
 exec V N n c an (dI ps x 0) {nrm:=Fw V.TT rs mi ms rv,ext:=λ_ _=>none,ret:=Fw V.TT rs mi ms rv}
section
variable {P:Program} {F:ae} {w:World} {a:Act}
theorem Fx{B:dh}{vs:List Value}{S:ae}(hB:B.w0=w/\B.S0=S/\B.F0=F/\(∀ l,B.fix l=none))(hsz:a.tmps.size=B.N)(hde:a.defers=[])(ha:∀ t,t<vs.length->a.tmps.getD t undef=vs.getD t undef)(hSF:Dis S F)(hF:∀ k,F k->k<w.heap.size)(hS:∀ k,S k->k<w.heap.size):
 ∀ (ps:List (Ty×Md)) (x:(dx ps).T) (i:Nat) (S':ae),hY F w ps x (vs.drop i) S'->Sub S' S->∃ Sg cg,aJ B F Sg cg (dI ps x i) a w/\(∀ l b,(dI ps x i).L l=some b->Sub (Sg l) S')/\(∀ l,(dI ps x i).U l=true->i*8<=l/\l % 8=6/\∀ b,(dI ps x i).L l=some b->cg l=(vs.getD (l / 8) undef).cells.toList):=by
 obtain⟨hB1,hB2,hB3,hB4⟩:=hB
 intro ps
 induction ps with
 |nil=>
  intro x i S' h gW
  refine⟨λ_=>ae.none,λ_=>[],?_,λl b h=>(by cases h),λl h=>(by cases h)⟩
  exact
  {fr:=⟨by rw[hB1],by rw[hB1],by rw[hB1],by rw[hB1];exact ar _,λk _ _=>by rw[hB1]⟩
   size:=hsz
   defers:=hde
   f0:=by rw[hB3];exact Sub.refl _
   fl:=hF
   fs:=λk hk _ _=>by rw[hB3];exact hk
   lab:=λl b h=>by cases h
   dis:=λl l' b b' _ h=>by cases h
   dG:=λl b h=>by cases h
   lt:=λl b h=>by cases h
   may:=λl b h=>by cases h
   used:=λl b h=>by cases h
   fix:=λl cs h=>by rw[hB4]at h;cases h
   ent:=λt e h=>by cases h}
 |cons p ps ih=>
  intro x i S' h gW
  obtain⟨v,vs',cs,S1,S2,e,h1,h2,h3,s1,s2,d⟩:=h
  have hi:i<vs.length:=by
   rcases av i vs.length with h|h
   ·exact h
   ·rw[ju h]at e;cases e
  have hv:vs.getD i undef=v:=by
   rw[dB hi]at e
   injection e with e1 e2
   simp[hi,e1]
  have LD:vs'=vs.drop (i+1):=by
   rw[<-List.tail_drop,e];rfl
  rw[LD]at h3
  obtain⟨Sg,cg,g1,g2,g3⟩:=ih x.2 (i+1) S2 h3 (s2.trans gW)
  have Hr:a.tmps.getD i undef=v:=by rw[ha i hi,hv]
  simp only[dI]
  cases hm:di p.2
  ·simp only[cond_false]
   have hU:(dI ps x.2 (i+1)).U (i*8+6)=false:=by
    cases hu:(dI ps x.2 (i+1)).U (i*8+6)
    ·rfl
    ·have:=(g3 _ hu).1;omega
   have i1:=g1.iH (w':=w) rfl rfl rfl (ar _) (l:=i*8+6) (b:=⟨0,p.1,p.2,x.1⟩) hU (upd (dI ps x.2 (i+1)).L (i*8+6) (some ⟨0,p.1,p.2,x.1⟩)) (λ_ _ _=>rfl) h1 (ay _ _ _) (λj hj=>.inr (aI _ _ hj))
    (λk hk=>⟨λj bj hj hbj hs=>by rw[aI _ _ hj]at hbj;exact d k hk (g2 j bj hbj k hs),λhf=>hSF k (gW k (s1 k hk)) hf,hS k (gW k (s1 k hk)),λ_=>by rw[hB2];exact gW k (s1 k hk)⟩)
   refine⟨_,_,i1.tC (s:=i) (e:=.one (.hdr (i*8+6) 0 [] ⟨p.1,x.1⟩)) (fw i1 (l:=i*8+6) (b:=⟨0,p.1,p.2,x.1⟩) (ay _ _ _) (by rw[Hr];simpa using h2)),λl b hl=>?_,λl hl=>?_⟩
   ·rcases eO hl with⟨e,_⟩|⟨e,e'⟩
    ·rw[if_pos e];exact s1
    ·rw[if_neg e];exact(g2 l b e').trans s2
   ·by_cases e:l=i*8+6
    ·refine⟨by omega,by omega,λb _=>?_⟩
     rw[if_pos e,show l / 8=i by omega,hv,h2.cells]
    ·have hl':(dI ps x.2 (i+1)).U l=true:=by
      simp only[aR]at hl
      rcases hl with hl|hl
      ·exact absurd (aV hl) e
      ·exact hl
     obtain⟨q1,q2,q3⟩:=g3 l hl'
     refine⟨by omega,q2,λb hb=>?_⟩
     rw[if_neg e]
     simp only[aI _ _ e]at hb
     exact q3 b hb
  ·simp only[cond_true]
   refine⟨Sg,cg,g1.tC (s:=i) (e:=.one (.val p.1 x.1)) ⟨cs,dV _ _ hm _ _ _ _ h1,by rw[Hr];exact h2⟩,λl b hl=>(g2 l b hl).trans s2,λl hl=>?_⟩
   obtain⟨q1,q2,q3⟩:=g3 l hl
   exact⟨by omega,q2,q3⟩
theorem tJ{t:TypeId}{v z:Value}(h:(Instr.loadAt t v).run P w=.ok z w):(do loadVar t (<-asAddr v):Sem Value).run P w=.ok z w:=by
 unfold Instr.loadAt Instr.sureAddr at h
 split at h
 ·simpa [asAddr]using h
 ·simp[stuck]at h
theorem vM{B:dh}{Sg:Nat->ae}{cg:Nat->List Value}{σ:St}(h:aJ B F Sg cg σ a w){TT:Tab}(hT:cd P TT){f:ResultVar->Sem Value}(hf:∀ t,f (.tmp t)=pure (a.tmps.getD t undef))(hf2:∀ t u,f (.cell t u)=(do loadVar u (<-asAddr (a.tmps.getD t undef)):Sem Value)):
 ∀ {ts:List ResultVar} {es:List aj},gT TT σ ts=some es->∃ vs,bW F w σ.L σ.U cg es vs/\(List.mapM f ts).run P w=.ok vs w:=by
 intro ts
 induction ts with
 |nil=>intro es he;simp only[gT,aW]at he;subst he;exact⟨[],rfl,by simp[aX]⟩
 |cons t ts ih=>
  intro es he
  simp only[gT]at he
  cases h1:Fu TT σ t with
  |none=>rw[h1]at he;cases he
  |some e=>
  rw[h1]at he
  simp only at he
  cases h2:gT TT σ ts with
  |none=>rw[h2]at he;cases he
  |some es'=>
  rw[h2]at he
  simp only[aW]at he
  subst he
  obtain⟨vs,g1,g2⟩:=ih h2
  have one:∃ z,aw F w σ.L σ.U cg e z/\(f t).run P w=.ok z w:=by
   cases t with
   |tmp t=>
    simp only[Fu]at h1
    split at h1
    ·rename_i e' hE
     injection h1 with h1
     subst h1
     exact⟨_,h.ent t _ hE,by rw[hf,aX]⟩
    ·cases h1
   |cell t u=>
    simp only[Fu]at h1
    split at h1
    ·rename_i e' hE
     cases hu:TT u with
     |none=>rw[hu]at h1;cases h1
     |some td=>
      rw[hu]at h1
      obtain⟨e2,z,k1,k2,k3⟩:=us h (hT u td hu) h1 (h.ent t _ hE)
      injection k1 with k1
      subst k1
      exact⟨z,k3,by rw[hf2];exact tJ k2⟩
    ·cases h1
  obtain⟨z,o1,o2⟩:=one
  refine⟨z::vs,⟨_,_,rfl,o1,g1⟩,?_⟩
  rw[List.mapM_cons]
  simp only[aD,o2,aF,g2,aX]
theorem Fy{B:dh}{Sg:Nat->ae}{cg:Nat->List Value}{σ:St}(h:aJ B F Sg cg σ a w){F2:ae}(hFF:Sub F F2){vs:List Value}{mi0:List Nat}(LF:∀ i,i∈mi0->∀ b,σ.L (i*8+6)=some b->b.t.agg=false->VR b.t (cg (i*8+6)) (vs.getD i undef)){R:Type}:∀ (ms:List (Ty×Md)) (mi:List Nat) (L:Nat->Option Lab) (K:(dx ms).T->(Nat->Option Lab)->Option R) (r:R),Fv ms mi L K=some r->(∀ i∈mi,i∈mi0)->(∀ j,L j=none\/L j=σ.L j)->
 ∃ ys L' Sm,K ys L'=some r/\hY F2 w ms ys (mi.map λi=>vs.getD i undef) Sm/\(∀ j,L' j=none\/L' j=L j)/\(∀ k,Sm k->∃ l2 b2,L l2=some b2/\σ.L l2=some b2/\L' l2=none/\Sg l2 k):=by
 intro ms
 induction ms with
 |nil=>
  intro mi L K r hk hmi hL
  cases mi with
  |nil=>exact⟨(),L,ae.none,hk,rfl,λ_=>.inr rfl,λ_ h=>h.elim⟩
  |cons _ _=>cases hk
 |cons p ms ih=>
  intro mi L K r hk hmi hL
  cases mi with
  |nil=>cases hk
  |cons i mi=>
   simp only[Fv]at hk
   cases hl:L (i*8+6)with
   |none=>rw[hl]at hk;cases hk
   |some b=>
    rw[hl]at hk
    obtain⟨v,t,m,x⟩:=b
    simp only at hk
    split at hk
    ·rename_i ht
     cases hm:decide (m=p.2)&&!p.1.agg
     ·rw[hm]at hk;cases hk
     rw[hm]at hk
     simp only[cond_true]at hk
     simp only[ag,bq]at hm
     obtain⟨hm,hag⟩:=hm
     replace hm:=of_decide_eq_true hm
     have hσ:σ.L (i*8+6)=some ⟨v,t,m,x⟩:=by
      rcases hL (i*8+6)with e|e
      ·rw[e]at hl;cases hl
      ·rw[<-e];exact hl
     have hLu:∀ j,upd L (i*8+6) none j=none\/upd L (i*8+6) none j=L j:=λj=>by
      by_cases e:j=i*8+6
      ·subst e;exact .inl (ay _ _ _)
      ·exact .inr (aI _ _ e)
     obtain⟨ys,L',Sm,g1,g2,g3,g4⟩:=ih mi _ _ r hk (λi hi=>hmi i (by simp[hi])) (λj=>by
      rcases hLu j with e|e
      ·exact .inl e
      ·rw[e];exact hL j)
     have bh:=aP hFF (λ_ _=>rfl) _ _ _ _ _ _ (h.lab _ _ hσ) (Sub.refl _) (λ_ _=>rfl)
     have hvr:=LF i (hmi i (by simp)) _ hσ (show t.agg=false by rw[ht];exact hag)
     have LG:L' (i*8+6)=none:=by
      rcases g3 (i*8+6)with e|e
      ·exact e
      ·rw[e];exact ay _ _ _
     obtain⟨p1,p2⟩:=p
     simp only at ht hm
     subst ht;subst hm
     refine⟨(x,ys),L',(Sg (i*8+6)).or Sm,g1,⟨_,_,_,Sg (i*8+6),Sm,rfl,bh,hvr,g2,λk h=>.inl h,λk h=>.inr h,λk h1 h2=>?_⟩,λj=>?_,λk hk=>?_⟩
     ·obtain⟨l2,b2,q1,q2,q3,q4⟩:=g4 k h2
      by_cases e:i*8+6=l2
      ·subst e;rw[ay]at q1;cases q1
      ·exact h.dis _ l2 _ b2 e hσ q2 k h1 q4
     ·rcases g3 j with e|e
      ·exact .inl e
      ·rw[e];exact hLu j
     ·rcases hk with hk|hk
      ·exact⟨_,_,hl,hσ,LG,hk⟩
      ·obtain⟨l2,b2,q1,q2,q3,q4⟩:=g4 k hk
       refine⟨l2,b2,?_,q2,q3,q4⟩
       rcases hLu l2 with e|e
       ·rw[e]at q1;cases q1
       ·rw[<-e];exact q1
    ·cases hk
theorem vN{B:dh}{Sg:Nat->ae}{cg:Nat->List Value}{σ:St}(h:aJ B F Sg cg σ a w){TT:Tab}(hT:cd P TT){fn:Func}{rv:List ResultVar}(hr:fn.results=rv.toArray){es:List aj}(he:gT TT σ rv=some es):∃ vs,bW F w σ.L σ.U cg es vs/\(results fn a.tmps).run P w=.ok (xf vs) w:=by
 unfold results
 rw[hr,aD,Array.mapM_eq_mapM_toList]
 generalize hf:(λx:ResultVar=>(match x with
  |.tmp t=>pure (a.tmps.getD t undef)
  |.cell c t=>do loadVar t (<-asAddr (a.tmps.getD c undef)):Sem Value))=f
 obtain⟨vs,g1,g2⟩:=vM h hT (f:=f) (λt=>by rw[<-hf]) (λt u=>by rw[<-hf]) he
 refine⟨vs,g1,?_⟩
 rw[show Sem.run P (List.toArray <$> List.mapM f rv.toArray.toList) w=.ok vs.toArray w by
  change Sem.run P (List.mapM f rv >>= λl=>pure l.toArray) w=_
  simp only[aD,g2,aF,aX]]
 simp only[aF,aX]
 congr 1
 cases vs with
 |nil=>simp[xf]
 |cons t rv=>
  cases rv with
  |nil=>simp[xf]
  |cons t2 rv=>simp[xf]
theorem hY.get:∀ {ps:List (Ty×Md)} {x:(dx ps).T} {vs:List Value} {S:ae} (i:Nat) (p:Ty×Md),hY F w ps x vs S->ps[i]?=some p->∃ cs,VR p.1 cs (vs.getD i undef):=by
 intro ps
 induction ps with
 |nil=>intro x vs S i p _ h;simp at h
 |cons q ps ih=>
  rintro x vs S i p ⟨v,vs',cs,S1,S2,rfl,h1,h2,h3,_⟩ hi
  cases i with
  |zero=>simp at hi;subst hi;exact⟨cs,h2⟩
  |succ i=>simp at hi;simpa using ih i p h3 hi
theorem Iu:∀ (ps:List (Ty×Md)) (x:(dx ps).T) (i j:Nat) (p:Ty×Md),ps[j]?=some p->di p.2=false->(dI ps x i).U ((i+j)*8+6)=true:=by
 intro ps
 induction ps with
 |nil=>intro x i j p h;simp at h
 |cons q ps ih=>
  intro x i j p h hp
  cases j with
  |zero=>
   simp at h
   subst h
   simp only[dI,hp,cond_false,fM,cr,jC]
  |succ j=>
   simp at h
   have:=ih x.2 (i+1) j p h hp
   rw[show i+1+j=i+(j+1) by omega]at this
   simp only[dI]
   cases di q.2
   ·simp only[cond_false,this,Bool.or_true]
   ·exact this
theorem CN{ps:List (Ty×Md)}:∀ {mi:List Nat},CM ps mi=true->∀ i∈mi,∃ p,ps[i]?=some p/\di p.2=false/\p.1.agg=false:=by
 intro mi
 induction mi with
 |nil=>intro _ i h;simp at h
 |cons j mi ih=>
  intro h i hi
  simp only[CM,ag]at h
  rcases aH.1 hi with rfl|hi
  ·cases hp:ps[i]? with
   |none=>rw[hp]at h;exact absurd h.1 (by simp)
   |some p=>
    rw[hp]at h
    simp only[ag,bq]at h
    exact⟨p,rfl,h.1⟩
  ·exact ih h.2 i hi
theorem J6{V:Env}(hV:fh P V){f:FuncId}{fn:Func}{c:Code}(hf:P.funcs[f]?=some fn)(hb:fn.body=some c){ps rs:List (Ty×Md)}{mi:List Nat}{ms:List (Ty×Md)}{rv:List ResultVar}(hr:fn.results=rv.toArray){N:Nat}(hN:fn.ntmps=N)(hps:ps.length<=N)(hmi:CM ps mi=true)(an:Ann)(n:Nat):
 jJ P f ⟨ps,rs,mi,ms,yz V N n c an ps rs mi ms rv⟩:=by
 intro x r hx F w S vs iJ hSF hF hS hG
 refine tH hf hb ?_
 have hlen:=iJ.len
 simp only at hlen
 have hx:yz V N n c an ps rs mi ms rv x=some r:=hx
 have iJ:hY F w ps x vs S:=iJ
 generalize ha0:({tmps:=vs.toArray++Array.replicate (fn.ntmps-vs.toArray.size) undef,defers:=[]}:Act)=a0
 have hsz:a0.tmps.size=N:=by rw[<-ha0];simp;omega
 have hde:a0.defers=[]:=by rw[<-ha0]
 have zz:∀ t,t<vs.length->a0.tmps.getD t undef=vs.getD t undef:=λt ht=>by
  rw[<-ha0]
  simp only[dM]
  rw[nV (by simpa using ht)]
  simp
 obtain⟨Sg,cg,i0,_,i2⟩:=Fx (a:=a0) (B:=⟨w,S,F,N,λ_=>none,hG,λp hp h=>hSF p h (hG p hp).1,λp hp=>hF p (hG p hp).1⟩) ⟨rfl,rfl,rfl,λ_=>rfl⟩ hsz hde zz hSF hF hS ps x 0 S (by simpa using iJ) (Sub.refl _)
 let B:dh:=⟨w,S,F,N,λl=>if(dI ps x 0).U l=true then some ((vs.getD (l / 8) undef).cells.toList)else none,hG,λp hp h=>hSF p h (hG p hp).1,λp hp=>hF p (hG p hp).1⟩
 have i1:aJ B F Sg cg (dI ps x 0) a0 w:=
  {i0 with
   fr:=i0.fr
   fix:=λl cs hl=>by
    simp only[B]at hl
    by_cases hu:(dI ps x 0).U l=true
    ·rw[if_pos hu]at hl
     injection hl with hl
     obtain⟨_,q2,q3⟩:=i2 l hu
     exact⟨⟨hu,q2⟩,λb hb=>by rw[<-hl];exact q3 b hb⟩
    ·rw[if_neg hu]at hl;cases hl}
 have hwp:=Ft (B:=B) hV n c an (dI ps x 0) _ r a0 w hx ⟨F,Sg,cg,i1⟩
 have fin:∀ (σ':St) (a':Act) (w':World),Fw V.TT rs mi ms rv σ'=some r->Inv B σ' a' w'->a'.defers=[]/\∃ v,(results fn a'.tmps).run P w'=.ok v w'/\qs ⟨ps,rs,mi,ms,yz V N n c an ps rs mi ms rv⟩ r F w S vs (.returned v) w':=by
  rintro σ' a' w' hk ⟨F',Sg',cg',h⟩
  unfold Fw at hk
  cases hes:gT V.TT σ' rv with
  |none=>rw[hes]at hk;cases hk
  |some es=>
  rw[hes]at hk
  simp only at hk
  obtain⟨ws,J7,bE⟩:=vN h hV.tab hr hes
  refine⟨h.defers,_,bE,?_⟩
  obtain⟨x',L1,bs,Sr,hk,hA,hL1,hSr,hbs⟩:=uH h rs es _ σ'.L _ r hk J7 (λ_=>.inr rfl)
  have hFF:Sub F' (λk=>F' k\/∃ l∈bs,Sg' l k):=λk hk=>.inl hk
  obtain⟨ys,L2,Sm,hk,hM,hL2,hSm⟩:=Fy h hFF (vs:=vs) (mi0:=mi) (λi hi b hb hag=>by
   obtain⟨p,hp,ho,hpa⟩:=CN hmi i hi
   have hU:=Iu ps x 0 i p hp ho
   rw[dF]at hU
   have hq:=(h.fix (i*8+6) ((vs.getD i undef).cells.toList) (by
    simp only[B]
    rw[if_pos hU,show(i*8+6) / 8=i by omega])).2 b hb
   obtain⟨cs,hcs⟩:=iJ.get i p hp
   rw[hq,hcs.cells]
   unfold VR at hcs |-
   rw[hpa]at hcs
   rw[hag]
   exact hcs) ms mi L1 _ r hk (λ_ h=>h) hL1
  cases hP:bs.all λl=>(L2 l).isSome
  ·rw[hP]at hk;cases hk
  rw[hP]at hk
  simp only[cond_true,aW]at hk
  subst hk
  simp only[cO]at hP
  have hbl:∀ l∈bs,∃ b,L2 l=some b/\L1 l=some b/\σ'.L l=some b:=λl hl=>by
   obtain⟨b,hb⟩:=jo.1 (hP l hl)
   have h1:L1 l=some b:=by
    rcases hL2 l with e|e
    ·rw[e]at hb;cases hb
    ·rw[<-e];exact hb
   refine⟨b,hb,h1,?_⟩
   rcases hL1 l with e|e
   ·rw[e]at h1;cases h1
   ·rw[<-e];exact h1
  have LH:∀ k,Sr k\/Sm k->¬∃ l∈bs,Sg' l k:=by
   rintro k hk ⟨l,hl,hlk⟩
   obtain⟨b,q1,q2,q3⟩:=hbl l hl
   rcases hk with hk|hk
   ·obtain⟨l2,b2,e1,e2,e3,e4⟩:=hSr k hk
    by_cases e:l2=l
    ·subst e;rw[e3]at q2;cases q2
    ·exact h.dis l2 l b2 b e e2 q3 k e4 hlk
   ·obtain⟨l2,b2,e1,e2,e3,e4⟩:=hSm k hk
    by_cases e:l2=l
    ·subst e;rw[e3]at q1;cases q1
    ·exact h.dis l2 l b2 b e e2 q3 k e4 hlk
  refine⟨_,λk=>F' k\/∃ l∈bs,Sg' l k,Sr,Sm,rfl,hA _ hFF (λl hl k hk=>.inr ⟨l,hl,hk⟩),hM,?_,h.fr,?_,?_,?_,?_⟩
  ·intro k h1 h2
   obtain⟨l2,b2,e1,e2,e3,e4⟩:=hSr k h1
   obtain⟨l3,b3,f1,f2,f3,f4⟩:=hSm k h2
   by_cases e:l2=l3
   ·subst e;rw[e3]at f1;cases f1
   ·exact h.dis l2 l3 b2 b3 e e2 f2 k e4 f4
  ·exact λk hk=>.inl (h.f0 k hk)
  ·rintro k (hk|⟨l,hl,hk⟩)
   ·exact h.fl k hk
   ·obtain⟨b,_,_,q3⟩:=hbl l hl;exact h.lt l b q3 k hk
  ·rintro k (hk|⟨l,hl,hk⟩) hlt hns
   ·exact h.fs k hk hlt hns
   ·obtain⟨b,_,_,q3⟩:=hbl l hl;exact absurd (h.may l b q3 k hk hlt) hns
  ·intro k hk
   have hl2:∃ l2 b2,σ'.L l2=some b2/\Sg' l2 k:=by
    rcases hk with hk|hk
    ·obtain⟨l2,b2,e1,e2,e3,e4⟩:=hSr k hk;exact⟨l2,b2,e2,e4⟩
    ·obtain⟨l2,b2,e1,e2,e3,e4⟩:=hSm k hk;exact⟨l2,b2,e2,e4⟩
   obtain⟨l2,b2,e2,e4⟩:=hl2
   exact⟨h.lt l2 b2 e2 k e4,λhf=>hf.elim (h.dG l2 b2 e2 k e4) (LH k hk),λhlt=>h.may l2 b2 e2 k e4 hlt⟩
 exact fU hwp (λe a' w' hp=>by
  cases e with
  |normal=>obtain⟨σ',h1,h2,_⟩:=hp;exact fin σ' a' w' h1 h2
  |ret=>obtain⟨σ',h1,h2⟩:=hp;exact fin σ' a' w' h1 h2
  |exit i=>obtain⟨σ',h1,_⟩:=hp;cases h1
  |goto _=>exact hp.elim
  |panic _=>exact hp.elim
  |outgrown=>exact hp.elim)
end
def vO:List (Nat×TD)->Tab
 |[]=>λ_=>none
 |p::ps=>λt=>bif Nat.beq t p.1 then some p.2 else vO ps t
def J8(P:Program):List (Nat×TD)->Prop
 |[]=>True
 |p::ps=>TOk P p.1 p.2/\J8 P ps
theorem CO{P:Program}:∀ {l:List (Nat×TD)},J8 P l->cd P (vO l):=by
 intro l
 induction l with
 |nil=>intro _ t d h;cases h
 |cons p ps ih=>
  intro hl t d h
  simp only[vO]at h
  cases hb:Nat.beq t p.1
  ·rw[hb]at h;exact ih hl.2 t d h
  ·rw[hb]at h
   simp only[cond_true,aW]at h
   subst h
   rw[aV hb]
   exact hl.1
theorem ak{P:Program}{t:Nat}{i:TypeInfo}{d:TD}{z:Value}(h:∀ w:World,(typeInfo t).run P w=.ok i w)(h1:i.size=d.ty.width)(h2:i.bytes=d.bytes)(h3:i.zero=some z)(h4:z.cells.toList=d.zero):∃ i z,P.info? t=some i/\i.size=d.ty.width/\i.bytes=d.bytes/\i.zero=some z/\z.cells.toList=d.zero:=by
 refine⟨i,z,?_,h1,h2,h3,h4⟩
 have h0:=h default
 cases hi:P.info? t with
 |none=>simp[typeInfo,hi]at h0
 |some j=>
  simp[typeInfo,hi]at h0
  rw[h0]
theorem hC{P:Program}{t:Nat}{i:TypeInfo}{d:TD}{k0:IntKind}(hd:d.kd=.int k0)(h:∀ w:World,(typeInfo t).run P w=.ok i w)(h3:i.zero=some (.int k0 0)):∀ k,d.kd=.int k->∃ i,P.info? t=some i/\i.zero=some (.int k 0):=by
 intro k hk
 rw[hd]at hk
 cases hk
 have h0:=h default
 cases hi:P.info? t with
 |none=>simp[typeInfo,hi]at h0
 |some j=>
  simp[typeInfo,hi]at h0
  exact⟨j,rfl,by rw[h0];exact h3⟩
theorem aM{P:Program}{t:Nat}{d:TD}(hd:(match d.kd with|.int _=>false|_=>true)=true):∀ k,d.kd=.int k->∃ i,P.info? t=some i/\i.zero=some (.int k 0):=by
 intro k hk
 rw[hk]at hd
 cases hd
def yA:List (FuncId×Callee)->FuncId->Option Callee
 |[],_=>none
 |p::ps,f=>bif Nat.beq f p.1 then some p.2 else yA ps f
def Iv(P:Program):List (FuncId×Callee)->Prop
 |[]=>True
 |p::ps=>(jJ P p.1 p.2/\Plain P p.1)/\Iv P ps
theorem CP{P:Program}:∀ {l:List (FuncId×Callee)},Iv P l->∀ f c,yA l f=some c->jJ P f c/\Plain P f:=by
 intro l
 induction l with
 |nil=>intro _ f c h;cases h
 |cons p ps ih=>
  intro hl f c h
  simp only[yA]at h
  cases hb:Nat.beq f p.1
  ·rw[hb]at h;exact ih hl.2 f c h
  ·rw[hb]at h
   simp only[cond_true,aW]at h
   subst h
   rw[aV hb]
   exact hl.1
theorem jJ.of_eq{P:Program}{f:FuncId}{ps rs:List (Ty×Md)}{mi:List Nat}{ms:List (Ty×Md)}{den Iw:(dx ps).T->Option ((dx rs).T×(dx ms).T)}(h:jJ P f ⟨ps,rs,mi,ms,den⟩)(he:∀ x,Iw x=den x):jJ P f ⟨ps,rs,mi,ms,Iw⟩:=by
 have:Iw=den:=funext he
 rw[this];exact h
def AJ(rd:TypeId->Ty->Bool):List (TypeId×Nat)->Ty->Nat->Bool
 |[],u,_=>(match u with|.unit=>true|_=>false)
 |[p],u,k=>Nat.beq p.2 k&&rd p.1 u
 |p::q::fs,u,k=>(match u with
  |.pair a b=>Nat.beq p.2 k&&(rd p.1 a&&AJ rd (q::fs) b (k+a.width))
  |_=>false)
def pI(TT:Tab):Nat->TypeId->Ty->Bool
 |0,_,_=>false
 |n+1,t,ty=>match TT t with
  |none=>false
  |some d=>decide (d.ty=ty)&&(match d.kd with
   |.int k=>decide (ty=.int k)
   |.bool=>decide (ty=.bool)
   |.str=>decide (ty=.str)
   |.slice e=>(match ty with|.sl u=>pI TT n e u&&Nat.blt 0 u.width|_=>false)
   |.array m e=>(match ty with|.arr m' u=>Nat.beq m m'&&pI TT n e u|_=>false)
   |.struct fs=>(match ty with|.st u=>AJ (pI TT n) fs u 0|_=>false)
   |_=>false)
theorem lj{TT:Tab}{P:Program}(hT:cd P TT){n:Nat}{t:TypeId}{ty:Ty}(h:pI TT n t ty=true):P.cellsOf t=ty.width:=by
 cases n with
 |zero=>cases h
 |succ n=>
  simp only[pI]at h
  cases hd:TT t with
  |none=>rw[hd]at h;cases h
  |some d=>
   rw[hd]at h
   simp only[ag,decide_eq_true_eq]at h
   obtain⟨i,z,h1,h2,_⟩:=(hT t d hd).ry
   simp[Program.cellsOf,h1,h2,h.1]
theorem mapM_some{α β:Type}{f:α->Option β}:∀ {l:List α} {xs:List β},l.mapM f=some xs->xs.length=l.length/\∀ (i:Nat) (a:α),l[i]?=some a->∃ x:β,xs[i]?=some x/\f a=some x:=by
 intro l
 induction l with
 |nil=>intro xs h;simp at h;subst h;exact⟨rfl,λi a h=>by simp at h⟩
 |cons a l ih=>
  intro xs h
  rw[List.mapM_cons]at h
  cases ha:f a with
  |none=>rw[ha]at h;cases h
  |some b=>
   rw[ha]at h
   cases hl:l.mapM f with
   |none=>rw[hl]at h;cases h
   |some bs=>
    rw[hl]at h
    have h:some (b::bs)=some xs:=h
    injection h with h
    subst h
    obtain⟨h1,h2⟩:=ih hl
    refine⟨by simp[h1],λi x hi=>?_⟩
    cases i with
    |zero=>simp at hi;subst hi;exact⟨b,rfl,ha⟩
    |succ i=>simp at hi;simpa using h2 i x hi
section
variable {H:Type} {enc:TypeId×Value->H} {P:Program} {w:World}
theorem CQ{a:Addr}{n:Nat}{cs:List Value}(h:w.cells? 0 a n=some cs):cs.length=n/\At w a cs:=by
 unfold World.cells? at h
 rw[if_pos (bT _)]at h
 obtain⟨h1,h2⟩:=mapM_some h
 refine⟨by simpa using h1,λj v hj=>?_⟩
 have hlt:j<n:=by have:=(bB.1 hj).1;simp at h1;omega
 obtain⟨x,hx,hc⟩:=h2 j j (by simp[hlt])
 rw[hj]at hx
 injection hx with hx
 rw[hx];exact hc
theorem Fz{t:Ty}{F:ae}{a:Addr}{len:Nat}(h:∀ i,i<len->∃ cs x,w.cells? 0 (a.add (i*t.width)) t.width=some cs/\Rep F w t .ro x cs ae.none):∃ (xs:List t.T) (ds:List Value),xs.length=len/\At w a ds/\ds.length=len*t.width/\aY (Rep F w t .ro) xs ds ae.none:=by
 induction len with
 |zero=>exact⟨[],[],rfl,λj v hj=>by simp at hj,by simp,rfl⟩
 |succ len ih=>
  obtain⟨xs,ds,h1,h2,h3,h4⟩:=ih (λi hi=>h i (by omega))
  obtain⟨cs,x,h5,h6⟩:=h len (by omega)
  obtain⟨h7,h8⟩:=CQ h5
  refine⟨xs++[x],ds++cs,by simp[h1],λj v hj=>?_,by rw[al,h3,h7,ir],?_⟩
  ·rcases av j ds.length with hlt|hge
   ·rw[ig hlt]at hj;exact h2 j v hj
   ·rw[jn hge]at hj
    have:=h8 (j-ds.length) v hj
    rw[add_add,<-h3]at this
    rw[show ds.length+(j-ds.length)=j by omega]at this
    exact this
  ·have h7:aY (Rep F w t .ro) [x] cs ae.none:=⟨cs,[],ae.none,ae.none,by simp,h6,rfl,Sub.refl _,Sub.refl _,λ_ h=>h.elim⟩
   exact(aY.append h4 h7 (λ_ h=>h.elim)).mono (λk h=>h.elim id id)
theorem FA{a:Addr}{v:Value}(h:w.cell? a=some v):a.block<w.heap.size:=by
 rcases av a.block w.heap.size with h'|h'
 ·exact h'
 ·simp[World.cell?,Array.getElem?_eq_none h']at h
def LtB(w:World):ae:=λk=>k<w.heap.size
theorem Ix{TT:Tab}(hT:cd P TT){n:Nat}{F:ae}{g:TypeId->List Value->Prop}
 (ih:∀ t ty cs,pI TT n t ty=true->g t cs->∃ x,Rep F w ty .ro x cs ae.none):
 ∀ (fs:List (TypeId×Nat)) (u:Ty) (k:Nat) (cs:List Value),AJ (pI TT n) fs u k=true->k<=cs.length->(cs.length=k+u.width)->
  (∀ f∈fs,g f.1 ((cs.drop f.2).take (P.cellsOf f.1)))->∃ x,Rep F w u .ro x (cs.drop k) ae.none:=by
 intro fs
 induction fs with
 |nil=>
  intro u k cs h hk hl _
  cases u <;> simp only[AJ,aE]at h
  exact⟨(),ju (by simp[Ty.width]at hl;omega)⟩
 |cons p fs ihf=>
  intro u k cs h hk hl hg
  cases fs with
  |nil=>
   simp only[AJ,ag]at h
   obtain⟨x,hx⟩:=ih p.1 u _ h.2 (hg p (by simp))
   rw[aV h.1,lj hT h.2,dC (by rw[bm];omega)]at hx
   exact⟨x,hx⟩
  |cons q fs=>
   simp only[AJ]at h
   cases u <;> simp only[aE,ag]at h
   rename_i a b
   obtain⟨h1,h2,h3⟩:=h
   simp only[Ty.width]at hl
   obtain⟨x,hx⟩:=ih p.1 a _ h2 (hg p (by simp))
   obtain⟨y,hy⟩:=ihf b (k+a.width) cs h3 (by omega) (by omega) (λf hf=>hg f (by simp only[aH]at hf |-;exact .inr hf))
   rw[aV h1,lj hT h2]at hx
   refine⟨(x,y),_,_,ae.none,ae.none,?_,hx,hy,Sub.refl _,Sub.refl _,λ_ h=>h.elim⟩
   rw[<-fL]
   exact(dN _ _).symm
theorem CR{TT:Tab}(hT:cd P TT){spare:Nat->Bool}{held:Bool}:∀ (n:Nat) (t:TypeId) (ty:Ty),pI TT n t ty=true->∀ (bM:Nat) (cs:List Value) (d:DataW H×List MemPlace),DataW.trod enc P w 0 spare held bM t cs=some d->∃ x,Rep (LtB w) w ty .ro x cs ae.none:=by
 intro n
 induction n with
 |zero=>intro t ty h;cases h
 |succ n ih=>
  intro t ty h bM cs d hd
  have J9:=lj hT h
  simp only[pI]at h
  cases hdd:TT t with
  |none=>rw[hdd]at h;cases h
  |some td=>
  rw[hdd]at h
  simp only[ag,decide_eq_true_eq]at h
  obtain⟨hty,h⟩:=h
  have bp:=(hT t td hdd).desc
  split at h
  ·rename_i k hk
   rw[hk]at bp
   have h:=of_decide_eq_true h
   subst h
   obtain⟨m,rfl,_,hwf⟩:=DataW.trod_int bp.1 hd
   refine⟨m,rfl,?_⟩
   simp only[Lit.wf,ag,decide_eq_true_eq]at hwf
   revert hwf
   cases k <;> simp[inK,kLo,kHi,IntKind.min,IntKind.max,IntKind.signed,IntKind.bits] <;> omega
  ·rename_i hk
   rw[hk]at bp
   have h:=of_decide_eq_true h
   subst h
   obtain⟨m,rfl,_⟩:=DataW.trod_bool bp.1 hd
   exact⟨m,rfl⟩
  ·rename_i hk
   rw[hk]at bp
   have h:=of_decide_eq_true h
   subst h
   obtain⟨m,rfl,_,hs⟩:=DataW.trod_string bp.1 hd
   exact⟨bQ m,m,rfl,rfl,hs⟩
  ·rename_i e hk
   rw[hk]at bp
   cases ty <;> simp only[aE]at h
   rename_i u
   simp only[ag]at h
   obtain⟨h,hw0⟩:=h
   have hw0:=show 0<u.width by simpa [jD]using hw0
   rcases DataW.trod_slice bp hd with⟨rfl,_⟩|⟨a,len,cap,Hs,rest,m,_,rfl,_,_,h1,h2,h3,h4,_⟩
   ·exact⟨[],none,0,rfl,ar _,bT _,λh=>absurd h (dR _)⟩
   ·have iX:=lj hT h
    have fi:∀ i,i<len->∃ cs x,w.cells? 0 (a.add (i*u.width)) u.width=some cs/\Rep (LtB w) w u .ro x cs ae.none:=λi hi=>by
     have:=h4 i hi
     rw[iX]at this
     cases hc:w.cells? 0 (a.add (i*u.width)) u.width with
     |none=>rw[hc]at this;simp[au (show i<Hs.length by omega)]at this
     |some cs=>
      rw[hc]at this
      simp only[fI]at this
      rw[au (show i<Hs.length by omega)]at this
      obtain⟨x,hx⟩:=ih e u h _ _ _ this
      exact⟨cs,x,rfl,hx⟩
    obtain⟨xs,ds,g1,g2,g3,g4⟩:=Fz fi
    refine⟨xs,some a,cap,?_,by rw[g1];exact h1,h2,λhp=>⟨a,rfl,?_,ds,g2,g4⟩⟩
    ·show _=[Value.slice (some a) (List.length xs) cap];rw[g1]
    ·have h0:0<ds.length:=by rw[g3];rw[g1]at hp;exact Nat.mul_pos hp hw0
     have hcc:=g2 0 ds[0] (by simp[h0])
     have:=FA hcc
     rwa [iw]at this
  ·rename_i m e hk
   rw[hk]at bp
   cases ty <;> simp only[aE]at h
   rename_i m' u
   simp only[ag]at h
   obtain⟨h,hw0⟩:=h
   have h:=aV h
   subst h
   obtain⟨xs,k,_,_,g1,g2,g3⟩:=DataW.trod_array bp hd
   have iX:=lj hT hw0
   rw[J9]at g1
   have key:∀ j,j<=m->∃ ys:List u.T,ys.length=j/\aY (Rep (LtB w) w u .ro) ys (cs.take (j*u.width)) ae.none:=by
    intro j
    induction j with
    |zero=>intro _;exact⟨[],rfl,by simp[aY]⟩
    |succ j ihj=>
     intro hj
     obtain⟨ys,q1,q2⟩:=ihj (by omega)
     have:=g3 j (by omega)
     rw[iX,au (show j<xs.length by omega)]at this
     obtain⟨x,hx⟩:=ih e u hw0 _ _ _ this
     refine⟨ys++[x],by simp[q1],?_⟩
     have e1:cs.take ((j+1)*u.width)=cs.take (j*u.width)++(cs.drop (j*u.width)).take u.width:=by
      rw[ir,List.take_add]
     rw[e1]
     have h7:aY (Rep (LtB w) w u .ro) [x] ((cs.drop (j*u.width)).take u.width) ae.none:=⟨_,[],ae.none,ae.none,(cQ _).symm,hx,rfl,Sub.refl _,Sub.refl _,λ_ h=>h.elim⟩
     exact(aY.append q2 h7 (λ_ h=>h.elim)).mono (λk h=>h.elim id id)
   obtain⟨ys,q1,q2⟩:=key m (ar _)
   rw[dC (by rw[g1];exact ar _)]at q2
   exact⟨ys,q1,q2⟩
  ·rename_i fs hk
   rw[hk]at bp
   obtain⟨f,hf1,hf2⟩:=bp
   cases ty <;> simp only[aE]at h
   rename_i u
   obtain⟨xs,k,_,_,g1,g2,g3⟩:=DataW.trod_struct hf1 hd
   rw[J9]at g1
   obtain⟨x,hx⟩:=Ix hT (F:=LtB w) (g:=λt cs=>∃ d,DataW.trod enc P w 0 spare held k t cs=some d) (λt ty cs hr hg=>by obtain⟨d,hg⟩:=hg;exact ih t ty hr _ _ _ hg) fs u 0 cs h (bT _) (by rw[g1];simp[Ty.width]) (λp hp=>by
    rw[<-hf2]at hp
    obtain⟨fl,hfl,rfl⟩:=iu.1 hp
    obtain⟨i,hi⟩:=jw.1 hfl
    have hi':f[i]?=some fl:=by simpa using hi
    have hlt:i<f.size:=(ie.1 hi').1
    exact⟨_,(g3 i fl hi').trans (au (show i<xs.length by omega))⟩)
   rw[da]at hx
   exact⟨x,hx⟩
  ·cases h
end
def WfT:(t:Ty)->t.T->Prop
 |.int k,n=>inK k n
 |.bool,_=>True
 |.str,s=>List.length s<=maxLen/\∀ c∈(s:List Int),0<=c/\c<=255
 |.unit,_=>True
 |.pair a b,x=>WfT a x.1/\WfT b x.2
 |.st t,x=>WfT t x
 |.sl t,x=>List.length x<=maxLen/\∀ y∈(x:List t.T),WfT t y
 |.arr n t,x=>List.length x=n/\∀ y∈(x:List t.T),WfT t y
 |.box t,x=>WfT t x
 |.ptr _,none=>True
 |.ptr t,some x=>WfT t x
 |.iz,_=>True
 |.hol _,_=>True
 |.chan,_=>True
 |.fn _,_=>True
 |.may _,_=>True
 |.nl t,x=>List.length x<=maxLen/\∀ y∈(x:List t.T),WfT t y
 |.map k v,x=>∀ p∈(x:List (k.T×v.T)),WfT k p.1/\WfT v p.2
theorem nv{α:Type}{R:α->List Value->ae->Prop}{p:α->Prop}(hp:∀ y c S,R y c S->p y):∀ {x:List α} {cs:List Value} {S:ae},aY R x cs S->∀ y∈x,p y:=by
 intro x
 induction x with
 |nil=>intro cs S _ y hy;simp at hy
 |cons z zs ih=>
  rintro cs S ⟨c1,c2,S1,S2,rfl,h1,h2,_⟩ y hy
  rcases aH.1 hy with rfl|hy
  ·exact hp _ _ _ h1
  ·exact ih h2 y hy
theorem Iy{F:ae}{w:World}:∀ (t:Ty) (m:Md) (x:t.T) (cs:List Value) (S:ae),Rep F w t m x cs S->WfT t x:=by
 intro t
 induction t with
 |int k=>intro m x cs S h;exact h.2
 |bool=>intro m x cs S h;trivial
 |str=>
  rintro m x cs S ⟨u,rfl,rfl,hs⟩
  refine⟨by simpa [bQ]using hs,λc hc=>?_⟩
  obtain⟨b,_,rfl⟩:=iu.1 hc
  have:=b.toNat_lt
  omega
 |unit=>intro m x cs S h;trivial
 |iz=>intro m x cs S h;trivial
 |hol t ih=>intro m x cs S h;trivial
 |chan=>intro m x cs S h;trivial
 |fn f=>intro m x cs S h;trivial
 |nl t ih=>
  rintro m x cs S ⟨⟨a,cap,rfl,h1,h2,h3⟩,_⟩
  refine⟨bn h1 h2,λy hy=>?_⟩
  obtain⟨ad,_,_,ds,_,hr⟩:=h3 (n5 hy)
  exact nv (λy c S h=>ih _ _ _ _ h) hr y hy
 |map k v ihk ihv=>
  intro m x cs S h
  have main:∀ (es:List MapEntry) (i:Nat),dq (RV (Rep F w k .ro)) (RV (Rep F w v .ro)) x es i->∀ p∈(x:List (k.T×v.T)),WfT k p.1/\WfT v p.2:=by
   clear h
   induction x with
   |nil=>intro es i _ p hp;simp at hp
   |cons y ys ih=>
    rintro es i ⟨e,r,rfl,_,⟨ck,hk,_⟩,⟨cv,hv,_⟩,hr⟩ p hp
    rcases aH.1 hp with rfl|hp
    ·exact⟨ihk _ _ _ _ hk,ihv _ _ _ _ hv⟩
    ·exact ih r (i+1) hr p hp
  cases m with
  |own m=>obtain⟨b,es,_,_,_,hr⟩:=h;exact main _ _ hr
  |ro=>
   rcases h with⟨_,rfl⟩|⟨b,es,_,_,_,hr⟩
   ·intro p hp;simp at hp
   ·exact main _ _ hr
  |pr _ _=>
   rcases h with⟨_,rfl⟩|⟨b,es,_,_,_,hr⟩
   ·intro p hp;simp at hp
   ·exact main _ _ hr
 |may t ih=>intro m x cs S h;trivial
 |pair a b iha ihb=>
  rintro m x cs S ⟨c1,c2,S1,S2,rfl,h1,h2,_⟩
  exact⟨iha _ _ _ _ h1,ihb _ _ _ _ h2⟩
 |st t ih=>intro m x cs S h;exact ih m x cs S h
 |arr n t ih=>rintro m x cs S ⟨hn,h⟩;exact⟨hn,nv (λy c S=>ih m.el y c S) h⟩
 |sl t ih=>
  have ro:∀ (x:List t.T) (cs:List Value),wT F w (Rep F w t .ro) x cs->List.length x<=maxLen/\∀ y∈x,WfT t y:=by
   rintro x cs ⟨a,cap,rfl,h1,h2,h3⟩
   refine⟨bn h1 h2,λy hy=>?_⟩
   obtain⟨ad,rfl,_,ds,_,hr⟩:=h3 (n5 hy)
   exact nv (λy c S=>ih .ro y c S) hr y hy
  intro m x cs S h
  cases m with
  |ro=>exact ro x cs h
  |pr _ _=>exact ro x cs h
  |own m=>
   obtain⟨a,cap,rfl,h1,h2,h3⟩:=h
   refine⟨bn h1 h2,λy hy=>?_⟩
   rcases h3 with rfl|⟨b,off,c,e,rfl,hb,hc,hS,S1,hr,s1,n1⟩
   ·have:=n5 hy;omega
   ·exact nv (λy c S=>ih m y c S) hr y hy
 |box t ih=>
  intro m x cs S h
  cases m with
  |own m=>obtain⟨b,c,e,rfl,hb,hS,S1,hr,_⟩:=h;exact ih m x _ _ hr
  |ro=>obtain⟨a,rfl,_,ds,_,hr⟩:=h;exact ih .ro x _ _ hr
  |pr _ _=>obtain⟨a,rfl,_,ds,_,hr⟩:=h;exact ih .ro x _ _ hr
 |ptr t ih=>
  intro m x cs S h
  cases x with
  |none=>trivial
  |some x=>
   cases m with
   |own m=>obtain⟨b,c,e,rfl,hb,hS,S1,hr,_⟩:=h;exact ih m x _ _ hr
   |ro=>obtain⟨a,rfl,_,ds,_,hr⟩:=h;exact ih .ro x _ _ hr
   |pr _ _=>obtain⟨a,rfl,_,ds,_,hr⟩:=h;exact ih .ro x _ _ hr
open Go Go.ChangeShapes Go.RowKit
section
variable {H:Type} {enc:TypeId×Value->H} {P:Program} {w:World}
theorem AK{TT:Tab}(hT:cd P TT){n:Nat}{t:TypeId}{ty:Ty}(h:pI TT n t ty=true){r:Reach}{base:Nat}{v:Value}(hv:Value.okWide P w r base t v):VR ty v.cells.toList v:=by
 cases n with
 |zero=>cases h
 |succ n=>
  simp only[pI]at h
  cases hdd:TT t with
  |none=>rw[hdd]at h;cases h
  |some td=>
  rw[hdd]at h
  simp only[ag,decide_eq_true_eq]at h
  obtain⟨hty,h⟩:=h
  have bp:=(hT t td hdd).desc
  split at h
  ·rename_i k hk
   rw[hk]at bp
   have h:=of_decide_eq_true h
   subst h
   simp only[Value.okWide,bp.1,Cell.okWide,Cell.ok]at hv
   cases v <;> simp_all [VR,Ty.agg,Value.cells,Value.oneCell']
  ·rename_i hk
   rw[hk]at bp
   have h:=of_decide_eq_true h
   subst h
   simp only[Value.okWide,bp.1,Cell.okWide,Cell.ok]at hv
   cases v <;> simp_all [VR,Ty.agg,Value.cells,Value.oneCell']
  ·rename_i hk
   rw[hk]at bp
   have h:=of_decide_eq_true h
   subst h
   simp only[Value.okWide,bp.1,Cell.okWide,Cell.ok]at hv
   cases v <;> simp_all [VR,Ty.agg,Value.cells,Value.oneCell']
  ·rename_i e hk
   rw[hk]at bp
   cases ty <;> simp only[aE]at h
   simp only[Value.okWide,bp,Cell.okWide,Cell.ok]at hv
   cases v <;> simp_all [VR,Ty.agg,Value.cells,Value.oneCell']
  ·rename_i m e hk
   rw[hk]at bp
   cases ty <;> simp only[aE]at h
   simp only[Value.okWide,bp]at hv
   obtain⟨cs,rfl,_⟩:=hv
   simp[VR,Ty.agg,Value.cells]
  ·rename_i fs hk
   rw[hk]at bp
   obtain⟨f,hf1,hf2⟩:=bp
   cases ty <;> simp only[aE]at h
   simp only[Value.okWide,hf1]at hv
   obtain⟨cs,rfl,_⟩:=hv
   simp[VR,Ty.agg,Value.cells]
  ·cases h
def vP(TT:Tab)(n:Nat):List TypeId->List (Ty×Md)->Bool
 |[],[]=>true
 |t::ts,p::ps=>pI TT n t p.1&&decide (p.2=.ro)&&vP TT n ts ps
 |_,_=>false
def WfA:(ps:List (Ty×Md))->(dx ps).T->Prop
 |[],_=>True
 |p::ps,x=>WfT p.1 x.1/\WfA ps x.2
theorem FB{F:ae}:∀ {ps:List (Ty×Md)} {x:(dx ps).T} {vs:List Value} {S:ae},hY F w ps x vs S->WfA ps x:=by
 intro ps
 induction ps with
 |nil=>intro x vs S _;trivial
 |cons p ps ih=>
  rintro x vs S ⟨v,vs',cs,S1,S2,rfl,h1,h2,h3,_⟩
  exact⟨Iy _ _ _ _ _ h1,ih h3⟩
theorem FC{TT:Tab}(hT:cd P TT){n:Nat}{r:Reach}{base:Nat}{spare:Nat->Bool}{held:Bool}:∀ (ts:List TypeId) (ps:List (Ty×Md)) (vs:List Value) (ds:List (DataW H)) (pl:List MemPlace),vP TT n ts ps=true->DataW.TrodAll enc P w 0 spare held ts vs ds pl->
 (∀ (j:Nat) t v,ts[j]?=some t->vs[j]?=some v->Value.okWide P w r base t v)->∃ x,hY (LtB w) w ps x vs ae.none:=by
 intro ts
 induction ts with
 |nil=>
  intro ps vs ds pl h hA _
  cases ps <;> simp only[vP,aE]at h
  obtain⟨rfl,_⟩:=trodAll_nil hA
  exact⟨(),rfl⟩
 |cons t ts ih=>
  intro ps vs ds pl h hA hv
  cases ps with
  |nil=>cases h
  |cons p ps=>
   simp only[vP,ag,decide_eq_true_eq]at h
   obtain⟨⟨h1,h2⟩,h3⟩:=h
   obtain⟨v,vs1,d,ds1,a,b,rfl,rfl,rfl,⟨bM,g1⟩,g2⟩:=trodAll_cons hA
   obtain⟨x,hx⟩:=CR hT n t p.1 h1 bM _ _ g1
   obtain⟨y,hy⟩:=ih ps vs1 ds1 b h3 g2 (λj t v ht hv'=>hv (j+1) t v (by simpa using ht) (by simpa using hv'))
   rw[<-h2]at hx
   exact⟨(x,y),v,vs1,_,ae.none,ae.none,rfl,hx,AK hT h1 (hv 0 t v rfl rfl),hy,Sub.refl _,Sub.refl _,λ_ h=>h.elim⟩
theorem Fr.below{w':World}(h:Fr w ae.none w'):Below w.heap.size w w':=⟨h.os,h.tape,h.output,h.size,λk hk=>h.block k hk (λh=>h)⟩
theorem AL{TT:Tab}(hT:cd P TT){n:Nat}{f:FuncId}{ps:List (Ty×Md)}{den:(dx ps).T->Option ((dx [(Ty.bool,Md.ro)]).T×(dx []).T)}(hf:jJ P f ⟨ps,[(.bool,.ro)],[],[],den⟩)
 (all:∀ x,WfA ps x->den x=some ((true,()),())) {r:Reach} {base:Nat} {ts:List TypeId} {args:Array Value} {ds:List (DataW H)} {pl:List MemPlace} {held:Bool} {spare:Nat->Bool} (hr:vP TT n ts ps=true) (hA:DataW.TrodAll enc P w 0 spare held ts args.toList ds pl)
 (hv:∀ (j:Nat) t v,ts[j]?=some t->args[j]?=some v->Value.okWide P w r base t v) (hG:Gh (LtB w) w):Calls P f args w λe w'=>e=.returned (.bool true)/\Below w.heap.size w w':=by
 obtain⟨x,hx⟩:=FC hT ts ps args.toList ds pl hr hA (λj t v h1 h2=>hv j t v h1 (by simpa using h2))
 have:=hf x _ (all x (FB hx)) (LtB w) w ae.none args.toList hx (λ_ h=>h.elim) (λ_ h=>h) (λ_ h=>h.elim) hG
 refine Calls.mono (by simpa using this) λe w' hp=>?_
 cases e with
 |panicked _=>exact hp.elim
 |outgrown=>exact hp.elim
 |returned v=>
  obtain⟨ws,F',Sr,Sm,hrv,⟨v1,r1,cs,S1,S2,rfl,h1,h2,h3,_⟩,_,_,fr,_⟩:=hp
  cases h3
  simp only[Rep]at h1
  subst h1
  simp only[VR,Ty.agg,aE,if_false]at h2
  obtain⟨h2,_⟩:=h2
  simp only[fK,and_true]at h2
  subst h2
  simp only[JN,xf]at hrv
  exact⟨by rw[hrv],fr.below⟩
theorem vQ:∀ (ts:List TypeId) (vs:List Value) (ds:List (DataW H)) (ps:List MemPlace) {spare:Nat->Bool} {held:Bool},DataW.TrodAll enc P w 0 spare held ts vs ds ps->ds.length=ts.length:=by
 intro ts
 induction ts with
 |nil=>intro vs ds ps _ _ h;obtain⟨rfl,rfl,rfl⟩:=trodAll_nil h;rfl
 |cons t ts ih=>
  intro vs ds ps _ _ h
  obtain⟨v,vs1,d,ds1,a,b,rfl,rfl,rfl,h1,h2⟩:=trodAll_cons h
  simp[ih vs1 ds1 b h2]
theorem rJ(hl:laidOutB P=true){w':World}(hb:Below w.heap.size w w'):∀ (ts:List TypeId) (vs:List Value) (ds:List (DataW H)) (ps:List MemPlace),(ts.all λt=>P.readableRec t&&decide (t<P.types.size))=true->DataW.TrodAll enc P w 0 (λ_=>true) true ts vs ds ps->(∀ x∈ps,x.block<w.heap.size)->
 DataW.TrodAll enc P w' 0 (λb=>decide (b<w.heap.size)) true ts vs ds ps:=by
 intro ts
 induction ts with
 |nil=>intro vs ds ps _ h _;obtain⟨rfl,rfl,rfl⟩:=trodAll_nil h;exact rfl
 |cons t ts ih=>
  intro vs ds ps ha h hlt
  simp only[List.all_cons,ag,decide_eq_true_eq]at ha
  obtain⟨v,vs1,d,ds1,a,b,rfl,rfl,rfl,h1,h2⟩:=trodAll_cons h
  exact⟨a,b,Below.trod hl ha.1.1 ha.1.2 h1 hb (λx hx=>hlt x (by simp[hx])),ih vs1 ds1 b (by simpa using ha.2) h2 (λx hx=>hlt x (by simp[hx])),rfl⟩
theorem CS(hl:laidOutB P=true){fn:Func}{s:ChangeSpec}{args:Array Value}{ds gs:List (DataW H)}{before:List MemPlace}{w':World}(hv:s.vars=[])(hrt:∃ t,fn.resultTypes=#[t]/\P.underlying t=some .bool)
 (hfn:∀ ds:List (DataW H),ds.length=fn.params.size->s.fn H ds={results:=[.lit (.bool true)],args:=ds}) (hrd:(fn.params.toList.all λt=>P.readableRec t&&decide (t<P.types.size))=true)
 (hW:DataW.Whole enc P fn.params.toList s.vars false w args.toList ds gs before) (hb:Below w.heap.size w w'):s.post enc P fn false true false false w args (.bool true) w':=by
 have hW':=hW
 obtain⟨p,q,hA,hV,rfl,hfz,_⟩:=hW
 rw[hv]at hV
 obtain⟨rfl,rfl⟩:=trodVars_none hV
 have hlen:=vQ _ _ _ _ hA
 have hf:s.fn H (ds++[])={results:=[.lit (.bool true)],args:=ds}:=by rw[cQ];exact hfn ds (by simpa using hlen)
 obtain⟨t,hrt,htb⟩:=hrt
 have hlt:∀ x∈p,x.block<w.heap.size:=λx hx=>by simpa using hW'.lt x (by simpa using hx)
 refine⟨ds,[],p++[],[],p,[],hW',?_,?_,?_,?_,λh=>by cases h⟩
 ·rw[hf,hrt]
  exact trodAll_mk1 (shut_bool htb true)
 ·rw[hf]
  exact rJ hl hb _ _ _ _ hrd hA hlt
 ·rw[hv,hf];exact rfl
 ·exact World.keptBut_mono (λx hx=>hx) (hb.frame _)
end
end
noncomputable section
abbrev y2:Ty:=.int .i64
def d2:TD:=⟨.int .i64,8,y2,[(.int .i64 0)]⟩
theorem k2:TOk Tryz.prog 2 d2:=⟨ak Tryz.typeInfo2 rfl rfl rfl rfl,⟨Tryz.underlying2,rfl⟩,rfl,rfl,hC rfl Tryz.typeInfo2 rfl⟩
abbrev y3:Ty:=.int .i64
def d3:TD:=⟨.int .i64,8,y3,[(.int .i64 0)]⟩
theorem k3:TOk Tryz.prog 3 d3:=⟨ak Tryz.typeInfo3 rfl rfl rfl rfl,⟨Tryz.underlying3,rfl⟩,rfl,rfl,hC rfl Tryz.typeInfo3 rfl⟩
abbrev y4:Ty:=.bool
def d4:TD:=⟨.bool,1,y4,[(.bool false)]⟩
theorem k4:TOk Tryz.prog 4 d4:=⟨ak Tryz.typeInfo4 rfl rfl rfl rfl,⟨Tryz.underlying4,rfl⟩,rfl,rfl,aM rfl⟩
abbrev y5:Ty:=.int .u8
def d5:TD:=⟨.int .u8,1,y5,[(.int .u8 0)]⟩
theorem k5:TOk Tryz.prog 5 d5:=⟨ak Tryz.typeInfo5 rfl rfl rfl rfl,⟨Tryz.underlying5,rfl⟩,rfl,rfl,hC rfl Tryz.typeInfo5 rfl⟩
abbrev y6:Ty:=.int .u8
def d6:TD:=⟨.int .u8,1,y6,[(.int .u8 0)]⟩
theorem k6:TOk Tryz.prog 6 d6:=⟨ak Tryz.typeInfo6 rfl rfl rfl rfl,⟨Tryz.underlying6,rfl⟩,rfl,rfl,hC rfl Tryz.typeInfo6 rfl⟩
abbrev y7:Ty:=.st (.pair y2 (.pair y3 (.pair y4 (y6))))
def d7:TD:=⟨.struct [(2,0),(3,1),(4,2),(6,3)],24,y7,[(.int .i64 0),(.int .i64 0),(.bool false),(.int .u8 0)]⟩
theorem k7:TOk Tryz.prog 7 d7:=⟨ak Tryz.typeInfo7 rfl rfl rfl rfl,⟨_,Tryz.underlying7,rfl⟩,rfl,rfl,aM rfl⟩
abbrev y8:Ty:=.st (.pair y2 (.pair y3 (.pair y4 (y6))))
def d8:TD:=⟨.struct [(2,0),(3,1),(4,2),(6,3)],24,y8,[(.int .i64 0),(.int .i64 0),(.bool false),(.int .u8 0)]⟩
theorem k8:TOk Tryz.prog 8 d8:=⟨ak Tryz.typeInfo8 rfl rfl rfl rfl,⟨_,Tryz.underlying8,rfl⟩,rfl,rfl,aM rfl⟩
abbrev y9:Ty:=.str
def d9:TD:=⟨.str,16,y9,[(.string ByteArray.empty)]⟩
theorem k9:TOk Tryz.prog 9 d9:=⟨ak Tryz.typeInfo9 rfl rfl rfl rfl,⟨Tryz.underlying9,rfl⟩,rfl,rfl,aM rfl⟩
abbrev y10:Ty:=.str
def d10:TD:=⟨.str,16,y10,[(.string ByteArray.empty)]⟩
theorem k10:TOk Tryz.prog 10 d10:=⟨ak Tryz.typeInfo10 rfl rfl rfl rfl,⟨Tryz.underlying10,rfl⟩,rfl,rfl,aM rfl⟩
abbrev y11:Ty:=.str
def d11:TD:=⟨.str,16,y11,[(.string ByteArray.empty)]⟩
theorem k11:TOk Tryz.prog 11 d11:=⟨ak Tryz.typeInfo11 rfl rfl rfl rfl,⟨Tryz.underlying11,rfl⟩,rfl,rfl,aM rfl⟩
abbrev y12:Ty:=.int .u64
def d12:TD:=⟨.int .u64,8,y12,[(.int .u64 0)]⟩
theorem k12:TOk Tryz.prog 12 d12:=⟨ak Tryz.typeInfo12 rfl rfl rfl rfl,⟨Tryz.underlying12,rfl⟩,rfl,rfl,hC rfl Tryz.typeInfo12 rfl⟩
abbrev y13:Ty:=.st (.pair y9 (y12))
def d13:TD:=⟨.struct [(9,0),(12,1)],24,y13,[(.string ByteArray.empty),(.int .u64 0)]⟩
theorem k13:TOk Tryz.prog 13 d13:=⟨ak Tryz.typeInfo13 rfl rfl rfl rfl,⟨_,Tryz.underlying13,rfl⟩,rfl,rfl,aM rfl⟩
abbrev y14:Ty:=.st (.pair y9 (y12))
def d14:TD:=⟨.struct [(9,0),(12,1)],24,y14,[(.string ByteArray.empty),(.int .u64 0)]⟩
theorem k14:TOk Tryz.prog 14 d14:=⟨ak Tryz.typeInfo14 rfl rfl rfl rfl,⟨_,Tryz.underlying14,rfl⟩,rfl,rfl,aM rfl⟩
abbrev y21:Ty:=.int .i32
def d21:TD:=⟨.int .i32,4,y21,[(.int .i32 0)]⟩
theorem k21:TOk Tryz.prog 21 d21:=⟨ak Tryz.typeInfo21 rfl rfl rfl rfl,⟨Tryz.underlying21,rfl⟩,rfl,rfl,hC rfl Tryz.typeInfo21 rfl⟩
abbrev y25:Ty:=.st (.pair y3 (.pair y3 (.pair y3 (.pair y3 (.pair y3 (y4))))))
def d25:TD:=⟨.struct [(3,0),(3,1),(3,2),(3,3),(3,4),(4,5)],48,y25,[(.int .i64 0),(.int .i64 0),(.int .i64 0),(.int .i64 0),(.int .i64 0),(.bool false)]⟩
theorem k25:TOk Tryz.prog 25 d25:=⟨ak Tryz.typeInfo25 rfl rfl rfl rfl,⟨_,Tryz.underlying25,rfl⟩,rfl,rfl,aM rfl⟩
abbrev y26:Ty:=.st (.pair y3 (.pair y3 (.pair y3 (.pair y3 (.pair y3 (y4))))))
def d26:TD:=⟨.struct [(3,0),(3,1),(3,2),(3,3),(3,4),(4,5)],48,y26,[(.int .i64 0),(.int .i64 0),(.int .i64 0),(.int .i64 0),(.int .i64 0),(.bool false)]⟩
theorem k26:TOk Tryz.prog 26 d26:=⟨ak Tryz.typeInfo26 rfl rfl rfl rfl,⟨_,Tryz.underlying26,rfl⟩,rfl,rfl,aM rfl⟩
abbrev y29:Ty:=.sl y9
def d29:TD:=⟨.slice 9,24,y29,[(.slice none 0 0)]⟩
theorem k29:TOk Tryz.prog 29 d29:=⟨ak Tryz.typeInfo29 rfl rfl rfl rfl,Tryz.underlying29,rfl,rfl,aM rfl⟩
abbrev y45:Ty:=.int .i64
def d45:TD:=⟨.int .i64,8,y45,[(.int .i64 0)]⟩
theorem k45:TOk Tryz.prog 45 d45:=⟨ak Tryz.typeInfo45 rfl rfl rfl rfl,⟨Tryz.underlying45,rfl⟩,rfl,rfl,hC rfl Tryz.typeInfo45 rfl⟩
abbrev y53:Ty:=.sl y3
def d53:TD:=⟨.slice 3,24,y53,[(.slice none 0 0)]⟩
theorem k53:TOk Tryz.prog 53 d53:=⟨ak Tryz.typeInfo53 rfl rfl rfl rfl,Tryz.underlying53,rfl,rfl,aM rfl⟩
abbrev y57:Ty:=.st (.pair y3 (y3))
def d57:TD:=⟨.struct [(3,0),(3,1)],16,y57,[(.int .i64 0),(.int .i64 0)]⟩
theorem k57:TOk Tryz.prog 57 d57:=⟨ak Tryz.typeInfo57 rfl rfl rfl rfl,⟨_,Tryz.underlying57,rfl⟩,rfl,rfl,aM rfl⟩
abbrev y58:Ty:=.st (.pair y3 (y3))
def d58:TD:=⟨.struct [(3,0),(3,1)],16,y58,[(.int .i64 0),(.int .i64 0)]⟩
theorem k58:TOk Tryz.prog 58 d58:=⟨ak Tryz.typeInfo58 rfl rfl rfl rfl,⟨_,Tryz.underlying58,rfl⟩,rfl,rfl,aM rfl⟩
abbrev y59:Ty:=.int .u64
def d59:TD:=⟨.int .u64,8,y59,[(.int .u64 0)]⟩
theorem k59:TOk Tryz.prog 59 d59:=⟨ak Tryz.typeInfo59 rfl rfl rfl rfl,⟨Tryz.underlying59,rfl⟩,rfl,rfl,hC rfl Tryz.typeInfo59 rfl⟩
abbrev y60:Ty:=.int .u64
def d60:TD:=⟨.int .u64,8,y60,[(.int .u64 0)]⟩
theorem k60:TOk Tryz.prog 60 d60:=⟨ak Tryz.typeInfo60 rfl rfl rfl rfl,⟨Tryz.underlying60,rfl⟩,rfl,rfl,hC rfl Tryz.typeInfo60 rfl⟩
abbrev y62:Ty:=.st (.pair y4 (y3))
def d62:TD:=⟨.struct [(4,0),(3,1)],16,y62,[(.bool false),(.int .i64 0)]⟩
theorem k62:TOk Tryz.prog 62 d62:=⟨ak Tryz.typeInfo62 rfl rfl rfl rfl,⟨_,Tryz.underlying62,rfl⟩,rfl,rfl,aM rfl⟩
abbrev y63:Ty:=.st (.pair y4 (y3))
def d63:TD:=⟨.struct [(4,0),(3,1)],16,y63,[(.bool false),(.int .i64 0)]⟩
theorem k63:TOk Tryz.prog 63 d63:=⟨ak Tryz.typeInfo63 rfl rfl rfl rfl,⟨_,Tryz.underlying63,rfl⟩,rfl,rfl,aM rfl⟩
abbrev y73:Ty:=.st (.pair y3 (.pair y3 (.pair y3 (.pair y3 (.pair y3 (y4))))))
def d73:TD:=⟨.struct [(3,0),(3,1),(3,2),(3,3),(3,4),(4,5)],48,y73,[(.int .i64 0),(.int .i64 0),(.int .i64 0),(.int .i64 0),(.int .i64 0),(.bool false)]⟩
theorem k73:TOk Tryz.prog 73 d73:=⟨ak Tryz.typeInfo73 rfl rfl rfl rfl,⟨_,Tryz.underlying73,rfl⟩,rfl,rfl,aM rfl⟩
abbrev y74:Ty:=.st (.pair y3 (y3))
def d74:TD:=⟨.struct [(3,0),(3,1)],16,y74,[(.int .i64 0),(.int .i64 0)]⟩
theorem k74:TOk Tryz.prog 74 d74:=⟨ak Tryz.typeInfo74 rfl rfl rfl rfl,⟨_,Tryz.underlying74,rfl⟩,rfl,rfl,aM rfl⟩
abbrev y77:Ty:=.sl y63
def d77:TD:=⟨.slice 63,24,y77,[(.slice none 0 0)]⟩
theorem k77:TOk Tryz.prog 77 d77:=⟨ak Tryz.typeInfo77 rfl rfl rfl rfl,Tryz.underlying77,rfl,rfl,aM rfl⟩
abbrev y78:Ty:=.st (.pair y3 (.pair y9 (.pair y77 (.pair y4 (.pair y3 (y53))))))
def d78:TD:=⟨.struct [(3,0),(9,1),(77,2),(4,3),(3,4),(53,5)],88,y78,[(.int .i64 0),(.string ByteArray.empty),(.slice none 0 0),(.bool false),(.int .i64 0),(.slice none 0 0)]⟩
theorem k78:TOk Tryz.prog 78 d78:=⟨ak Tryz.typeInfo78 rfl rfl rfl rfl,⟨_,Tryz.underlying78,rfl⟩,rfl,rfl,aM rfl⟩
abbrev y79:Ty:=.st (.pair y3 (.pair y9 (.pair y77 (.pair y4 (.pair y3 (y53))))))
def d79:TD:=⟨.struct [(3,0),(9,1),(77,2),(4,3),(3,4),(53,5)],88,y79,[(.int .i64 0),(.string ByteArray.empty),(.slice none 0 0),(.bool false),(.int .i64 0),(.slice none 0 0)]⟩
theorem k79:TOk Tryz.prog 79 d79:=⟨ak Tryz.typeInfo79 rfl rfl rfl rfl,⟨_,Tryz.underlying79,rfl⟩,rfl,rfl,aM rfl⟩
abbrev y88:Ty:=.arr 256 y5
def d88:TD:=⟨.array 256 5,256,y88,List.replicate 256 (.int .u8 0)⟩
theorem k88:TOk Tryz.prog 88 d88:=⟨ak (z:=.agg d88.zero.toArray) Tryz.typeInfo88 (by kernel_rfl) (by kernel_rfl) (by kernel_rfl) (by kernel_rfl),Tryz.underlying88,(by kernel_rfl),(by kernel_rfl),aM rfl⟩
abbrev y95:Ty:=.st (.pair y9 (.pair y3 (y9)))
def d95:TD:=⟨.struct [(9,0),(3,1),(9,2)],40,y95,[(.string ByteArray.empty),(.int .i64 0),(.string ByteArray.empty)]⟩
theorem k95:TOk Tryz.prog 95 d95:=⟨ak Tryz.typeInfo95 rfl rfl rfl rfl,⟨_,Tryz.underlying95,rfl⟩,rfl,rfl,aM rfl⟩
abbrev y96:Ty:=.st (.pair y9 (.pair y3 (y9)))
def d96:TD:=⟨.struct [(9,0),(3,1),(9,2)],40,y96,[(.string ByteArray.empty),(.int .i64 0),(.string ByteArray.empty)]⟩
theorem k96:TOk Tryz.prog 96 d96:=⟨ak Tryz.typeInfo96 rfl rfl rfl rfl,⟨_,Tryz.underlying96,rfl⟩,rfl,rfl,aM rfl⟩
abbrev y99:Ty:=.st (.pair y45 (y3))
def d99:TD:=⟨.struct [(45,0),(3,1)],16,y99,[(.int .i64 0),(.int .i64 0)]⟩
theorem k99:TOk Tryz.prog 99 d99:=⟨ak Tryz.typeInfo99 rfl rfl rfl rfl,⟨_,Tryz.underlying99,rfl⟩,rfl,rfl,aM rfl⟩
abbrev Ka:Ty:=.st (.pair y45 (y3))
def d100:TD:=⟨.struct [(45,0),(3,1)],16,Ka,[(.int .i64 0),(.int .i64 0)]⟩
theorem LI:TOk Tryz.prog 100 d100:=⟨ak Tryz.typeInfo100 rfl rfl rfl rfl,⟨_,Tryz.underlying100,rfl⟩,rfl,rfl,aM rfl⟩
abbrev qR:Ty:=.st (.pair y45 (.pair y3 (y3)))
def d109:TD:=⟨.struct [(45,0),(3,1),(3,2)],24,qR,[(.int .i64 0),(.int .i64 0),(.int .i64 0)]⟩
theorem LJ:TOk Tryz.prog 109 d109:=⟨ak Tryz.typeInfo109 rfl rfl rfl rfl,⟨_,Tryz.underlying109,rfl⟩,rfl,rfl,aM rfl⟩
abbrev LK:Ty:=.st (.pair y45 (.pair y3 (y3)))
def d110:TD:=⟨.struct [(45,0),(3,1),(3,2)],24,LK,[(.int .i64 0),(.int .i64 0),(.int .i64 0)]⟩
theorem LL:TOk Tryz.prog 110 d110:=⟨ak Tryz.typeInfo110 rfl rfl rfl rfl,⟨_,Tryz.underlying110,rfl⟩,rfl,rfl,aM rfl⟩
abbrev kI:Ty:=.sl y4
def d112:TD:=⟨.slice 4,24,kI,[(.slice none 0 0)]⟩
theorem LM:TOk Tryz.prog 112 d112:=⟨ak Tryz.typeInfo112 rfl rfl rfl rfl,Tryz.underlying112,rfl,rfl,aM rfl⟩
abbrev pJ:Ty:=.map y9 y3
def d116:TD:=⟨.map 9 3,8,pJ,[(.map none)]⟩
theorem LN:TOk Tryz.prog 116 d116:=⟨ak Tryz.typeInfo116 rfl rfl rfl rfl,Tryz.underlying116,rfl,rfl,aM rfl⟩
abbrev LO:Ty:=.st (.pair y63 (y3))
def d126:TD:=⟨.struct [(63,0),(3,2)],24,LO,[(.bool false),(.int .i64 0),(.int .i64 0)]⟩
theorem LP:TOk Tryz.prog 126 d126:=⟨ak Tryz.typeInfo126 rfl rfl rfl rfl,⟨_,Tryz.underlying126,rfl⟩,rfl,rfl,aM rfl⟩
abbrev Kb:Ty:=.st (.pair y63 (y3))
def d127:TD:=⟨.struct [(63,0),(3,2)],24,Kb,[(.bool false),(.int .i64 0),(.int .i64 0)]⟩
theorem LQ:TOk Tryz.prog 127 d127:=⟨ak Tryz.typeInfo127 rfl rfl rfl rfl,⟨_,Tryz.underlying127,rfl⟩,rfl,rfl,aM rfl⟩
abbrev AM:Ty:=.st (.pair y3 (.pair y3 (y59)))
def d130:TD:=⟨.struct [(3,0),(3,1),(59,2)],24,AM,[(.int .i64 0),(.int .i64 0),(.int .u64 0)]⟩
theorem LR:TOk Tryz.prog 130 d130:=⟨ak Tryz.typeInfo130 rfl rfl rfl rfl,⟨_,Tryz.underlying130,rfl⟩,rfl,rfl,aM rfl⟩
abbrev iU:Ty:=.st (.pair y3 (.pair y3 (y59)))
def d131:TD:=⟨.struct [(3,0),(3,1),(59,2)],24,iU,[(.int .i64 0),(.int .i64 0),(.int .u64 0)]⟩
theorem Iz:TOk Tryz.prog 131 d131:=⟨ak Tryz.typeInfo131 rfl rfl rfl rfl,⟨_,Tryz.underlying131,rfl⟩,rfl,rfl,aM rfl⟩
abbrev Kc:Ty:=.st (.pair y3 (.pair y3 (y59)))
def d134:TD:=⟨.struct [(3,0),(3,1),(59,2)],24,Kc,[(.int .i64 0),(.int .i64 0),(.int .u64 0)]⟩
theorem LS:TOk Tryz.prog 134 d134:=⟨ak Tryz.typeInfo134 rfl rfl rfl rfl,⟨_,Tryz.underlying134,rfl⟩,rfl,rfl,aM rfl⟩
abbrev LU:Ty:=.st (.pair y3 (y53))
def d164:TD:=⟨.struct [(3,0),(53,1)],32,LU,[(.int .i64 0),(.slice none 0 0)]⟩
theorem LV:TOk Tryz.prog 164 d164:=⟨ak Tryz.typeInfo164 rfl rfl rfl rfl,⟨_,Tryz.underlying164,rfl⟩,rfl,rfl,aM rfl⟩
abbrev Kd:Ty:=.st (.pair y3 (y53))
def d165:TD:=⟨.struct [(3,0),(53,1)],32,Kd,[(.int .i64 0),(.slice none 0 0)]⟩
theorem LW:TOk Tryz.prog 165 d165:=⟨ak Tryz.typeInfo165 rfl rfl rfl rfl,⟨_,Tryz.underlying165,rfl⟩,rfl,rfl,aM rfl⟩
abbrev iN:Ty:=.sl Ka
def d168:TD:=⟨.slice 100,24,iN,[(.slice none 0 0)]⟩
theorem LX:TOk Tryz.prog 168 d168:=⟨ak Tryz.typeInfo168 rfl rfl rfl rfl,Tryz.underlying168,rfl,rfl,aM rfl⟩
abbrev rK:Ty:=.sl y5
def d182:TD:=⟨.slice 5,24,rK,[(.slice none 0 0)]⟩
theorem LY:TOk Tryz.prog 182 d182:=⟨ak Tryz.typeInfo182 rfl rfl rfl rfl,Tryz.underlying182,rfl,rfl,aM rfl⟩
abbrev ko:Ty:=.st (.pair y9 (.pair y3 (y3)))
def d203:TD:=⟨.struct [(9,0),(3,1),(3,2)],32,ko,[(.string ByteArray.empty),(.int .i64 0),(.int .i64 0)]⟩
theorem LZ:TOk Tryz.prog 203 d203:=⟨ak Tryz.typeInfo203 rfl rfl rfl rfl,⟨_,Tryz.underlying203,rfl⟩,rfl,rfl,aM rfl⟩
abbrev Ke:Ty:=.st (.pair y9 (.pair y3 (y3)))
def d204:TD:=⟨.struct [(9,0),(3,1),(3,2)],32,Ke,[(.string ByteArray.empty),(.int .i64 0),(.int .i64 0)]⟩
theorem L3:TOk Tryz.prog 204 d204:=⟨ak Tryz.typeInfo204 rfl rfl rfl rfl,⟨_,Tryz.underlying204,rfl⟩,rfl,rfl,aM rfl⟩
abbrev kp:Ty:=.arr 4 y59
def d212:TD:=⟨.array 4 59,32,kp,[(.int .u64 0),(.int .u64 0),(.int .u64 0),(.int .u64 0)]⟩
theorem L4:TOk Tryz.prog 212 d212:=⟨ak Tryz.typeInfo212 rfl rfl rfl rfl,Tryz.underlying212,rfl,rfl,aM rfl⟩
abbrev AN:Ty:=.arr 4 y59
def d213:TD:=⟨.array 4 59,32,AN,[(.int .u64 0),(.int .u64 0),(.int .u64 0),(.int .u64 0)]⟩
theorem L5:TOk Tryz.prog 213 d213:=⟨ak Tryz.typeInfo213 rfl rfl rfl rfl,Tryz.underlying213,rfl,rfl,aM rfl⟩
abbrev Kf:Ty:=.st (.pair y3 (AN))
def d214:TD:=⟨.struct [(3,0),(213,1)],40,Kf,[(.int .i64 0),(.int .u64 0),(.int .u64 0),(.int .u64 0),(.int .u64 0)]⟩
theorem L6:TOk Tryz.prog 214 d214:=⟨ak Tryz.typeInfo214 rfl rfl rfl rfl,⟨_,Tryz.underlying214,rfl⟩,rfl,rfl,aM rfl⟩
abbrev IA:Ty:=.st (.pair y3 (AN))
def d215:TD:=⟨.struct [(3,0),(213,1)],40,IA,[(.int .i64 0),(.int .u64 0),(.int .u64 0),(.int .u64 0),(.int .u64 0)]⟩
theorem L7:TOk Tryz.prog 215 d215:=⟨ak Tryz.typeInfo215 rfl rfl rfl rfl,⟨_,Tryz.underlying215,rfl⟩,rfl,rfl,aM rfl⟩
abbrev L8:Ty:=.st (.pair y3 (y3))
def d217:TD:=⟨.struct [(3,0),(3,1)],16,L8,[(.int .i64 0),(.int .i64 0)]⟩
theorem L9:TOk Tryz.prog 217 d217:=⟨ak Tryz.typeInfo217 rfl rfl rfl rfl,⟨_,Tryz.underlying217,rfl⟩,rfl,rfl,aM rfl⟩
abbrev Kg:Ty:=.st (.pair y3 (y3))
def d218:TD:=⟨.struct [(3,0),(3,1)],16,Kg,[(.int .i64 0),(.int .i64 0)]⟩
theorem Ma:TOk Tryz.prog 218 d218:=⟨ak Tryz.typeInfo218 rfl rfl rfl rfl,⟨_,Tryz.underlying218,rfl⟩,rfl,rfl,aM rfl⟩
abbrev Mb:Ty:=.st (.pair y3 (.pair y3 (.pair AN (y4))))
def d219:TD:=⟨.struct [(3,0),(3,1),(213,2),(4,6)],56,Mb,[(.int .i64 0),(.int .i64 0),(.int .u64 0),(.int .u64 0),(.int .u64 0),(.int .u64 0),(.bool false)]⟩
theorem Mc:TOk Tryz.prog 219 d219:=⟨ak Tryz.typeInfo219 rfl rfl rfl rfl,⟨_,Tryz.underlying219,rfl⟩,rfl,rfl,aM rfl⟩
abbrev Kh:Ty:=.st (.pair y3 (.pair y3 (.pair AN (y4))))
def d220:TD:=⟨.struct [(3,0),(3,1),(213,2),(4,6)],56,Kh,[(.int .i64 0),(.int .i64 0),(.int .u64 0),(.int .u64 0),(.int .u64 0),(.int .u64 0),(.bool false)]⟩
theorem Me:TOk Tryz.prog 220 d220:=⟨ak Tryz.typeInfo220 rfl rfl rfl rfl,⟨_,Tryz.underlying220,rfl⟩,rfl,rfl,aM rfl⟩
abbrev IB:Ty:=.sl kI
def d223:TD:=⟨.slice 112,24,IB,[(.slice none 0 0)]⟩
theorem Mf:TOk Tryz.prog 223 d223:=⟨ak Tryz.typeInfo223 rfl rfl rfl rfl,Tryz.underlying223,rfl,rfl,aM rfl⟩
abbrev AO:Ty:=.sl AN
def d227:TD:=⟨.slice 213,24,AO,[(.slice none 0 0)]⟩
theorem Mg:TOk Tryz.prog 227 d227:=⟨ak Tryz.typeInfo227 rfl rfl rfl rfl,Tryz.underlying227,rfl,rfl,aM rfl⟩
abbrev Mh:Ty:=.st (.pair y3 (y9))
def d235:TD:=⟨.struct [(3,0),(9,1)],24,Mh,[(.int .i64 0),(.string ByteArray.empty)]⟩
theorem Mi:TOk Tryz.prog 235 d235:=⟨ak Tryz.typeInfo235 rfl rfl rfl rfl,⟨_,Tryz.underlying235,rfl⟩,rfl,rfl,aM rfl⟩
abbrev Ki:Ty:=.st (.pair y3 (y9))
def d236:TD:=⟨.struct [(3,0),(9,1)],24,Ki,[(.int .i64 0),(.string ByteArray.empty)]⟩
theorem Mj:TOk Tryz.prog 236 d236:=⟨ak Tryz.typeInfo236 rfl rfl rfl rfl,⟨_,Tryz.underlying236,rfl⟩,rfl,rfl,aM rfl⟩
abbrev Mk:Ty:=.sl Ki
def d237:TD:=⟨.slice 236,24,Mk,[(.slice none 0 0)]⟩
theorem Ml:TOk Tryz.prog 237 d237:=⟨ak Tryz.typeInfo237 rfl rfl rfl rfl,Tryz.underlying237,rfl,rfl,aM rfl⟩
abbrev FD:Ty:=.map y3 y3
def d258:TD:=⟨.map 3 3,8,FD,[(.map none)]⟩
theorem Mm:TOk Tryz.prog 258 d258:=⟨ak Tryz.typeInfo258 rfl rfl rfl rfl,Tryz.underlying258,rfl,rfl,aM rfl⟩
abbrev Mn:Ty:=.int .i64
def d296:TD:=⟨.int .i64,8,Mn,[(.int .i64 0)]⟩
theorem Mo:TOk Tryz.prog 296 d296:=⟨ak Tryz.typeInfo296 rfl rfl rfl rfl,⟨Tryz.underlying296,rfl⟩,rfl,rfl,hC rfl Tryz.typeInfo296 rfl⟩
abbrev Mp:Ty:=.int .u32
def d303:TD:=⟨.int .u32,4,Mp,[(.int .u32 0)]⟩
theorem Mq:TOk Tryz.prog 303 d303:=⟨ak Tryz.typeInfo303 rfl rfl rfl rfl,⟨Tryz.underlying303,rfl⟩,rfl,rfl,hC rfl Tryz.typeInfo303 rfl⟩
abbrev Kj:Ty:=.int .u64
def d314:TD:=⟨.int .u64,8,Kj,[(.int .u64 0)]⟩
theorem Mr:TOk Tryz.prog 314 d314:=⟨ak Tryz.typeInfo314 rfl rfl rfl rfl,⟨Tryz.underlying314,rfl⟩,rfl,rfl,hC rfl Tryz.typeInfo314 rfl⟩
abbrev Ms:Ty:=.ptr y3
def d318:TD:=⟨.pointer 3,8,Ms,[(.pointer none)]⟩
theorem Mt:TOk Tryz.prog 318 d318:=⟨ak Tryz.typeInfo318 rfl rfl rfl rfl,Tryz.underlying318,rfl,rfl,aM rfl⟩
abbrev Mu:Ty:=.ptr Kj
def d324:TD:=⟨.pointer 314,8,Mu,[(.pointer none)]⟩
theorem Mv:TOk Tryz.prog 324 d324:=⟨ak Tryz.typeInfo324 rfl rfl rfl rfl,Tryz.underlying324,rfl,rfl,aM rfl⟩
abbrev Mw:Ty:=.int .u8
def d346:TD:=⟨.int .u8,1,Mw,[(.int .u8 0)]⟩
theorem Mx:TOk Tryz.prog 346 d346:=⟨ak Tryz.typeInfo346 rfl rfl rfl rfl,⟨Tryz.underlying346,rfl⟩,rfl,rfl,hC rfl Tryz.typeInfo346 rfl⟩
abbrev My:Ty:=.int .u8
def d347:TD:=⟨.int .u8,1,My,[(.int .u8 0)]⟩
theorem Mz:TOk Tryz.prog 347 d347:=⟨ak Tryz.typeInfo347 rfl rfl rfl rfl,⟨Tryz.underlying347,rfl⟩,rfl,rfl,hC rfl Tryz.typeInfo347 rfl⟩
abbrev MA:Ty:=.ptr y5
def d349:TD:=⟨.pointer 5,8,MA,[(.pointer none)]⟩
theorem MB:TOk Tryz.prog 349 d349:=⟨ak Tryz.typeInfo349 rfl rfl rfl rfl,Tryz.underlying349,rfl,rfl,aM rfl⟩
abbrev MC:Ty:=.int .i32
def d350:TD:=⟨.int .i32,4,MC,[(.int .i32 0)]⟩
theorem MD:TOk Tryz.prog 350 d350:=⟨ak Tryz.typeInfo350 rfl rfl rfl rfl,⟨Tryz.underlying350,rfl⟩,rfl,rfl,hC rfl Tryz.typeInfo350 rfl⟩
abbrev ME:Ty:=.int .i32
def d351:TD:=⟨.int .i32,4,ME,[(.int .i32 0)]⟩
theorem MF:TOk Tryz.prog 351 d351:=⟨ak Tryz.typeInfo351 rfl rfl rfl rfl,⟨Tryz.underlying351,rfl⟩,rfl,rfl,hC rfl Tryz.typeInfo351 rfl⟩
abbrev y22:Ty:=.sl y26
def d22:TD:=⟨.slice 26,24,y22,[(.slice none 0 0)]⟩
theorem k22:TOk Tryz.prog 22 d22:=⟨ak Tryz.typeInfo22 rfl rfl rfl rfl,Tryz.underlying22,rfl,rfl,aM rfl⟩
abbrev y28:Ty:=.sl y96
def d28:TD:=⟨.slice 96,24,y28,[(.slice none 0 0)]⟩
theorem k28:TOk Tryz.prog 28 d28:=⟨ak Tryz.typeInfo28 rfl rfl rfl rfl,Tryz.underlying28,rfl,rfl,aM rfl⟩
abbrev y30:Ty:=.sl y79
def d30:TD:=⟨.slice 79,24,y30,[(.slice none 0 0)]⟩
theorem k30:TOk Tryz.prog 30 d30:=⟨ak Tryz.typeInfo30 rfl rfl rfl rfl,Tryz.underlying30,rfl,rfl,aM rfl⟩
abbrev y31:Ty:=.sl Kd
def d31:TD:=⟨.slice 165,24,y31,[(.slice none 0 0)]⟩
theorem k31:TOk Tryz.prog 31 d31:=⟨ak Tryz.typeInfo31 rfl rfl rfl rfl,Tryz.underlying31,rfl,rfl,aM rfl⟩
abbrev y32:Ty:=.st (.pair y28 (.pair y29 (.pair y30 (.pair y31 (y3)))))
def d32:TD:=⟨.struct [(28,0),(29,1),(30,2),(31,3),(3,4)],104,y32,[(.slice none 0 0),(.slice none 0 0),(.slice none 0 0),(.slice none 0 0),(.int .i64 0)]⟩
theorem k32:TOk Tryz.prog 32 d32:=⟨ak Tryz.typeInfo32 rfl rfl rfl rfl,⟨_,Tryz.underlying32,rfl⟩,rfl,rfl,aM rfl⟩
abbrev y33:Ty:=.st (.pair y28 (.pair y29 (.pair y30 (.pair y31 (y3)))))
def d33:TD:=⟨.struct [(28,0),(29,1),(30,2),(31,3),(3,4)],104,y33,[(.slice none 0 0),(.slice none 0 0),(.slice none 0 0),(.slice none 0 0),(.int .i64 0)]⟩
theorem k33:TOk Tryz.prog 33 d33:=⟨ak Tryz.typeInfo33 rfl rfl rfl rfl,⟨_,Tryz.underlying33,rfl⟩,rfl,rfl,aM rfl⟩
abbrev y35:Ty:=.sl y77
def d35:TD:=⟨.slice 77,24,y35,[(.slice none 0 0)]⟩
theorem k35:TOk Tryz.prog 35 d35:=⟨ak Tryz.typeInfo35 rfl rfl rfl rfl,Tryz.underlying35,rfl,rfl,aM rfl⟩
abbrev y36:Ty:=.sl y53
def d36:TD:=⟨.slice 53,24,y36,[(.slice none 0 0)]⟩
theorem k36:TOk Tryz.prog 36 d36:=⟨ak Tryz.typeInfo36 rfl rfl rfl rfl,Tryz.underlying36,rfl,rfl,aM rfl⟩
abbrev y52:Ty:=.sl y58
def d52:TD:=⟨.slice 58,24,y52,[(.slice none 0 0)]⟩
theorem k52:TOk Tryz.prog 52 d52:=⟨ak Tryz.typeInfo52 rfl rfl rfl rfl,Tryz.underlying52,rfl,rfl,aM rfl⟩
abbrev y54:Ty:=.sl y59
def d54:TD:=⟨.slice 59,24,y54,[(.slice none 0 0)]⟩
theorem k54:TOk Tryz.prog 54 d54:=⟨ak Tryz.typeInfo54 rfl rfl rfl rfl,Tryz.underlying54,rfl,rfl,aM rfl⟩
abbrev y69:Ty:=.sl y74
def d69:TD:=⟨.slice 74,24,y69,[(.slice none 0 0)]⟩
theorem k69:TOk Tryz.prog 69 d69:=⟨ak Tryz.typeInfo69 rfl rfl rfl rfl,Tryz.underlying69,rfl,rfl,aM rfl⟩
abbrev y70:Ty:=.sl y73
def d70:TD:=⟨.slice 73,24,y70,[(.slice none 0 0)]⟩
theorem k70:TOk Tryz.prog 70 d70:=⟨ak Tryz.typeInfo70 rfl rfl rfl rfl,Tryz.underlying70,rfl,rfl,aM rfl⟩
abbrev y82:Ty:=.sl y69
def d82:TD:=⟨.slice 69,24,y82,[(.slice none 0 0)]⟩
theorem k82:TOk Tryz.prog 82 d82:=⟨ak Tryz.typeInfo82 rfl rfl rfl rfl,Tryz.underlying82,rfl,rfl,aM rfl⟩
abbrev y83:Ty:=.st (.pair y82 (.pair y36 (.pair y53 (y53))))
def d83:TD:=⟨.struct [(82,0),(36,1),(53,2),(53,3)],96,y83,[(.slice none 0 0),(.slice none 0 0),(.slice none 0 0),(.slice none 0 0)]⟩
theorem k83:TOk Tryz.prog 83 d83:=⟨ak Tryz.typeInfo83 rfl rfl rfl rfl,⟨_,Tryz.underlying83,rfl⟩,rfl,rfl,aM rfl⟩
abbrev y84:Ty:=.st (.pair y82 (.pair y36 (.pair y53 (y53))))
def d84:TD:=⟨.struct [(82,0),(36,1),(53,2),(53,3)],96,y84,[(.slice none 0 0),(.slice none 0 0),(.slice none 0 0),(.slice none 0 0)]⟩
theorem k84:TOk Tryz.prog 84 d84:=⟨ak Tryz.typeInfo84 rfl rfl rfl rfl,⟨_,Tryz.underlying84,rfl⟩,rfl,rfl,aM rfl⟩
abbrev y89:Ty:=.st (.pair y88 (.pair y36 (y53)))
def d89:TD:=⟨.struct [(88,0),(36,256),(53,257)],304,y89,List.replicate 256 (.int .u8 0)++[(.slice none 0 0),(.slice none 0 0)]⟩
theorem k89:TOk Tryz.prog 89 d89:=⟨ak (z:=.agg d89.zero.toArray) Tryz.typeInfo89 (by kernel_rfl) (by kernel_rfl) (by kernel_rfl) (by kernel_rfl),⟨_,Tryz.underlying89,rfl⟩,(by kernel_rfl),(by kernel_rfl),aM rfl⟩
abbrev y90:Ty:=.st (.pair y88 (.pair y36 (y53)))
def d90:TD:=⟨.struct [(88,0),(36,256),(53,257)],304,y90,List.replicate 256 (.int .u8 0)++[(.slice none 0 0),(.slice none 0 0)]⟩
theorem k90:TOk Tryz.prog 90 d90:=⟨ak (z:=.agg d90.zero.toArray) Tryz.typeInfo90 (by kernel_rfl) (by kernel_rfl) (by kernel_rfl) (by kernel_rfl),⟨_,Tryz.underlying90,rfl⟩,(by kernel_rfl),(by kernel_rfl),aM rfl⟩
abbrev kq:Ty:=.st (.pair kI (y54))
def d113:TD:=⟨.struct [(112,0),(54,1)],48,kq,[(.slice none 0 0),(.slice none 0 0)]⟩
theorem MG:TOk Tryz.prog 113 d113:=⟨ak Tryz.typeInfo113 rfl rfl rfl rfl,⟨_,Tryz.underlying113,rfl⟩,rfl,rfl,aM rfl⟩
abbrev IC:Ty:=.st (.pair kI (y54))
def d114:TD:=⟨.struct [(112,0),(54,1)],48,IC,[(.slice none 0 0),(.slice none 0 0)]⟩
theorem MH:TOk Tryz.prog 114 d114:=⟨ak Tryz.typeInfo114 rfl rfl rfl rfl,⟨_,Tryz.underlying114,rfl⟩,rfl,rfl,aM rfl⟩
abbrev kJ:Ty:=.sl iU
def d117:TD:=⟨.slice 131,24,kJ,[(.slice none 0 0)]⟩
theorem MI:TOk Tryz.prog 117 d117:=⟨ak Tryz.typeInfo117 rfl rfl rfl rfl,Tryz.underlying117,rfl,rfl,aM rfl⟩
abbrev ID:Ty:=.sl Kb
def d123:TD:=⟨.slice 127,24,ID,[(.slice none 0 0)]⟩
theorem MJ:TOk Tryz.prog 123 d123:=⟨ak Tryz.typeInfo123 rfl rfl rfl rfl,Tryz.underlying123,rfl,rfl,aM rfl⟩
abbrev Kk:Ty:=.sl Kc
def d133:TD:=⟨.slice 134,24,Kk,[(.slice none 0 0)]⟩
theorem MK:TOk Tryz.prog 133 d133:=⟨ak Tryz.typeInfo133 rfl rfl rfl rfl,Tryz.underlying133,rfl,rfl,aM rfl⟩
abbrev nw:Ty:=.sl IA
def d144:TD:=⟨.slice 215,24,nw,[(.slice none 0 0)]⟩
theorem ML:TOk Tryz.prog 144 d144:=⟨ak Tryz.typeInfo144 rfl rfl rfl rfl,Tryz.underlying144,rfl,rfl,aM rfl⟩
abbrev Kl:Ty:=.sl IA
def d145:TD:=⟨.slice 215,24,Kl,[(.slice none 0 0)]⟩
theorem MM:TOk Tryz.prog 145 d145:=⟨ak Tryz.typeInfo145 rfl rfl rfl rfl,Tryz.underlying145,rfl,rfl,aM rfl⟩
abbrev IE:Ty:=.sl Kh
def d148:TD:=⟨.slice 220,24,IE,[(.slice none 0 0)]⟩
theorem MN:TOk Tryz.prog 148 d148:=⟨ak Tryz.typeInfo148 rfl rfl rfl rfl,Tryz.underlying148,rfl,rfl,aM rfl⟩
abbrev tK:Ty:=.st (.pair y3 (.pair IE (.pair y3 (y3))))
def d149:TD:=⟨.struct [(3,0),(148,1),(3,2),(3,3)],48,tK,[(.int .i64 0),(.slice none 0 0),(.int .i64 0),(.int .i64 0)]⟩
theorem MO:TOk Tryz.prog 149 d149:=⟨ak Tryz.typeInfo149 rfl rfl rfl rfl,⟨_,Tryz.underlying149,rfl⟩,rfl,rfl,aM rfl⟩
abbrev AP:Ty:=.st (.pair y3 (.pair IE (.pair y3 (y3))))
def d150:TD:=⟨.struct [(3,0),(148,1),(3,2),(3,3)],48,AP,[(.int .i64 0),(.slice none 0 0),(.int .i64 0),(.int .i64 0)]⟩
theorem MP:TOk Tryz.prog 150 d150:=⟨ak Tryz.typeInfo150 rfl rfl rfl rfl,⟨_,Tryz.underlying150,rfl⟩,rfl,rfl,aM rfl⟩
abbrev tL:Ty:=.st (.pair y33 (.pair IC (.pair kI (.pair y54 (kJ)))))
def d185:TD:=⟨.struct [(33,0),(114,5),(112,7),(54,8),(117,9)],224,tL,[(.slice none 0 0),(.slice none 0 0),(.slice none 0 0),(.slice none 0 0),(.int .i64 0),(.slice none 0 0),(.slice none 0 0),(.slice none 0 0),(.slice none 0 0),(.slice none 0 0)]⟩
theorem MQ:TOk Tryz.prog 185 d185:=⟨ak Tryz.typeInfo185 rfl rfl rfl rfl,⟨_,Tryz.underlying185,rfl⟩,rfl,rfl,aM rfl⟩
abbrev Km:Ty:=.st (.pair y33 (.pair IC (.pair kI (.pair y54 (kJ)))))
def d186:TD:=⟨.struct [(33,0),(114,5),(112,7),(54,8),(117,9)],224,Km,[(.slice none 0 0),(.slice none 0 0),(.slice none 0 0),(.slice none 0 0),(.int .i64 0),(.slice none 0 0),(.slice none 0 0),(.slice none 0 0),(.slice none 0 0),(.slice none 0 0)]⟩
theorem MR:TOk Tryz.prog 186 d186:=⟨ak Tryz.typeInfo186 rfl rfl rfl rfl,⟨_,Tryz.underlying186,rfl⟩,rfl,rfl,aM rfl⟩
abbrev MS:Ty:=.ptr Ke
def d202:TD:=⟨.pointer 204,8,MS,[(.pointer none)]⟩
theorem MT:TOk Tryz.prog 202 d202:=⟨ak Tryz.typeInfo202 rfl rfl rfl rfl,Tryz.underlying202,rfl,rfl,aM rfl⟩
abbrev pK:Ty:=.st (AP)
def d209:TD:=⟨.struct [(150,0)],48,pK,[(.int .i64 0),(.slice none 0 0),(.int .i64 0),(.int .i64 0)]⟩
theorem MU:TOk Tryz.prog 209 d209:=⟨ak Tryz.typeInfo209 rfl rfl rfl rfl,⟨_,Tryz.underlying209,rfl⟩,rfl,rfl,aM rfl⟩
abbrev Ko:Ty:=.st (AP)
def d210:TD:=⟨.struct [(150,0)],48,Ko,[(.int .i64 0),(.slice none 0 0),(.int .i64 0),(.int .i64 0)]⟩
theorem MV:TOk Tryz.prog 210 d210:=⟨ak Tryz.typeInfo210 rfl rfl rfl rfl,⟨_,Tryz.underlying210,rfl⟩,rfl,rfl,aM rfl⟩
abbrev MW:Ty:=.sl Kg
def d211:TD:=⟨.slice 218,24,MW,[(.slice none 0 0)]⟩
theorem MX:TOk Tryz.prog 211 d211:=⟨ak Tryz.typeInfo211 rfl rfl rfl rfl,Tryz.underlying211,rfl,rfl,aM rfl⟩
abbrev tM:Ty:=.st (.pair AP (.pair y53 (.pair rK (.pair pJ (.pair IB (y90))))))
def d224:TD:=⟨.struct [(150,0),(53,4),(182,5),(116,6),(223,7),(90,8)],432,tM,[(.int .i64 0),(.slice none 0 0),(.int .i64 0),(.int .i64 0),(.slice none 0 0),(.slice none 0 0),(.map none),(.slice none 0 0)]++List.replicate 256 (.int .u8 0)++[(.slice none 0 0),(.slice none 0 0)]⟩
theorem MY:TOk Tryz.prog 224 d224:=⟨ak (z:=.agg d224.zero.toArray) Tryz.typeInfo224 (by kernel_rfl) (by kernel_rfl) (by kernel_rfl) (by kernel_rfl),⟨_,Tryz.underlying224,rfl⟩,(by kernel_rfl),(by kernel_rfl),aM rfl⟩
abbrev Kp:Ty:=.st (.pair AP (.pair y53 (.pair rK (.pair pJ (.pair IB (y90))))))
def d225:TD:=⟨.struct [(150,0),(53,4),(182,5),(116,6),(223,7),(90,8)],432,Kp,[(.int .i64 0),(.slice none 0 0),(.int .i64 0),(.int .i64 0),(.slice none 0 0),(.slice none 0 0),(.map none),(.slice none 0 0)]++List.replicate 256 (.int .u8 0)++[(.slice none 0 0),(.slice none 0 0)]⟩
theorem MZ:TOk Tryz.prog 225 d225:=⟨ak (z:=.agg d225.zero.toArray) Tryz.typeInfo225 (by kernel_rfl) (by kernel_rfl) (by kernel_rfl) (by kernel_rfl),⟨_,Tryz.underlying225,rfl⟩,(by kernel_rfl),(by kernel_rfl),aM rfl⟩
abbrev Kq:Ty:=.sl Kl
def d307:TD:=⟨.slice 145,24,Kq,[(.slice none 0 0)]⟩
theorem M0:TOk Tryz.prog 307 d307:=⟨ak Tryz.typeInfo307 rfl rfl rfl rfl,Tryz.underlying307,rfl,rfl,aM rfl⟩
abbrev y34:Ty:=.sl Kk
def d34:TD:=⟨.slice 133,24,y34,[(.slice none 0 0)]⟩
theorem k34:TOk Tryz.prog 34 d34:=⟨ak Tryz.typeInfo34 rfl rfl rfl rfl,Tryz.underlying34,rfl,rfl,aM rfl⟩
abbrev y37:Ty:=.st (.pair y34 (.pair y35 (y36)))
def d37:TD:=⟨.struct [(34,0),(35,1),(36,2)],72,y37,[(.slice none 0 0),(.slice none 0 0),(.slice none 0 0)]⟩
theorem k37:TOk Tryz.prog 37 d37:=⟨ak Tryz.typeInfo37 rfl rfl rfl rfl,⟨_,Tryz.underlying37,rfl⟩,rfl,rfl,aM rfl⟩
abbrev y38:Ty:=.st (.pair y34 (.pair y35 (y36)))
def d38:TD:=⟨.struct [(34,0),(35,1),(36,2)],72,y38,[(.slice none 0 0),(.slice none 0 0),(.slice none 0 0)]⟩
theorem k38:TOk Tryz.prog 38 d38:=⟨ak Tryz.typeInfo38 rfl rfl rfl rfl,⟨_,Tryz.underlying38,rfl⟩,rfl,rfl,aM rfl⟩
abbrev y41:Ty:=.sl kJ
def d41:TD:=⟨.slice 117,24,y41,[(.slice none 0 0)]⟩
theorem k41:TOk Tryz.prog 41 d41:=⟨ak Tryz.typeInfo41 rfl rfl rfl rfl,Tryz.underlying41,rfl,rfl,aM rfl⟩
abbrev y42:Ty:=.sl ID
def d42:TD:=⟨.slice 123,24,y42,[(.slice none 0 0)]⟩
theorem k42:TOk Tryz.prog 42 d42:=⟨ak Tryz.typeInfo42 rfl rfl rfl rfl,Tryz.underlying42,rfl,rfl,aM rfl⟩
abbrev y43:Ty:=.st (.pair y41 (y42))
def d43:TD:=⟨.struct [(41,0),(42,1)],48,y43,[(.slice none 0 0),(.slice none 0 0)]⟩
theorem k43:TOk Tryz.prog 43 d43:=⟨ak Tryz.typeInfo43 rfl rfl rfl rfl,⟨_,Tryz.underlying43,rfl⟩,rfl,rfl,aM rfl⟩
abbrev y44:Ty:=.st (.pair y41 (y42))
def d44:TD:=⟨.struct [(41,0),(42,1)],48,y44,[(.slice none 0 0),(.slice none 0 0)]⟩
theorem k44:TOk Tryz.prog 44 d44:=⟨ak Tryz.typeInfo44 rfl rfl rfl rfl,⟨_,Tryz.underlying44,rfl⟩,rfl,rfl,aM rfl⟩
abbrev y48:Ty:=.sl y52
def d48:TD:=⟨.slice 52,24,y48,[(.slice none 0 0)]⟩
theorem k48:TOk Tryz.prog 48 d48:=⟨ak Tryz.typeInfo48 rfl rfl rfl rfl,Tryz.underlying48,rfl,rfl,aM rfl⟩
abbrev y65:Ty:=.st (.pair y48 (.pair y36 (.pair y53 (y53))))
def d65:TD:=⟨.struct [(48,0),(36,1),(53,2),(53,3)],96,y65,[(.slice none 0 0),(.slice none 0 0),(.slice none 0 0),(.slice none 0 0)]⟩
theorem k65:TOk Tryz.prog 65 d65:=⟨ak Tryz.typeInfo65 rfl rfl rfl rfl,⟨_,Tryz.underlying65,rfl⟩,rfl,rfl,aM rfl⟩
abbrev y66:Ty:=.st (.pair y48 (.pair y36 (.pair y53 (y53))))
def d66:TD:=⟨.struct [(48,0),(36,1),(53,2),(53,3)],96,y66,[(.slice none 0 0),(.slice none 0 0),(.slice none 0 0),(.slice none 0 0)]⟩
theorem k66:TOk Tryz.prog 66 d66:=⟨ak Tryz.typeInfo66 rfl rfl rfl rfl,⟨_,Tryz.underlying66,rfl⟩,rfl,rfl,aM rfl⟩
abbrev M1:Ty:=.sl AP
def d143:TD:=⟨.slice 150,24,M1,[(.slice none 0 0)]⟩
theorem M2:TOk Tryz.prog 143 d143:=⟨ak Tryz.typeInfo143 rfl rfl rfl rfl,Tryz.underlying143,rfl,rfl,aM rfl⟩
abbrev M3:Ty:=.ptr Km
def d183:TD:=⟨.pointer 186,8,M3,[(.pointer none)]⟩
theorem M4:TOk Tryz.prog 183 d183:=⟨ak Tryz.typeInfo183 rfl rfl rfl rfl,Tryz.underlying183,rfl,rfl,aM rfl⟩
abbrev M5:Ty:=.ptr Ko
def d208:TD:=⟨.pointer 210,8,M5,[(.pointer none)]⟩
theorem M6:TOk Tryz.prog 208 d208:=⟨ak Tryz.typeInfo208 rfl rfl rfl rfl,Tryz.underlying208,rfl,rfl,aM rfl⟩
abbrev Kr:Ty:=.ptr Kp
def d222:TD:=⟨.pointer 225,8,Kr,[(.pointer none)]⟩
theorem M7:TOk Tryz.prog 222 d222:=⟨ak Tryz.typeInfo222 rfl rfl rfl rfl,Tryz.underlying222,rfl,rfl,aM rfl⟩
def tab:List (Nat×TD):=[(2,d2),(3,d3),(4,d4),(5,d5),(6,d6),(7,d7),(8,d8),(9,d9),(10,d10),(11,d11),(12,d12),(13,d13),(14,d14),(21,d21),(22,d22),(25,d25),(26,d26),(28,d28),(29,d29),(30,d30),(31,d31),(32,d32),(33,d33),(34,d34),(35,d35),(36,d36),(37,d37),(38,d38),(41,d41),(42,d42),(43,d43),(44,d44),(45,d45),(48,d48),(52,d52),(53,d53),(54,d54),(57,d57),(58,d58),(59,d59),(60,d60),(62,d62),(63,d63),(65,d65),(66,d66),(69,d69),(70,d70),(73,d73),(74,d74),(77,d77),(78,d78),(79,d79),(82,d82),(83,d83),(84,d84),(88,d88),(89,d89),(90,d90),(95,d95),(96,d96),(99,d99),(100,d100),(109,d109),(110,d110),(112,d112),(113,d113),(114,d114),(116,d116),(117,d117),(123,d123),(126,d126),(127,d127),(130,d130),(131,d131),(133,d133),(134,d134),(143,d143),(144,d144),(145,d145),(148,d148),(149,d149),(150,d150),(164,d164),(165,d165),(168,d168),(182,d182),(183,d183),(185,d185),(186,d186),(202,d202),(203,d203),(204,d204),(208,d208),(209,d209),(210,d210),(211,d211),(212,d212),(213,d213),(214,d214),(215,d215),(217,d217),(218,d218),(219,d219),(220,d220),(222,d222),(223,d223),(224,d224),(225,d225),(227,d227),(235,d235),(236,d236),(237,d237),(258,d258),(296,d296),(303,d303),(307,d307),(314,d314),(318,d318),(324,d324),(346,d346),(347,d347),(349,d349),(350,d350),(351,d351)]
theorem CU:cd Tryz.prog (vO tab):=CO ((by exact⟨k2,k3,k4,k5,k6,k7,k8,k9,k10,k11,k12,k13,k14,k21,k22,k25,k26,k28,k29,k30,k31,k32,k33,k34,k35,k36,k37,k38,k41,k42,k43,k44,k45,k48,k52,k53,k54,k57,k58,k59,k60,k62,k63,k65,k66,k69,k70,k73,k74,k77,k78,k79,k82,k83,k84,k88,k89,k90,k95,k96,k99,LI,LJ,LL,LM,MG,MH,LN,MI,MJ,LP,LQ,LR,Iz,MK,LS,M2,ML,MM,MN,MO,MP,LV,LW,LX,LY,M4,MQ,MR,MT,LZ,L3,M6,MU,MV,MX,L4,L5,L6,L7,L9,Ma,Mc,Me,M7,Mf,MY,MZ,Mg,Mi,Mj,Ml,Mm,Mo,Mq,M0,Mr,Mt,Mv,Mx,Mz,MB,MD,MF,trivial⟩))
end
noncomputable section
theorem mix:Tryz.prog.follows .mixedOrders=true:=by kernel_rfl
structure Fb(i:Nat)where
 k:Callee
 o:jJ Tryz.prog i k
 q:Plain Tryz.prog i
def lk:List (Σ i,Fb i)->List (FuncId×Callee)
 |[]=>[]
 |a::l=>(a.1,a.2.k)::lk l
theorem Ht:∀ l,Iv Tryz.prog (lk l)
 |[]=>trivial
 |a::l=>⟨⟨a.2.o,a.2.q⟩,Ht l⟩
def hsN:List Nat->Nat->Bool
 |[],_=>false
 |a::l,d=>Nat.beq d a||hsN l d
abbrev Eqs:=List {t//uJ Tryz.prog t}
def eqN:Eqs->Nat->Bool
 |[],_=>false
 |a::l,d=>Nat.beq d a.1||eqN l d
theorem CV:∀ (l:Eqs) t,eqN l t=true->uJ Tryz.prog t
 |[],t,h=>by cases h
 |a::l,t,h=>by
  simp only [eqN,aR]at h
  rcases h with h|h
  ·rw [aV h];exact a.2
  ·exact CV l t h
def vv(l:List (Σ i,Fb i))(a b:List Nat)(e:Eqs):Env:=⟨vO tab,yA (lk l),hsN a,eqN e,hsN b⟩
theorem Kt(l:List (Σ i,Fb i))(a b:List Nat)(e:Eqs):fh Tryz.prog (vv l a b e):=⟨CU,CP (Ht l),mix,CV e⟩
def cb(f:Func):Code:=match f.body with|some c=>c|none=>.skip
abbrev Qt(a b c:List (Ty×Md)):=(dx a).T->Option ((dx b).T×(dx c).T)
theorem pl{f:FuncId}{fn:Func}(h:Tryz.prog.funcs[f]?=some fn)(h1:(fn.name=="runtime.NumGoroutine")=false:=by kernel_rfl)(h2:fn.body.isNone=false:=by kernel_rfl):Plain Tryz.prog f:=⟨fn,h,h1,h2⟩
noncomputable def fb {f:FuncId} {fn:Func} {rv:List ResultVar} {N:Nat} (n:Nat) (l:List (Σ i,Fb i)) (a b:List Nat) (e:Eqs) (hf:Tryz.prog.funcs[f]?=some fn) (hr:fn.results=rv.toArray) (hN:fn.ntmps=N) (an:Ann) (ps rs:List (Ty×Md)) (mi:List Nat) (ms:List (Ty×Md)) (d:Qt ps rs ms) (hb:fn.body=some (cb fn):=by rfl) (hp:ps.length≤N:=by decide) (hm:CM ps mi=true:=by rfl) (he:∀ x,d x=yz (vv l a b e) N n (cb fn) an ps rs mi ms rv x:=by intro x;kernel_rfl) (h1:(fn.name=="runtime.NumGoroutine")=false:=by kernel_rfl) (h2:fn.body.isNone=false:=by kernel_rfl):Fb f:=⟨⟨ps,rs,mi,ms,d⟩,(J6 (Kt l a b e) hf hb hr hN hp hm an n).of_eq he,pl hf h1 h2⟩
abbrev T0:=(List Int)
abbrev T1:=(Int×Unit)
abbrev T2:=(Unit×Unit)
abbrev T3:=(Int×Int×Unit)
abbrev T4:=(Unit×Int×Unit)
abbrev T5:=(Unit×Bool×Unit)
abbrev T6:=((List Int)×Unit)
abbrev T7:=((Int×Unit)×Unit)
abbrev T8:=((Bool×Unit)×Unit)
abbrev T9:=(Unit×Int×Int×Unit)
abbrev T10:=((List Int)×Int×Unit)
abbrev T11:=((Int×Int×Unit)×Unit)
abbrev T12:=((Int×Bool×Unit)×Unit)
abbrev T13:=Option ((Int×Unit)×Unit)
abbrev T14:=(((List Int)×Unit)×Unit)
abbrev T15:=Option ((Bool×Unit)×Unit)
abbrev T16:=(((List Bool)×Unit)×Unit)
abbrev T17:=((List Int)×Int×Int×Unit)
abbrev T18:=(Unit×(List Int)×Int×Unit)
abbrev T19:=((Int×Int×Bool×Unit)×Unit)
abbrev T20:=(((List Int)×Int×Int)×Unit)
abbrev T21:=((List Int)×(List Int)×Unit)
abbrev T22:=(Unit×(List Bool)×Int×Unit)
abbrev T23:=((List (Int×Int×Int))×Unit)
abbrev T24:=(((List Int)×Unit)×Int×Unit)
abbrev T25:=Option ((Int×Int×Unit)×Unit)
abbrev T26:=(((Int×Int×Int)×Unit)×Unit)
abbrev T27:=((List (Int×(List Int)))×Unit)
abbrev T28:=(((List Bool)×Unit)×Int×Unit)
abbrev T29:=(((List Int)×Unit)×Bool×Unit)
abbrev T30:=Option ((Int×Bool×Unit)×Unit)
abbrev T31:=(Unit×(List (Bool×Int))×Unit)
abbrev T32:=Option (((List Int)×Unit)×Unit)
abbrev T33:=(((List Bool)×Unit)×Bool×Unit)
abbrev T34:=(((Bool×Int)×Bool×Unit)×Unit)
abbrev T35:=Option (((List Bool)×Unit)×Unit)
abbrev T36:=(((List (Bool×Int))×Unit)×Unit)
abbrev T37:=(((Int×Int×Int)×Unit)×Int×Unit)
abbrev T38:=(Unit×(List (Int×Int×Int))×Unit)
abbrev T39:=Option ((Int×Int×Bool×Unit)×Unit)
abbrev T40:=((List (List Int))×(List Int)×Unit)
abbrev T41:=(((Int×Int×Int)×Unit)×Bool×Unit)
abbrev T42:=(((List Int)×(List Int)×Unit)×Unit)
abbrev T43:=Option (((Int×Int×Int)×Unit)×Unit)
abbrev T44:=(((List (Int×Int×Int))×Unit)×Unit)
abbrev T45:=(((List Int)×Unit)×(List Bool)×Unit)
abbrev T46:=((List (Bool×Int))×(Bool×Int)×Unit)
abbrev T47:=(((List (Int×Int))×Unit)×Bool×Unit)
abbrev T48:=(((List (Int×(List Int)))×Unit)×Unit)
abbrev T49:=(((List (Bool×Int))×Bool×Unit)×Unit)
abbrev T50:=Option (((List (Bool×Int))×Unit)×Unit)
abbrev T51:=(Unit×(List (Int×Int×Int))×Int×Unit)
abbrev T52:=(((List Int)×(List Int)×Unit)×Int×Unit)
abbrev T53:=(Unit×Int×(List (Int×(List Int)))×Unit)
abbrev T54:=((((List Int)×Int×Int)×Unit)×Bool×Unit)
abbrev T55:=((Bool×Unit)×((List Int)×Int×Int)×Unit)
abbrev T56:=((List ((List Int)×Int×(List Int)))×Unit)
abbrev T57:=(((List (Int×(List Int)))×Int×Unit)×Unit)
abbrev T58:=Option (((List (Int×Int×Int))×Unit)×Unit)
abbrev T59:=((List (Int×Int×Int×Int×Int×Bool))×Unit)
abbrev T60:=((Int×Bool×Unit)×((List Int)×Int×Int)×Unit)
abbrev T61:=((((List Int)×Int×Int)×(List Int)×Unit)×Unit)
abbrev T62:=Option ((Bool×Unit)×((List Int)×Int×Int)×Unit)
abbrev T63:=Option (((List (Int×(List Int)))×Int×Unit)×Unit)
abbrev T64:=(((List (Int×Int×Int×Int×Int×Bool))×Unit)×Unit)
abbrev T65:=(((Int×Int×Int)×(List (Int×Int))×Unit)×Int×Unit)
abbrev T66:=((List (Int×(List Int)))×(List Int)×(List Bool)×Unit)
abbrev T67:=((Int×(List (Int×Int×(List Int)×Bool))×Int×Int)×Unit)
abbrev T68:=((((List Int)×Int×Int)×Unit)×(List (Int×(List Int)))×Unit)
abbrev T69:=((((List Int)×(List (List Int))×(List Int))×Int×Unit)×Unit)
abbrev T70:=(Unit×(Int×(List (Int×Int×(List Int)×Bool))×Int×Int)×Unit)
abbrev T71:=((Int×(List Int)×(List (Bool×Int))×Bool×Int×(List Int))×Unit)
abbrev T72:=(((List Int)×(List Int)×(List ((List Int)×Int))×Unit)×Int×Unit)
abbrev T73:=((((List Int)×Int×Int)×Unit)×(List (Int×(List Int)))×Bool×Unit)
abbrev T74:=(((List (Int×(List Int)))×Bool×Unit)×((List Int)×Int×Int)×Unit)
abbrev T75:=Option ((((List Int)×(List (List Int))×(List Int))×Int×Unit)×Unit)
abbrev T76:=((Int×Unit)×(Int×(List (Int×Int×(List Int)×Bool))×Int×Int)×Unit)
abbrev T77:=((((List Bool)×(List Int))×((List Bool)×(List Int))×Unit)×Bool×Unit)
abbrev T78:=Option (((List (Int×(List Int)))×Bool×Unit)×((List Int)×Int×Int)×Unit)
abbrev T79:=(((List (List (Int×Int)))×(List (List Int))×(List Int)×(List Int))×Unit)
abbrev T80:=(((List (Int×Int))×Unit)×(List (Int×Int×Int×Int×Int×Bool))×Int×Unit)
abbrev T81:=(((List (List (Int×Int)))×(List (Int×Int×Int×Int×Int×Bool))×Unit)×Unit)
abbrev T82:=((List Int)×Int×Int×Unit)->Option (((List (Int×(List Int)))×Int×Unit)×Unit)
abbrev T83:=((((List (List (Int×Int×Int)))×(List (List ((Bool×Int)×Int))))×Int×Unit)×Unit)
abbrev T84:=(((Int×(List (Int×Int×(List Int)×Bool))×Int×Int)×(List (Int×Int))×Unit)×Unit)
abbrev T85:=(((List (List (Int×Int)))×(List (List Int))×(List Int)×(List Int))×Int×Int×Unit)
abbrev T86:=((List (Int×(List Int)))×(List Int)×(List Bool)×Unit)->Option (((List Bool)×Unit)×Unit)
abbrev T87:=(((List Int)×Int×Int)×Unit)->Option (((List (Int×(List Int)))×Bool×Unit)×((List Int)×Int×Int)×Unit)
abbrev T88:=((Int×Unit)×(List ((List Int)×Int))×((List (List (Int×Int×Int)))×(List (List ((Bool×Int)×Int))))×Unit)
abbrev T89:=((((List (List (Int×Int)))×(List (List Int))×(List Int)×(List Int))×((List (List (Int×Int)))×(List (List Int))×(List Int)×(List Int))×Unit)×Int×Unit)
abbrev T90:=(((List ((List Int)×Int×(List Int)))×(List (List Int))×(List (Int×(List Int)×(List (Bool×Int))×Bool×Int×(List Int)))×(List (Int×(List Int)))×Int)×Unit)
abbrev T91:=(((List ((List Int)×Int×(List Int)))×(List (List Int))×(List (Int×(List Int)×(List (Bool×Int))×Bool×Int×(List Int)))×(List (Int×(List Int)))×Int)×Int×Unit)
abbrev T92:=(((List ((List Int)×Int×(List Int)))×(List (List Int))×(List (Int×(List Int)×(List (Bool×Int))×Bool×Int×(List Int)))×(List (Int×(List Int)))×Int)×Int×Int×Unit)
abbrev T93:=(((List ((List Int)×Int×(List Int)))×(List (List Int))×(List (Int×(List Int)×(List (Bool×Int))×Bool×Int×(List Int)))×(List (Int×(List Int)))×Int)×(Bool×Int)×Unit)
abbrev T94:=(((List ((List Int)×Int×(List Int)))×(List (List Int))×(List (Int×(List Int)×(List (Bool×Int))×Bool×Int×(List Int)))×(List (Int×(List Int)))×Int)×(Int×Int×Int)×Unit)
abbrev T95:=((Int×Unit)×((Int×(List (Int×Int×(List Int)×Bool))×Int×Int)×(List Int)×(List Int)×(List ((List Int)×Int))×(List (List Bool))×(List Int)×(List (List Int))×(List Int))×Unit)
abbrev T96:=((((List Int)×(List (List Int))×(List Int))×((Int×(List (Int×Int×(List Int)×Bool))×Int×Int)×(List Int)×(List Int)×(List ((List Int)×Int))×(List (List Bool))×(List Int)×(List (List Int))×(List Int))×Unit)×Int×Unit)
abbrev T97:=(((((List ((List Int)×Int×(List Int)))×(List (List Int))×(List (Int×(List Int)×(List (Bool×Int))×Bool×Int×(List Int)))×(List (Int×(List Int)))×Int)×((List Bool)×(List Int))×(List Bool)×(List Int)×(List (Int×Int×Int)))×Unit)×Unit)
abbrev T98:=(((((List ((List Int)×Int×(List Int)))×(List (List Int))×(List (Int×(List Int)×(List (Bool×Int))×Bool×Int×(List Int)))×(List (Int×(List Int)))×Int)×((List Bool)×(List Int))×(List Bool)×(List Int)×(List (Int×Int×Int)))×Unit)×Bool×Unit)
abbrev A0:List (Ty×Md):=[(.box pK,.own (.pr .ro (.pr (.own .ro) (.pr .ro .ro))))]
abbrev A2:List (Ty×Md):=[(y83,.ro),(y2,.ro),(y2,.ro)]
abbrev A5:List (Ty×Md):=[(.box ko,.own .ro)]
abbrev A6:List (Ty×Md):=[(y32,.ro),(AM,.ro)]
abbrev A7:List (Ty×Md):=[(nw,.ro),(y4,.ro)]
abbrev A8:List (Ty×Md):=[(nw,.ro),(y2,.ro)]
abbrev A9:List (Ty×Md):=[(y89,.ro),(y2,.ro)]
abbrev A10:List (Ty×Md):=[(y32,.ro),(y2,.ro)]
abbrev A11:List (Ty×Md):=[(y2,.ro),(y2,.ro)]
abbrev A12:List (Ty×Md):=[(kp,.ro)]
abbrev A13:List (Ty×Md):=[(kI,.ro)]
abbrev A14:List (Ty×Md):=[(kJ,.ro)]
abbrev A15:List (Ty×Md):=[(y32,.ro)]
abbrev A16:List (Ty×Md):=[(y4,.ro)]
abbrev A17:List (Ty×Md):=[(y2,.ro)]
abbrev A18:List (Ty×Md):=[(y9,.ro)]
end
noncomputable section
def vR(v1:Nat)(v2:(((List Int)×Int×Int)×(List Int)×Unit)):T62:=bif decide ((v2.1.1.length:Int)<=v2.1.2.1)then some ((true,()),v2.1,())else aA (λ(v3:((((List Int)×Int×Int)×Unit)×Int×Unit))=>λv4=>bif decide (v3.2.1<(v2.2.1.length:Int))then if 0<=v3.1.1.2.1 then(match v3.1.1.1[(v3.1.1.2.1).toNat]? with|some v5=>if 0<=v3.2.1 then(match v2.2.1[(v3.2.1).toNat]? with|some v6=>bif decide (v5=v6)then some ((true,()),v3.1.1,())else v4 ((v3.1.1,()),IntKind.wrap .i64 (v3.2.1+1),())|none=>none)else none|none=>none)else none else some ((false,()),v3.1.1,())) v1 ((v2.1,()),0,())
def F220(n:Nat):Fb 220:=fb n [] [] [] [] Tryz.func220 Tryz.results220 Tryz.ntmps220 (.seq .nop (.seq .nop (.seq (.seq .nop (.block none (.loop ⟨[(6,.box ko,.own .ro)],[.val 18 y2],[0,1,17]⟩ .nop))) .nop))) [(.box ko,.own .ro),(y9,.ro)] A16 [0] A5 (vR n)
def mj(v1:Nat)(v2:(((List Int)×Int×Int)×Int×Unit)):T62:=aq (λ(v3:T54)=>bif v3.2.1 then some ((true,()),(v3.1.1.1,IntKind.wrap .i64 (v3.1.1.2.1+1),v3.1.1.2.2),())else some ((false,()),v3.1.1,())) (λv4=>bif decide (v2.1.2.1<(v2.1.1.length:Int))then if 0<=v2.1.2.1 then(match v2.1.1[(v2.1.2.1).toNat]? with|some v5=>v4 ((v2.1,()),decide (v5=v2.2.1),())|none=>none)else none else v4 ((v2.1,()),false,()))
def F174(n:Nat):Fb 174:=fb n [] [] [] [] Tryz.func174 Tryz.results174 Tryz.ntmps174 (.seq .nop (.seq (.seq (.reg (some ⟨[(6,.box ko,.own .ro)],[.val 27 y4],[0]⟩) []) .nop) .nop)) [(.box ko,.own .ro),(y5,.ro)] A16 [0] A5 (mj n)
def FE(v1:Nat)(v2:Unit):T32:=if(0:Int)<=(0:Int)then(match([0,0,0,0]:List Int)[(0:Int).toNat]? with|some v3=>if(0:Int)<=(1:Int)then(match(List.set ([0,0,0,0]:List Int) (0:Int).toNat (18446744073709551615:Int))[(1:Int).toNat]? with|some v4=>if(0:Int)<=(2:Int)then(match(List.set (List.set ([0,0,0,0]:List Int) (0:Int).toNat (18446744073709551615:Int)) (1:Int).toNat (18446744073709551615:Int))[(2:Int).toNat]? with|some v5=>if(0:Int)<=(3:Int)then(match(List.set (List.set (List.set ([0,0,0,0]:List Int) (0:Int).toNat (18446744073709551615:Int)) (1:Int).toNat (18446744073709551615:Int)) (2:Int).toNat (18446744073709551615:Int))[(3:Int).toNat]? with|some v6=>some ((List.set (List.set (List.set (List.set ([0,0,0,0]:List Int) (0:Int).toNat (18446744073709551615:Int)) (1:Int).toNat (18446744073709551615:Int)) (2:Int).toNat (18446744073709551615:Int)) (3:Int).toNat (18446744073709551615:Int),()),())|none=>none)else none|none=>none)else none|none=>none)else none|none=>none)else none
def F248(n:Nat):Fb 248:=fb n [] [] [] [] Tryz.func248 Tryz.results248 Tryz.ntmps248 (.seq .nop (.seq (.reg none [0]) .nop)) [] A12 [] [] (FE n)
def xF(v1:Nat)(v2:T1):T13:=aq (λ(v3:T5)=>bif v3.2.1 then some ((IntKind.wrap .i64 (IntKind.wrap .u8 (v2.1-48)),()),())else aq (λ(v4:T5)=>bif v4.2.1 then some ((IntKind.wrap .i64 ((IntKind.wrap .i64 (IntKind.wrap .u8 (v2.1-97)))+10),()),())else some ((-1,()),())) (λv5=>bif decide (97<=v2.1)then v5 ((),decide (v2.1<=102),())else v5 ((),false,()))) (λv6=>bif decide (48<=v2.1)then v6 ((),decide (v2.1<=57),())else v6 ((),false,()))
def F262(n:Nat):Fb 262:=fb n [] [] [] [] Tryz.func262 Tryz.results262 Tryz.ntmps262 (.seq .nop (.seq (.block none (.seq (.reg (some ⟨[],[.val 3 y4],[0]⟩) []) (.cond none .nop (.seq (.reg (some ⟨[],[.val 13 y4],[0]⟩) []) .nop)))) .nop)) [(y5,.ro)] A17 [] [] (xF n)
def FF(v1:Nat)(v2:T6):T39:=bif decide (v2.1=([]:List Int))then some ((0,0,false,()),())else if(0:Int)<=(0:Int)then(match v2.1[(0:Int).toNat]? with|some v3=>bif !(decide (v3=92))then if(0:Int)<=(0:Int)then(match v2.1[(0:Int).toNat]? with|some v4=>some ((v4,1,true,()),())|none=>none)else none else bif decide ((v2.1.length:Int)<2)then some ((0,0,false,()),())else if(0:Int)<=(1:Int)then(match v2.1[(1:Int).toNat]? with|some v5=>aq (λ(v6:T2)=>some ((0,0,false,()),())) (λv7=>bif decide (v5=110)then some ((10,2,true,()),())else bif decide (v5=116)then some ((9,2,true,()),())else bif decide (v5=114)then some ((13,2,true,()),())else bif decide (v5=120)then aq (λ(v8:T5)=>bif v8.2.1 then if(0:Int)<=(2:Int)then(match v2.1[(2:Int).toNat]? with|some v9=>ah (xF v1 (v9,())) (λ(v10:T7)=>if(4:Int)<0 then none else if(0:Int)<=(3:Int)then(match v2.1[(3:Int).toNat]? with|some v11=>ah (xF v1 (v11,())) (λ(v12:T7)=>some ((IntKind.wrap .u8 (dL .or .i64 (IntKind.wrap .i64 (v10.1.1*2 ^ (Nat.min (Int.toNat (4:Int)) (IntKind.bits .i64)))) v12.1.1),4,true,()),()))|none=>none)else none)|none=>none)else none else v7 ((),())) (λv13=>bif decide (4<=(v2.1.length:Int))then if(0:Int)<=(2:Int)then(match v2.1[(2:Int).toNat]? with|some v14=>ah (xF v1 (v14,())) (λ(v15:T7)=>bif decide (0<=v15.1.1)then if(0:Int)<=(3:Int)then(match v2.1[(3:Int).toNat]? with|some v16=>ah (xF v1 (v16,())) (λ(v17:T7)=>v13 ((),decide (0<=v17.1.1),()))|none=>none)else none else v13 ((),false,()))|none=>none)else none else v13 ((),false,()))else bif decide (v5=0)then v7 ((),())else aq (λ(v18:T5)=>bif v18.2.1 then some ((0,0,false,()),())else some ((v5,2,true,()),())) (λv19=>bif decide (48<=v5)then bif decide (v5<=57)then v19 ((),true,())else bif decide (97<=v5)then bif decide (v5<=122)then v19 ((),true,())else bif decide (65<=v5)then bif decide (v5<=90)then v19 ((),true,())else bif decide (v5<32)then v19 ((),true,())else v19 ((),decide (126<v5),())else bif decide (v5<32)then v19 ((),true,())else v19 ((),decide (126<v5),())else bif decide (65<=v5)then bif decide (v5<=90)then v19 ((),true,())else bif decide (v5<32)then v19 ((),true,())else v19 ((),decide (126<v5),())else bif decide (v5<32)then v19 ((),true,())else v19 ((),decide (126<v5),())else bif decide (97<=v5)then bif decide (v5<=122)then v19 ((),true,())else bif decide (65<=v5)then bif decide (v5<=90)then v19 ((),true,())else bif decide (v5<32)then v19 ((),true,())else v19 ((),decide (126<v5),())else bif decide (v5<32)then v19 ((),true,())else v19 ((),decide (126<v5),())else bif decide (65<=v5)then bif decide (v5<=90)then v19 ((),true,())else bif decide (v5<32)then v19 ((),true,())else v19 ((),decide (126<v5),())else bif decide (v5<32)then v19 ((),true,())else v19 ((),decide (126<v5),())))|none=>none)else none|none=>none)else none
def F256(n:Nat):Fb 256:=fb n [⟨_,F262 n⟩] [] [] [] Tryz.func256 Tryz.results256 Tryz.ntmps256 (.seq .nop (.seq .nop (.seq .nop (.seq (.seq .nop (.block none (.seq (.block (some ⟨[],[],[]⟩) (.seq .nop (.seq (.reg (some ⟨[],[.val 46 y4],[0]⟩) []) .nop))) .nop))) (.seq (.seq (.reg (some ⟨[],[.val 85 y4],[5]⟩) []) .nop) .nop))))) A18 [(y5,.ro),(y2,.ro),(y4,.ro)] [] [] (FF n)
def AQ(v1:Nat)(v2:T20):Option ((Int×Bool×Unit)×((List Int)×Int×Int)×Unit):=if 0<=v2.1.2.1/\v2.1.2.1<=(v2.1.1.length:Int)/\(v2.1.1.length:Int)<=(v2.1.1.length:Int)then ah (FF v1 (bZ v2.1.1 v2.1.2.1 (v2.1.1.length:Int),())) (λ(v3:T19)=>some ((v3.1.1,v3.1.2.2.1,()),(v2.1.1,IntKind.wrap .i64 (v2.1.2.1+v3.1.2.1),v2.1.2.2),()))else none
def F250(n:Nat):Fb 250:=fb n [⟨_,F256 n⟩] [] [] [] Tryz.func250 Tryz.results250 Tryz.ntmps250 (.nop) A5 [(y5,.ro),(y4,.ro)] [0] A5 (AQ n)
def CW(v1:Nat)(v2:T3):T32:=aA (λ(v3:T52)=>λv4=>bif decide (v3.2.1<=(IntKind.wrap .i64 v2.2.1))then if(64:Int)=0 then none else if 0<=(IntKind.wrap .i64 (Int.tdiv v3.2.1 64))then(match v3.1.2.1[(IntKind.wrap .i64 (Int.tdiv v3.2.1 64)).toNat]? with|some v5=>if(64:Int)=0 then none else if(IntKind.wrap .u64 (Int.tmod v3.2.1 64))<0 then none else if 0<=(IntKind.wrap .i64 (Int.tdiv v3.2.1 64))then(match v3.1.2.1[(IntKind.wrap .i64 (Int.tdiv v3.2.1 64)).toNat]? with|some v6=>if 0<=(IntKind.wrap .i64 (Int.tdiv v3.2.1 64))then(match v3.1.2.1[(IntKind.wrap .i64 (Int.tdiv v3.2.1 64)).toNat]? with|some v7=>v4 ((v3.1.1,List.set v3.1.2.1 (IntKind.wrap .i64 (Int.tdiv v3.2.1 64)).toNat (dL .or .u64 v5 (IntKind.wrap .u64 ((1:Int)*2 ^ (Nat.min (Int.toNat (IntKind.wrap .u64 (Int.tmod v3.2.1 64))) (IntKind.bits .u64))))),()),IntKind.wrap .i64 (v3.2.1+1),())|none=>none)else none|none=>none)else none|none=>none)else none else some ((v3.1.2.1,()),())) v1 ((([0,0,0,0]:List Int),([0,0,0,0]:List Int),()),IntKind.wrap .i64 v2.1,())
def F254(n:Nat):Fb 254:=fb n [] [] [] [] Tryz.func254 Tryz.results254 Tryz.ntmps254 (.seq .nop (.seq .nop (.seq (.seq .nop (.block none (.loop ⟨[(32,.box kp,.own .ro),(40,.box kp,.own .ro)],[.val 6 y2],[1,4,5]⟩ .nop))) (.seq (.rgf none [5] [4]) .nop)))) [(y5,.ro),(y5,.ro)] A12 [] [] (CW n)
def CX(v1:Nat)(v2:T21):T32:=aA (λ(v3:T52)=>λv4=>bif decide (v3.2.1<4)then if 0<=v3.2.1 then(match v3.1.1[(v3.2.1).toNat]? with|some v5=>if 0<=v3.2.1 then(match v2.2.1[(v3.2.1).toNat]? with|some v6=>if 0<=v3.2.1 then(match v3.1.1[(v3.2.1).toNat]? with|some v7=>if 0<=v3.2.1 then(match v3.1.1[(v3.2.1).toNat]? with|some v8=>v4 ((List.set v3.1.1 (v3.2.1).toNat (dL .or .u64 v5 v6),v3.1.2.1,()),IntKind.wrap .i64 (v3.2.1+1),())|none=>none)else none|none=>none)else none|none=>none)else none|none=>none)else none else some ((v3.1.1,()),())) v1 ((v2.1,([0,0,0,0]:List Int),()),0,())
def F253(n:Nat):Fb 253:=fb n [] [] [] [] Tryz.func253 Tryz.results253 Tryz.ntmps253 (.seq (.reg none [3]) (.seq (.seq .nop (.block none (.loop ⟨[(16,.box kp,.own .ro),(32,.box kp,.own .ro)],[.val 6 y2],[2,3,4]⟩ .nop))) (.seq (.rgf none [2] [4]) .nop))) [(kp,.ro),(kp,.ro)] A12 [] [] (CX n)
def FG(v1:Nat)(v2:T21):T32:=aA (λ(v3:T52)=>λv4=>bif decide (v3.2.1<4)then if 0<=v3.2.1 then(match v3.1.1[(v3.2.1).toNat]? with|some v5=>if 0<=v3.2.1 then(match v2.2.1[(v3.2.1).toNat]? with|some v6=>if 0<=v3.2.1 then(match v3.1.1[(v3.2.1).toNat]? with|some v7=>if 0<=v3.2.1 then(match v3.1.1[(v3.2.1).toNat]? with|some v8=>v4 ((List.set v3.1.1 (v3.2.1).toNat (dL .andNot .u64 v5 v6),v3.1.2.1,()),IntKind.wrap .i64 (v3.2.1+1),())|none=>none)else none|none=>none)else none|none=>none)else none|none=>none)else none else some ((v3.1.1,()),())) v1 ((v2.1,([0,0,0,0]:List Int),()),0,())
def F261(n:Nat):Fb 261:=fb n [] [] [] [] Tryz.func261 Tryz.results261 Tryz.ntmps261 (.seq (.reg none [3]) (.seq (.seq .nop (.block none (.loop ⟨[(16,.box kp,.own .ro),(32,.box kp,.own .ro)],[.val 6 y2],[2,3,4]⟩ .nop))) (.seq (.rgf none [2] [4]) .nop))) [(kp,.ro),(kp,.ro)] A12 [] [] (FG n)
def FH(v1:Nat)(v2:T6):T32:=ah (FE v1 ()) (λ(v3:T14)=>ah (FG v1 (v3.1.1,v2.1,())) (λ(v4:T14)=>some ((v4.1.1,()),())))
def F255(n:Nat):Fb 255:=fb n [⟨_,F248 n⟩,⟨_,F261 n⟩] [] [] [] Tryz.func255 Tryz.results255 Tryz.ntmps255 (.seq (.reg none [1]) (.seq (.reg none [2]) .nop)) A12 A12 [] [] (FH n)
theorem Ku:uJ Tryz.prog 213:=⟨by kernel_rfl,by kernel_rfl,by kernel_rfl⟩
def pL(v1:Nat)(v2:T6):T15:=some ((decide (v2.1=([0,0,0,0]:List Int)),()),())
def F177(n:Nat):Fb 177:=fb n [] [] [] [⟨_,Ku⟩] Tryz.func177 Tryz.results177 Tryz.ntmps177 (.seq (.reg none [1]) .nop) A12 A16 [] [] (pL n)
def FI(v1:Nat)(v2:T20):T78:=ah (mj v1 (v2.1,94,())) (λ(v3:T55)=>aA (λ(v4:T61)=>λv5=>ah (vR v1 (v4.1.1,([93]:List Int),())) (λ(v6:T55)=>bif !v6.1.1 then ah (vR v1 (v6.2.1,([94,45,47,34]:List Int),())) (λ(v7:T55)=>bif v7.1.1 then some ((([]:List (Int×(List Int))),false,()),v7.2.1,())else ah (AQ v1 (v7.2.1,())) (λ(v8:T60)=>bif !v8.1.2.1 then some ((([]:List (Int×(List Int))),false,()),v8.2.1,())else ah (mj v1 (v8.2.1,45,())) (λ(v9:T55)=>aq (λ(v10:((((List Int)×Int×Int)×(List Int)×Unit)×Int×Unit))=>ah (CW v1 (v8.1.1,v10.2.1,())) (λ(v11:T14)=>ah (CX v1 (v10.1.2.1,v11.1.1,())) (λ(v12:T14)=>v5 ((v10.1.1,v12.1.1,()),())))) (λv13=>bif v9.1.1 then ah (vR v1 (v9.2.1,([93,94,45,47,34]:List Int),())) (λ(v14:T55)=>bif v14.1.1 then some ((([]:List (Int×(List Int))),false,()),v14.2.1,())else ah (AQ v1 (v14.2.1,())) (λ(v15:T60)=>aq (λ(v16:((((List Int)×Int×Int)×(List Int)×Unit)×Bool×Unit))=>bif v16.2.1 then some ((([]:List (Int×(List Int))),false,()),v16.1.1,())else v13 ((v16.1.1,v16.1.2.1,()),v15.1.1,())) (λv17=>bif !v15.1.2.1 then v17 ((v15.2.1,v4.1.2.1,()),true,())else v17 ((v15.2.1,v4.1.2.1,()),decide (v15.1.1<v8.1.1),()))))else v13 ((v9.2.1,v4.1.2.1,()),v8.1.1,())))))else aq (λ(v18:T61)=>aq (λ(v19:T73)=>some ((v19.2.1,v19.2.2.1,()),v19.1.1,())) (λv20=>ah (mj v1 (v18.1.1,93,())) (λ(v21:T55)=>bif v21.1.1 then ah (pL v1 (v18.1.2.1,())) (λ(v22:T8)=>v20 ((v21.2.1,()),([(1,v18.1.2.1)]:List (Int×(List Int))),!v22.1.1,()))else v20 ((v21.2.1,()),([(1,v18.1.2.1)]:List (Int×(List Int))),false,())))) (λv23=>bif v3.1.1 then ah (FH v1 (v4.1.2.1,())) (λ(v24:T14)=>v23 ((v6.2.1,v24.1.1,()),()))else v23 ((v6.2.1,v4.1.2.1,()),())))) v1 ((v3.2.1,([0,0,0,0]:List Int),()),()))
def F249(n:Nat):Fb 249:=fb n [⟨_,F174 n⟩,⟨_,F220 n⟩,⟨_,F250 n⟩,⟨_,F254 n⟩,⟨_,F253 n⟩,⟨_,F255 n⟩,⟨_,F177 n⟩] [] [] [] Tryz.func249 Tryz.results249 Tryz.ntmps249 (.seq .nop (.seq .nop (.seq .nop (.seq (.block none (.loop ⟨[(6,.box ko,.own .ro),(40,.box kp,.own .ro)],[],[0,4,5]⟩ (.seq .nop (.block none (.seq .nop (.seq .nop (.seq .nop (.seq .nop (.seq (.seq .nop (.cond (some ⟨[(6,.box ko,.own .ro),(40,.box kp,.own .ro)],[.val 8 y5],[0,4,5,6]⟩) (.seq .nop (.seq .nop (.seq (.reg (some ⟨[(6,.box ko,.own .ro),(40,.box kp,.own .ro)],[.val 39 y4],[0,4,5,6,8]⟩) []) .nop))) .nop)) .nop))))))))) (.seq (.seq .nop (.cond (some ⟨[(6,.box ko,.own .ro),(40,.box kp,.own .ro)],[],[0,5]⟩) .nop .nop)) (.seq (.rgf (some ⟨[(6,.box ko,.own .ro)],[.hdr 2 23 nw (.own .ro),.val 3 y4],[0]⟩) [5] []) .nop)))))) A5 A7 [0] A5 (FI n)
def FJ(v1:Nat)(v2:T6):T32:=aA (λ(v3:T52)=>λv4=>bif decide (v3.2.1<(v2.1.length:Int))then if 0<=v3.2.1 then(match v2.1[(v3.2.1).toNat]? with|some v5=>if(64:Int)=0 then none else if 0<=(IntKind.wrap .u8 (Int.tdiv v5 64))then(match v3.1.2.1[(IntKind.wrap .u8 (Int.tdiv v5 64)).toNat]? with|some v6=>if(64:Int)=0 then none else if(Int.tmod v5 64)<0 then none else if 0<=(IntKind.wrap .u8 (Int.tdiv v5 64))then(match v3.1.2.1[(IntKind.wrap .u8 (Int.tdiv v5 64)).toNat]? with|some v7=>if 0<=(IntKind.wrap .u8 (Int.tdiv v5 64))then(match v3.1.2.1[(IntKind.wrap .u8 (Int.tdiv v5 64)).toNat]? with|some v8=>v4 ((v3.1.1,List.set v3.1.2.1 (IntKind.wrap .u8 (Int.tdiv v5 64)).toNat (dL .or .u64 v6 (IntKind.wrap .u64 ((1:Int)*2 ^ (Nat.min (Int.toNat (Int.tmod v5 64)) (IntKind.bits .u64))))),()),IntKind.wrap .i64 (v3.2.1+1),())|none=>none)else none|none=>none)else none|none=>none)else none|none=>none)else none else some ((v3.1.2.1,()),())) v1 ((([0,0,0,0]:List Int),([0,0,0,0]:List Int),()),0,())
def F251(n:Nat):Fb 251:=fb n [] [] [] [] Tryz.func251 Tryz.results251 Tryz.ntmps251 (.seq .nop (.seq .nop (.seq (.seq .nop (.block none (.loop ⟨[(16,.box kp,.own .ro),(24,.box kp,.own .ro)],[.val 8 y2],[2,3,6,7]⟩ .nop))) (.seq (.rgf none [3] [2]) .nop)))) [(rK,.ro)] A12 [] [] (FJ n)
def vS(v1:Nat)(v2:T1):T13:=aq (λ(v3:T5)=>bif v3.2.1 then some ((0,()),())else aq (λ(v4:T5)=>bif v4.2.1 then some ((1,()),())else aq (λ(v5:T5)=>bif v5.2.1 then some ((2,()),())else some ((-1,()),())) (λv6=>bif decide (v2.1=2)then v6 ((),decide (v2.1=2),())else v6 ((),decide (v2.1=3),()))) (λv7=>bif decide (v2.1=4)then v7 ((),decide (v2.1=4),())else aq (λ(v8:T5)=>v7 ((),v8.2.1,())) (λv9=>bif decide (v2.1=5)then v9 ((),decide (v2.1=5),())else v9 ((),decide (v2.1=6),())))) (λv10=>bif decide (v2.1=0)then v10 ((),decide (v2.1=0),())else v10 ((),decide (v2.1=1),()))
def F176(n:Nat):Fb 176:=fb n [] [] [] [] Tryz.func176 Tryz.results176 Tryz.ntmps176 (.seq .nop (.seq (.seq .nop (.block none (.seq (.seq .nop (.cond (some ⟨[],[.val 4 y4],[3]⟩) .nop .nop)) (.cond none .nop (.seq (.seq .nop (.cond (some ⟨[],[.val 7 y4],[3]⟩) .nop (.seq .nop (.cond (some ⟨[],[.val 7 y4],[3]⟩) .nop .nop)))) (.cond none .nop (.seq (.seq .nop (.cond (some ⟨[],[.val 11 y4],[]⟩) .nop .nop)) .nop))))))) .nop)) A17 A17 [] [] (vS n)
def qS(v1:Nat)(v2:(Int×(List (List (Int×(List Int))))×Unit)):Option (((List (Int×(List Int)))×Unit)×Unit):=aq (λ(v3:T5)=>bif v3.2.1 then some ((([]:List (Int×(List Int))),()),())else aA (λ(v4:(Unit×(List (Int×(List Int)))×Int×Unit))=>λv5=>bif decide (v4.2.2.1<(v2.2.1.length:Int))then if 0<=v4.2.2.1 then(match v2.2.1[(v4.2.2.1).toNat]? with|some v6=>if(List.length v4.2.1+List.length v6)*40<=140737488355328 then if List.length v4.2.1+List.length v6<=9223372036854775807 then v5 ((),v4.2.1++v6,IntKind.wrap .i64 (v4.2.2.1+1),())else none else none|none=>none)else none else if(List.length v4.2.1+List.length ([(v2.1,([0,0,0,0]:List Int))]:List (Int×(List Int))))*40<=140737488355328 then if List.length v4.2.1+List.length ([(v2.1,([0,0,0,0]:List Int))]:List (Int×(List Int)))<=9223372036854775807 then some ((v4.2.1++([(v2.1,([0,0,0,0]:List Int))]:List (Int×(List Int))),()),())else none else none) v1 ((),([]:List (Int×(List Int))),0,())) (λv7=>ah (vS v1 (v2.1,())) (λ(v8:T7)=>bif !(decide (v8.1.1=(v2.2.1.length:Int)))then v7 ((),true,())else v7 ((),decide ((v2.2.1.length:Int)=0),())))
def F175(n:Nat):Fb 175:=fb n [⟨_,F176 n⟩] [] [] [] Tryz.func175 Tryz.results175 Tryz.ntmps175 (.seq .nop (.seq (.seq (.reg (some ⟨[],[.val 17 y4],[0,1]⟩) []) .nop) (.seq .nop (.seq (.seq .nop (.block none (.loop ⟨[],[.hdr 5 47 nw (.own .ro),.val 20 y2],[0,18,19]⟩ .nop))) .nop)))) [(y2,.ro),(Kq,.ro)] [(nw,.ro)] [] [] (qS n)
abbrev AR:=Qt A5 A7 A5
abbrev IF(q:AR):Callee:=⟨_,_,[0],_,q⟩
theorem CY:Plain Tryz.prog 110:=pl Tryz.func110
abbrev AS:=Qt A5 A7 A5
abbrev Kv(q:AS):Callee:=⟨_,_,[0],_,q⟩
theorem FK:Plain Tryz.prog 173:=pl Tryz.func173
abbrev AT:=Qt A5 A7 A5
abbrev Kw(q:AT):Callee:=⟨_,_,[0],_,q⟩
theorem FL:Plain Tryz.prog 219:=pl Tryz.func219
abbrev AU:=Qt A5 A7 A5
abbrev Kx(q:AU):Callee:=⟨_,_,[0],_,q⟩
theorem FM:Plain Tryz.prog 241:=pl Tryz.func241
abbrev CZ(ll:AR)(lm:AS)(lp:AT)(lq:AU):=jJ Tryz.prog 110 (IF ll)/\jJ Tryz.prog 173 (Kv lm)/\jJ Tryz.prog 219 (Kw lp)/\jJ Tryz.prog 241 (Kx lq)
def vT(v1:Nat)(v2 v3 v4 v5:T87)(v6:T20):T78:=ah (v3 (v6.1,())) (λ(v7:T74)=>aA (λ(v8:T73)=>λv9=>aq (λ(v10:T54)=>bif v10.2.1 then ah (v3 (v10.1.1,())) (λ(v11:T74)=>ah (qS v1 (3,([v8.2.1,v11.1.1]:List (List (Int×(List Int)))),())) (λ(v12:T48)=>v9 ((v11.2.1,()),v12.1.1,v11.1.2.1,())))else some ((v8.2.1,v8.2.2.1,()),v10.1.1,())) (λv13=>bif v8.2.2.1 then ah (mj v1 (v8.1.1,124,())) (λ(v14:T55)=>v13 ((v14.2.1,()),v14.1.1,()))else v13 ((v8.1.1,()),false,()))) v1 ((v7.2.1,()),v7.1.1,v7.1.2.1,()))
theorem M8(n:Nat)(ll:AR)(lm:AS)(lp:AT)(lq:AU)(h:CZ ll lm lp lq):jJ Tryz.prog 110 (IF (vT n ll lm lp lq)):=(fb n [⟨_,F174 n⟩,⟨_,F175 n⟩,⟨_,⟨_,h.1,CY⟩⟩,⟨_,⟨_,h.2.1,FK⟩⟩,⟨_,⟨_,h.2.2.1,FL⟩⟩,⟨_,⟨_,h.2.2.2,FM⟩⟩] [9,19] [] [] Tryz.func110 Tryz.results110 Tryz.ntmps110 (.seq .nop (.seq .nop (.seq (.block none (.loop ⟨[(6,.box ko,.own .ro)],[.val 4 nw,.val 5 y4],[0]⟩ (.seq (.seq (.reg (some ⟨[(6,.box ko,.own .ro)],[.val 16 y4],[0,4,5]⟩) []) .nop) .nop))) .nop))) A5 A7 [0] A5 (vT n ll lm lp lq)).o
def vU(v1:Nat)(v2 v3 v4 v5:T87)(v6:T20):T78:=ah (v4 (v6.1,())) (λ(v7:T74)=>aA (λ(v8:T73)=>λv9=>aq (λ(v10:T54)=>bif v10.2.1 then ah (v4 (v10.1.1,())) (λ(v11:T74)=>ah (qS v1 (2,([v8.2.1,v11.1.1]:List (List (Int×(List Int)))),())) (λ(v12:T48)=>v9 ((v11.2.1,()),v12.1.1,v11.1.2.1,())))else some ((v8.2.1,v8.2.2.1,()),v10.1.1,())) (λv13=>bif v8.2.2.1 then ah (vR v1 (v8.1.1,([124,41]:List Int),())) (λ(v14:T55)=>v13 ((v14.2.1,()),!v14.1.1,()))else v13 ((v8.1.1,()),false,()))) v1 ((v7.2.1,()),v7.1.1,v7.1.2.1,()))
theorem M9(n:Nat)(ll:AR)(lm:AS)(lp:AT)(lq:AU)(h:CZ ll lm lp lq):jJ Tryz.prog 173 (Kv (vU n ll lm lp lq)):=(fb n [⟨_,F220 n⟩,⟨_,F175 n⟩,⟨_,⟨_,h.1,CY⟩⟩,⟨_,⟨_,h.2.1,FK⟩⟩,⟨_,⟨_,h.2.2.1,FL⟩⟩,⟨_,⟨_,h.2.2.2,FM⟩⟩] [9,20] [] [] Tryz.func173 Tryz.results173 Tryz.ntmps173 (.seq .nop (.seq .nop (.seq (.block none (.loop ⟨[(6,.box ko,.own .ro)],[.val 4 nw,.val 5 y4],[0]⟩ (.seq (.seq (.reg (some ⟨[(6,.box ko,.own .ro)],[.val 17 y4],[0,4,5]⟩) []) .nop) .nop))) .nop))) A5 A7 [0] A5 (vU n ll lm lp lq)).o
def vV(v1:Nat)(v2 v3 v4 v5:T87)(v6:T20):T78:=ah (v5 (v6.1,())) (λ(v7:T74)=>aA (λ(v8:T68)=>λv9=>bif v7.1.2.1 then ah (mj v1 (v8.1.1,42,())) (λ(v10:T55)=>aq (λ(v11:T68)=>v9 ((v11.1.1,()),v11.2.1,())) (λv12=>bif v10.1.1 then ah (qS v1 (4,([v8.2.1]:List (List (Int×(List Int)))),())) (λ(v13:T48)=>v12 ((v10.2.1,()),v13.1.1,()))else ah (mj v1 (v10.2.1,43,())) (λ(v14:T55)=>aq (λ(v15:T68)=>v12 ((v15.1.1,()),v15.2.1,())) (λv16=>bif v14.1.1 then ah (qS v1 (5,([v8.2.1]:List (List (Int×(List Int)))),())) (λ(v17:T48)=>v16 ((v14.2.1,()),v17.1.1,()))else ah (mj v1 (v14.2.1,63,())) (λ(v18:T55)=>bif v18.1.1 then ah (qS v1 (6,([v8.2.1]:List (List (Int×(List Int)))),())) (λ(v19:T48)=>v16 ((v18.2.1,()),v19.1.1,()))else some ((v8.2.1,true,()),v18.2.1,()))))))else some ((([]:List (Int×(List Int))),false,()),v8.1.1,())) v1 ((v7.2.1,()),v7.1.1,()))
theorem Na(n:Nat)(ll:AR)(lm:AS)(lp:AT)(lq:AU)(h:CZ ll lm lp lq):jJ Tryz.prog 219 (Kw (vV n ll lm lp lq)):=(fb n [⟨_,F174 n⟩,⟨_,F175 n⟩,⟨_,⟨_,h.1,CY⟩⟩,⟨_,⟨_,h.2.1,FK⟩⟩,⟨_,⟨_,h.2.2.1,FL⟩⟩,⟨_,⟨_,h.2.2.2,FM⟩⟩] [8] [] [] Tryz.func219 Tryz.results219 Tryz.ntmps219 (.seq .nop (.seq .nop (.seq (.block none (.loop ⟨[(6,.box ko,.own .ro)],[.val 4 nw],[0,5]⟩ (.seq .nop (.block none (.block none (.seq .nop (.cond (some ⟨[(6,.box ko,.own .ro)],[.val 4 nw],[0,5]⟩) .nop (.seq .nop (.cond (some ⟨[(6,.box ko,.own .ro)],[.val 4 nw],[0,5]⟩) .nop .nop))))))))) .nop))) A5 A7 [0] A5 (vV n ll lm lp lq)).o
def vW(v1:Nat)(v2 v3 v4 v5:T87)(v6:T20):T78:=ah (vR v1 (v6.1,([124,41,42,43,63,93,47,34]:List Int),())) (λ(v7:T55)=>bif v7.1.1 then some ((([]:List (Int×(List Int))),false,()),v7.2.1,())else ah (mj v1 (v7.2.1,46,())) (λ(v8:T55)=>bif v8.1.1 then ah (FE v1 ()) (λ(v9:T14)=>some ((([(1,v9.1.1)]:List (Int×(List Int))),true,()),v8.2.1,()))else ah (mj v1 (v8.2.1,126,())) (λ(v10:T55)=>bif v10.1.1 then some ((([(0,([0,0,0,0]:List Int))]:List (Int×(List Int))),true,()),v10.2.1,())else ah (mj v1 (v10.2.1,40,())) (λ(v11:T55)=>bif v11.1.1 then ah (v2 ((v11.2.1.1,v11.2.1.2.1,IntKind.wrap .i64 (v11.2.1.2.2+1)),())) (λ(v12:T74)=>aq (λ(v13:T73)=>some ((v13.2.1,v13.2.2.1,()),v13.1.1,())) (λv14=>bif v12.1.2.1 then bif decide ((IntKind.wrap .i64 (v12.2.1.2.2-1))<99)then ah (mj v1 ((v12.2.1.1,v12.2.1.2.1,IntKind.wrap .i64 (v12.2.1.2.2-1)),41,())) (λ(v15:T55)=>v14 ((v15.2.1,()),v12.1.1,v15.1.1,()))else v14 (((v12.2.1.1,v12.2.1.2.1,IntKind.wrap .i64 (v12.2.1.2.2-1)),()),v12.1.1,false,())else v14 (((v12.2.1.1,v12.2.1.2.1,IntKind.wrap .i64 (v12.2.1.2.2-1)),()),v12.1.1,false,())))else ah (mj v1 (v11.2.1,91,())) (λ(v16:T55)=>bif v16.1.1 then ah (FI v1 (v16.2.1,())) (λ(v17:T74)=>some ((v17.1.1,v17.1.2.1,()),v17.2.1,()))else ah (AQ v1 (v16.2.1,())) (λ(v18:T60)=>ah (FJ v1 (([v18.1.1]:List Int),())) (λ(v19:T14)=>some ((([(1,v19.1.1)]:List (Int×(List Int))),v18.1.2.1,()),v18.2.1,()))))))))
theorem Nb(n:Nat)(ll:AR)(lm:AS)(lp:AT)(lq:AU)(h:CZ ll lm lp lq):jJ Tryz.prog 241 (Kx (vW n ll lm lp lq)):=(fb n [⟨_,F220 n⟩,⟨_,F174 n⟩,⟨_,F248 n⟩,⟨_,F249 n⟩,⟨_,F250 n⟩,⟨_,F251 n⟩,⟨_,⟨_,h.1,CY⟩⟩,⟨_,⟨_,h.2.1,FK⟩⟩,⟨_,⟨_,h.2.2.1,FL⟩⟩,⟨_,⟨_,h.2.2.2,FM⟩⟩] [34,61] [] [] Tryz.func241 Tryz.results241 Tryz.ntmps241 (.seq .nop (.seq (.block none (.seq .nop (.cond none .nop (.seq .nop (.cond none .nop (.seq .nop (.cond none .nop (.seq .nop (.cond none (.seq .nop (.seq .nop (.seq .nop (.seq (.reg (some ⟨[(6,.box ko,.own .ro)],[.val 2 nw,.val 3 y4],[0]⟩) []) .nop)))) .nop))))))))) .nop)) A5 A7 [0] A5 (vW n ll lm lp lq)).o
def cC(n:Nat):Nat->(T20->T78)×(T20->T78)×(T20->T78)×(T20->T78)
 |0=>(λ_=>none,λ_=>none,λ_=>none,λ_=>none)
 |d+1=>(λx=>vT n (cC n d).1 (cC n d).2.1 (cC n d).2.2.1 (cC n d).2.2.2 x,λx=>vU n (cC n d).1 (cC n d).2.1 (cC n d).2.2.1 (cC n d).2.2.2 x,λx=>vV n (cC n d).1 (cC n d).2.1 (cC n d).2.2.1 (cC n d).2.2.2 x,λx=>vW n (cC n d).1 (cC n d).2.1 (cC n d).2.2.1 (cC n d).2.2.2 x)
theorem C0(n:Nat):∀ d,CZ (cC n d).1 (cC n d).2.1 (cC n d).2.2.1 (cC n d).2.2.2
 |0=>⟨(λx r h=>by cases h),(λx r h=>by cases h),(λx r h=>by cases h),(λx r h=>by cases h)⟩
 |d+1=>⟨M8 n _ _ _ _ (C0 n d),M9 n _ _ _ _ (C0 n d),Na n _ _ _ _ (C0 n d),Nb n _ _ _ _ (C0 n d)⟩
def IG(n:Nat)(x:T20):T78:=(cC n n).1 x
def F110(n:Nat):Fb 110:=⟨IF (IG n),(C0 n n).1,CY⟩
def p60(v1:Nat)(v2:T6):T63:=bif decide (1600<(v2.1.length:Int))then some ((([]:List (Int×(List Int))),6,()),())else ah (IG v1 ((v2.1,0,0),())) (λ(v3:T74)=>aq (λ(v4:T5)=>bif v4.2.1 then some ((([]:List (Int×(List Int))),5,()),())else bif decide (400<(v3.1.1.length:Int))then some ((([]:List (Int×(List Int))),6,()),())else some ((v3.1.1,0,()),())) (λv5=>bif !v3.1.2.1 then v5 ((),true,())else v5 ((),decide (v3.2.1.2.1<(v2.1.length:Int)),())))
def F60(n:Nat):Fb 60:=fb n [⟨_,F110 n⟩] [15] [] [] Tryz.func60 Tryz.results60 Tryz.ntmps60 (.seq .nop (.seq .nop (.seq .nop (.seq .nop (.seq (.block none (.seq (.reg (some ⟨[],[.val 18 y4],[5]⟩) []) .nop)) .nop))))) A18 A8 [] [] (p60 n)
end
end Go.Proofs.YtphipehmbefejaaGreat.Rf
