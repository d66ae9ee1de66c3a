/- A part of a proof that the given statement of this claim is true of the program. No conditions. Printed by pack2.py. -/
import Derived.Test.YtphipehmbefejaaGreatU1
set_option linter.unusedVariables false
set_option linter.unusedSimpArgs false
namespace Go.Proofs.YtphipehmbefejaaGreat.Rf
open Go
noncomputable section
theorem eK(w:World)(o:Obj){k:Nat}(h:k<w.heap.size):(w.alloc o).heap[k]?=w.heap[k]?:=by
 show(w.heap.push o)[k]?=_
 grind
theorem kW(w:World)(o:Obj):(w.alloc o).heap[w.heap.size]?=some o:=by
 show(w.heap.push o)[w.heap.size]?=_
 simp_all
theorem dO(w:World)(o:Obj):(w.alloc o).heap.size=w.heap.size+1:=Array.size_push _
section
variable {P:Program} {B:dD} {F:af} {Sg:Nat->af} {cg:Nat->List Value} {σ:St} {a:Act} {w:World}
theorem gg(h:aP B F Sg cg σ a w){l:Nat}{b:Lab}(hl:σ.L l=some b){v:Value}(hv:VR b.t (cg l) v):aF F w σ.L σ.U cg (.hdr l b.v [] ⟨b.t,b.x⟩) v:=by
 refine⟨h.used l b hl,λb' hb'=>?_⟩
 rw[hl]at hb'
 injection hb' with hb'
 subst hb'
 refine⟨aw _,λ_=>hv,λ_=>⟨by cases b.t <;> rfl,eV _ _,λds s hr=>?_⟩⟩
 grind [fx,atT]
theorem aP.QN(h:aP B F Sg cg σ a w){t:Ty}{m:Md}{x:t.T}{cs:Array Value}{e:TypeId}{S0:af}(bF:Rep F w t m x cs.toList S0){d:Nat}(hU:σ.U d=false)(L':Nat->Option Lab)(hL:∀ j,j≠d->L' j=none\/L' j=σ.L j)
 (hS0:∀ k,S0 k->∃ l2 b2,σ.L l2=some b2/\L' l2=none/\Sg l2 k):
 aP B F (λj=>if j=d then(λk=>S0 k\/k=w.heap.size)else Sg j) (λj=>if j=d then [.pointer (some ⟨w.heap.size,0,none⟩)]else cg j)
  {σ with L:=upd L' d (some ⟨0,.box t,.own m,x⟩),U:=λj=>Nat.beq j d||σ.U j} a (w.alloc (.cells cs e)):=by
 have hlt:∀ k,S0 k->k<w.heap.size:=λk hk=>by obtain⟨l2,b2,h1,h2,h3⟩:=hS0 k hk;exact h.lt l2 b2 h1 k h3
 refine h.jQ (w':=w.alloc (.cells cs e)) rfl rfl rfl (by rw[dO];omega) (l:=d) (b:=⟨0,.box t,.own m,x⟩) hU (upd L' d (some ⟨0,.box t,.own m,x⟩)) (λk hk _=>eK _ _ hk) ?_ (aG _ _ _) (λj hj=>by rw[aW _ _ hj];exact hL j hj) (λk hk=>?_)
 ·refine⟨w.heap.size,cs,Mark.free _ e,rfl,kW _ _,.inr rfl,S0,aU (Sub.refl _) (λk hk=>eK _ _ (h.fl k hk)) _ _ _ _ _ _ bF (Sub.refl _) (λk hk=>eK _ _ (hlt k hk)),λk hk=>.inl hk,λhk=>dZ _ (hlt _ hk)⟩
 ·rcases hk with hk|rfl
  ·obtain⟨l2,b2,h1,h2,h3⟩:=hS0 k hk
   refine⟨λj bj hj hbj hs=>?_,λhf=>h.ek l2 b2 h1 k h3 hf,by rw[dO];exact e7 (hlt k hk),h.may l2 b2 h1 k h3⟩
   rw[aW _ _ hj]at hbj
   have iw:σ.L j=some bj:=by grind
   by_cases e:l2=j
   ·simp_all
   ·exact h.dis l2 j b2 bj e h1 iw k h3 hs
  ·refine⟨λj bj hj hbj hs=>?_,λhf=>dZ _ (h.fl _ hf),by rw[dO];exact cH _,λhlt=>?_⟩
   ·rw[aW _ _ hj]at hbj
    have iw:σ.L j=some bj:=by grind
    exact dZ _ (h.lt j bj iw _ hs)
   ·have:=h.fr.size;omega
theorem sK(hFl:∀ k,F k->k<w.heap.size){t tx ty e:TypeId}{d:TD}(hd:TOk P e d)(ht:P.underlying t=some (.slice e)){me:Md}{x1 x2:List d.ty.T}{v1 v2:Value}{S1 S2:af}(h1:Rep F w (.sl d.ty) (.own me) x1 [v1] S1){news:List Value}(hs:Src P d.ty.width tx v2 x2.length news w)(hr2:bm (Rep F w d.ty me) x2 news S2)
 (IC:Dis S1 S2) (hd1:Dis S1 F) (hl1:∀ k,S1 k->k<w.heap.size) (hl2:∀ k,S2 k->k<w.heap.size) (QO:(x1.length+x2.length)*d.bytes<=140737488355328) (h63:x1.length+x2.length<=maxLen):
 ∃ v' w',(Builtin.append_ #[t,tx] ty #[v1,v2]).run P w=.ok v' w'/\w'.os=w.os/\w'.tape=w.tape/\w'.output=w.output/\w.heap.size<=w'.heap.size/\(∀ k,k<w.heap.size->¬S1 k->w'.heap[k]?=w.heap[k]?)/\
  Rep F w' (.sl d.ty) (.own me) (x1++x2) [v'] (λk=>S1 k\/S2 k\/(w.heap.size<=k/\k<w'.heap.size)):=by
 obtain⟨i,z,hi,hi1,hi2,hi3,hi4⟩:=hd.vS
 obtain⟨ao,cap,hv1,hle,hcm,uc⟩:=h1
 injection hv1 with hv1 _
 subst hv1
 have hW:=λy c S (h:Rep F w d.ty me y c S)=>aQ F w d.ty me y c S h
 have hnl:=bm.len hW hr2
 -- Wa
 have grow:cap<x1.length+x2.length->(∃ olds S0,(Builtin.firstCells d.ty.width x1.length (.slice ao x1.length cap)).run P w.drew=.ok olds.toArray w.drew/\bm (Rep F w d.ty me) x1 olds S0/\Sub S0 S1)->
  ∃ v' w',(Builtin.append_ #[t,tx] ty #[.slice ao x1.length cap,v2]).run P w=.ok v' w'/\w'.os=w.os/\w'.tape=w.tape/\w'.output=w.output/\w.heap.size<=w'.heap.size/\(∀ k,k<w.heap.size->¬S1 k->w'.heap[k]?=w.heap[k]?)/\
  Rep F w' (.sl d.ty) (.own me) (x1++x2) [v'] (λk=>S1 k\/S2 k\/(w.heap.size<=k/\k<w'.heap.size)):=by
  rintro hg ⟨olds,S0,hold,hro,hs0⟩
  have hol:=bm.len hW hro
  have bX:=run_append_grow_src (P:=P) w t tx ty e i z ht hi hi3 ao x1.length cap olds (by rw[hi1];exact hold) v2 x2.length news (by rw[hi1];exact hs) hg (by simp only[maxLen]at h63;omega) (by rw[hi2];exact growslice_fits hg QO)
  refine⟨_,_,bX,rfl,rfl,rfl,by rw[dO];exact Nat.le_succ _,λk hk _=>eK w.drew _ hk,?_⟩
  have xN:=grownCap_ge w (x1.length+x2.length) cap e
  have zK:=grownCap_le_maxLen w (x1.length+x2.length) cap e h63
  have hzs:z.cells.size=d.ty.width:=by
   rw[<-bg,hi4]
   exact hd.TF
  have hfr:∀ {x:List d.ty.T} {cs:List Value} {S:af},bm (Rep F w d.ty me) x cs S->(∀ k,S k->k<w.heap.size)->bm (Rep F (w.drew.alloc (.cells ((olds++news).toArray++Builtin.zeroCells z.cells (grownCap w (x1.length+x2.length) cap e-(x1.length+x2.length))) e)) d.ty me) x cs S:=by
   intro x cs S hx hlt
   exact bm.imp (λy _ c T hT hr=>aU (w:=w) (Sub.refl _) (λk hk=>eK w.drew _ (hFl k hk)) _ _ _ _ _ _ hr (Sub.refl _) (λk hk=>eK w.drew _ (hlt k (hT k hk)))) hx
  have hl0:∀ k,S0 k->k<w.heap.size:=λk hk=>hl1 k (hs0 k hk)
  refine⟨some ⟨w.heap.size,0,none⟩,grownCap w (x1.length+x2.length) cap e,by rw[ak],by rw[ak];exact xN,zK,.inr ⟨w.heap.size,0,_,Mark.free _ e,rfl,kW w.drew _,?_,.inr (.inr ⟨aw _,by rw[dO];exact cH _⟩),S0.or S2,?_,?_,?_⟩⟩
  ·simp only[eF,q8,q9,ak,size_zeroCells,hzs,hol,hnl]
   rw[<-gA,<-gA]
   rw[show x1.length+x2.length+(grownCap w (x1.length+x2.length) cap e-(x1.length+x2.length))=grownCap w (x1.length+x2.length) cap e by omega]
   exact aw _
  ·have e1:((((olds++news).toArray++Builtin.zeroCells z.cells (grownCap w (x1.length+x2.length) cap e-(x1.length+x2.length))).toList.drop 0).take ((x1++x2).length*d.ty.width))=olds++news:=by
    simp only[dm,qX]
    rw[ak,gA,<-hol,<-hnl,<-ak]
    exact eQ rfl
   rw[e1]
   exact bm.append (hfr hro hl0) (hfr hr2 hl2) (IC.mono hs0 (Sub.refl _))
  ·exact λk hk=>hk.elim (λh=>.inl (hs0 k h)) (λh=>.inr (.inl h))
  ·exact λhk=>hk.elim (λh=>dZ _ (hl0 _ h)) (λh=>dZ _ (hl2 _ h))
 rcases uc with rfl|⟨b,off,c,e',rfl,hb,hc,hS,S0,hr,s1,n1⟩
 ·have hx0:x1=[]:=dW (by omega)
  subst hx0
  rcases dI x2.length with h0|hp
  ·have hx2:x2=[]:=dW h0
   subst hx2
   have hn0:news=[]:=by simpa [bm]using hr2
   subst hn0
   refine⟨_,w,run_append_nothing w t tx ty e i ht hi ao 0 0 (aw _) v2 (by rw[hi1];exact hs),rfl,rfl,rfl,aw _,λ_ _ _=>rfl,?_⟩
   exact⟨ao,0,rfl,aw _,by simp[maxLen],.inl rfl⟩
  ·refine grow (by simp;omega) ⟨[],af.none,?_,rfl,λ_ h=>h.elim⟩
   cases ao with
   |none=>simp[Builtin.firstCells]
   |some ad=>exact run_firstCells_some w.drew d.ty.width 0 ad 0 0 [] (by simp) (λj v hj=>by simp at hj)
 ·have hol:=bm.len hW hr
  have YV:off+x1.length*d.ty.width<=c.toList.length:=by
   rw[bg]
   exact bE (Nat.add_le_add_left (hJ _ hle) _) hc
  by_cases pc:x1.length+x2.length<=cap
  ·-- in place
   have QP:off+x1.length*d.ty.width+news.length<=c.size:=by
    rw[hnl]
    have:(x1.length+x2.length)*d.ty.width<=cap*d.ty.width:=hJ _ pc
    rw[gA]at this
    omega
   have bX:=run_append_room_src (P:=P) w t tx ty e i ht hi b off x1.length cap v2 x2.length news (by rw[hi1];exact hs) pc
    (λj hj=>by rw[hi1];simp[World.cell?,hb];omega) (λj hj=>Mark.frz (e:=e') hb rfl (by show off+x1.length*i.size+j<c.size;rw[hi1];omega))
   rw[hi1]at bX
   obtain⟨u1,⟨c',u2,u3⟩,u4,u5,u6,u7⟩:=dH b news (off+x1.length*d.ty.width) w c e'.t (e'.a,e'.b) hb QP
   have hFb:∀ k,F k->k≠b:=λk hk e=>hd1 b hS (e ▸ hk)
   have hfr:∀ {x:List d.ty.T} {cs:List Value} {S:af},bm (Rep F w d.ty me) x cs S->¬S b->bm (Rep F (w.setCells b (off+x1.length*d.ty.width) news) d.ty me) x cs S:=by
    intro x cs S hx hnb
    exact bm.imp (λy _ c T hT hr=>aU (Sub.refl _) (λk hk=>u1 k (hFb k hk)) _ _ _ _ _ _ hr (Sub.refl _) (λk hk=>u1 k (λe=>hnb (hT _ (e ▸ hk))))) hx
   have n2:¬S2 b:=λh=>IC b hS h
   have Wg:c'.size<=c.size:=by
    have:c'.toList.length=c.toList.length:=by
     rw[u3]
     simp only[ak,aL,bD,bg]
     omega
    simpa using il this
   refine⟨_,_,bX,u5,u6,u7,by rw[u4];exact aw _,λk _ hn=>u1 k (λe=>hn (e ▸ hS)),some ⟨b,off,none⟩,cap,by rw[ak],by rw[ak];exact pc,hcm,.inr ⟨b,off,c',e'.to Wg,rfl,u2,?_,.inl hS,S0.or S2,?_,?_,?_⟩⟩
   ·have:c'.toList.length=c.toList.length:=by
     rw[u3]
     simp only[ak,aL,bD,bg]
     omega
    simp only[bg]at this
    rw[this];exact hc
   ·have e1:(c'.toList.drop off).take ((x1++x2).length*d.ty.width)=(c.toList.drop off).take (x1.length*d.ty.width)++news:=by
     rw[u3,aT,kF (by rw[aL];omega)]
     rw[ak,gA]
     have e2:((c.toList.take (off+x1.length*d.ty.width)).drop off)=(c.toList.drop off).take (x1.length*d.ty.width):=by
      rw[oo];congr 1;omega
     rw[e2]
     have e3:((c.toList.drop off).take (x1.length*d.ty.width)).length=x1.length*d.ty.width:=by rw[aL,bD];omega
     rw[<-aT]
     exact eQ (by rw[ak,e3,hnl])
    rw[e1]
    exact bm.append (hfr hr n1) (hfr hr2 n2) (IC.mono s1 (Sub.refl _))
   ·exact λk hk=>hk.elim (λh=>.inl (s1 k h)) (λh=>.inr (.inl h))
   ·exact λhk=>hk.elim n1 n2
  ·refine grow (by omega) ⟨_,S0,?_,hr,s1⟩
   have hat:∀ j v,((c.toList.drop off).take (x1.length*d.ty.width))[j]?=some v->w.drew.cell? ((⟨b,off,none⟩:Addr).add j)=some v:=by
    intro j v hj
    rw[List.getElem?_take]at hj
    split at hj
    ·rw[List.getElem?_drop]at hj
     rw[cQ]
     have hb':w.drew.heap[b]?=some (.cells c e'.t (e'.a,e'.b)):=hb
     simp[World.cell?,hb']
     simpa using hj
    ·cases hj
   exact run_firstCells_some w.drew d.ty.width x1.length ⟨b,off,none⟩ x1.length cap _ hol hat
end
def FY{R:Type}(σ:St)(str:Bool)(te:Ty)(e:ar)(K:List te.T->Md->Option Nat->Option R):Option R:=
 match e with
 |.val .str s=>bif str then(if h:Ty.int .u8=te then K (h ▸ (s:List (Ty.int .u8).T)) .ro none else none)else none
 |.val (.sl t) xs=>bif str then none else(if h:t=te then K (h ▸ xs) .ro none else none)
 |.hdr l2 _ [] _=>bif str then none else match σ.L l2 with
  |some ⟨_,.sl t,.own me2,xs⟩=>if h:t=te then K (h ▸ xs) me2 (some l2)else none
  |_=>none
 |.hdr l2 n2 (s::π2) c2=>bif str then none else kV σ (.hdr l2 n2 (s::π2) c2) λ_ _ _ c=>match c with
  |⟨.sl t,xs⟩=>bif t.flat then(if h:t=te then K (h ▸ xs) .ro none else none)else none
  |_=>none
 |.cst v=>bif str then none else asT (.cst v) (.sl te) λxs=>K xs .ro none
 |_=>none
section
variable {P:Program} {B:dD} {F:af} {Sg:Nat->af} {cg:Nat->List Value} {σ:St} {a:Act} {w:World}
theorem wI(l:List UInt8):bm (Rep F w (.int .u8) .ro) (l.map λb=>(b.toNat:Int)) (l.map λb=>Value.int .u8 b.toNat) af.none:=by
 induction l with
 |nil=>rfl
 |cons b l ih=>
  refine⟨[.int .u8 b.toNat],_,af.none,af.none,rfl,⟨rfl,?_⟩,ih,Sub.refl _,Sub.refl _,λ_ h=>h.elim⟩
  have:=b.toNat_lt
  grind [inK,kLo,kHi]
theorem ow{te:Ty}{m:Md}{tx:TypeId}(hk:∃ e',P.underlying tx=some (.slice e')){x:List te.T}{news:List Value}{S:af}{ao:Option Addr}{cap:Nat}(hr:bm (Rep F w te m) x news S)
 (hat:0<x.length->∃ ad,ao=some ad/\At w ad news):Src P te.width tx (.slice ao x.length cap) x.length news w:=by
 obtain⟨e',hk⟩:=hk
 have hnl:=bm.len (λy c S h=>aQ F w te m y c S h) hr
 cases ao with
 |none=>grind [bm,Src.ofNil]
 |some ad=>
  refine Src.ofSlice w hk ad x.length cap news hnl (λj u hj=>?_) (tZ (λy c S h=>pL te m y c S h) hr)
  rcases dI x.length with h0|hp
  ·simp_all
  ·obtain⟨ad',e1,Wh⟩:=hat hp
   injection e1 with e1
   subst e1
   exact Wh j u hj
theorem D5{te:Ty}{me:Md}{x:List te.T}{cs:List Value}{S:af}(h:Rep F w (.sl te) (.own me) x cs S){v:Value}(hv:VR (.sl te) cs v):∃ ao cap news S',v=.slice ao x.length cap/\bm (Rep F w te me) x news S'/\Sub S' S/\(0<x.length->∃ ad,ao=some ad/\At w ad news):=by
 obtain⟨ao,cap,rfl,h1,h2,h3⟩:=h
 simp[VR,Ty.agg]at hv
 rcases h3 with rfl|⟨b,off,c,e,rfl,hb,hc,hS,S1,hr,s1,n1⟩
 ·have hx:x=[]:=dW (by omega)
  subst hx
  exact⟨ao,0,[],af.none,hv.1.symm,rfl,λ_ h=>h.elim,λh=>by simp at h⟩
 ·refine⟨_,cap,_,S1,hv.1.symm,hr,s1,λ_=>⟨_,rfl,?_⟩⟩
  intro j v hj
  rw[List.getElem?_take]at hj
  split at hj
  ·rw[List.getElem?_drop]at hj
   rw[cQ]
   simp[World.cell?,hb]
   simpa using hj
  ·cases hj
theorem oz{te:Ty}(hf:te.flat=true){m m':Md}{x:List te.T}{cs:List Value}{S S':af}(h:bm (Rep F w te m) x cs S):bm (Rep F w te m') x cs S':=by
 induction x generalizing cs S S' with
 |nil=>exact h
 |cons y ys ih=>
  obtain⟨c1,c2,S1,S2,rfl,h1,h2,_⟩:=h
  exact⟨c1,c2,af.none,af.none,rfl,kS te hf _ _ _ _ _ _ h1,ih h2,λ_ h=>h.elim,λ_ h=>h.elim,λ_ h=>h.elim⟩
theorem tC{te:Ty}{m:Md}(hf:te.flat=true){x:List te.T}{cs:List Value}{S:af}(h:Rep F w (.sl te) m x cs S){v:Value}(hv:VR (.sl te) cs v):∃ ao cap news,v=.slice ao x.length cap/\bm (Rep F w te .ro) x news af.none/\(0<x.length->∃ ad,ao=some ad/\At w ad news):=by
 cases m with
 |own me=>
  obtain⟨ao,cap,news,S',h1,h2,_,h4⟩:=D5 h hv
  exact⟨ao,cap,news,h1,oz hf h2,h4⟩
 |ro=>
  obtain⟨ao,cap,h1,h2,h3,h4⟩:=mN h hv
  rcases dI x.length with h0|hp
  ·have hx:x=[]:=dW h0
   subst hx
   exact⟨ao,cap,[],h1,rfl,λh=>by simp at h⟩
  grind
 |pr _ _=>
  obtain⟨ao,cap,h1,h2,h3,h4⟩:=mN h hv
  rcases dI x.length with h0|hp
  ·have hx:x=[]:=dW h0
   subst hx
   exact⟨ao,cap,[],h1,rfl,λh=>by simp at h⟩
  grind
theorem MD(h:aP B F Sg cg σ a w){R:Type}{tx:TypeId}{str:Bool}(mP:bif str then P.underlying tx=some .string else ∃ e',P.underlying tx=some (.slice e')){te:Ty}{e:ar}{K:List te.T->Md->Option Nat->Option R}{r:R}(hk:FY σ str te e K=some r){v:Value}(he:aF F w σ.L σ.U cg e v):
 ∃ x m lo news S2,K x m lo=some r/\Src P te.width tx v x.length news w/\bm (Rep F w te m) x news S2/\
  (lo=none->S2=af.none)/\(∀ l2,lo=some l2->∃ b2,σ.L l2=some b2/\Sub S2 (Sg l2)):=by
 unfold FY at hk
 split at hk
 ·rename_i s
  cases str
  ·cases hk
  simp only[cond_true]at hk
  split at hk
  ·rename_i ht
   subst ht
   obtain⟨u,rfl,rfl,hu⟩:=kj he
   refine⟨_,_,_,byteCells u,af.none,hk,?_,wI _,λ_=>rfl,(λ_ h=>by cases h)⟩
   have:=Src.ofString (P:=P) w (tx:=tx) mP u
   have e1:List.length (cd u)=u.size:=et u
   rw[e1]
   exact this
  ·cases hk
 ·rename_i t xs
  cases str
  ·simp only[cond_false]at hk mP
   split at hk
   ·rename_i ht
    subst ht
    obtain⟨cs,hr,hv⟩:=he
    obtain⟨ao,cap,rfl,h2,h3,h4⟩:=mN hr hv
    rcases dI (List.length xs)with h0|hp
    ·have hx:xs=[]:=dW h0
     subst hx
     exact⟨_,_,_,[],af.none,hk,ow (F:=F) (m:=.ro) mP (S:=af.none) rfl (λh=>by simp at h),rfl,λ_=>rfl,(λ_ h=>by cases h)⟩
    ·obtain⟨ad,e1,_,ds,hat,hr⟩:=h4 hp
     exact⟨_,_,_,ds,af.none,hk,ow mP hr (λ_=>⟨ad,e1,hat⟩),hr,λ_=>rfl,(λ_ h=>by cases h)⟩
   ·cases hk
  ·cases hk
 ·rename_i l2 n2 c2
  cases str
  ·simp only[cond_false]at hk mP
   split at hk
   ·rename_i v2 t me2 xs hl2
    split at hk
    ·rename_i ht
     subst ht
     have hv:=(he.2 _ hl2).2.1 rfl
     obtain⟨ao,cap,news,S',rfl,hr,hs,hat⟩:=D5 (h.lab l2 _ hl2) hv
     exact⟨_,_,_,news,S',hk,ow mP hr hat,hr,(λh=>by cases h),(λl h=>by injection h with h;subst h;exact⟨_,hl2,hs⟩)⟩
    ·cases hk
   ·cases hk
  ·cases hk
 ·rename_i l2 n2 s2 π2 c2
  cases str
  ·simp only[cond_false]at hk mP
   obtain⟨l,b,π,c,hl,hk,hg,ho,ds,s,S',hr,bF,fy,fY,hv⟩:=fJ h hk he
   split at hk
   ·rename_i t xs
    cases hf:t.flat
    ·rw[hf]at hk;cases hk
    rw[hf]at hk
    simp only[cond_true]at hk
    split at hk
    ·rename_i ht
     subst ht
     obtain⟨ao,cap,news,rfl,hr2,hat⟩:=tC hf bF hv
     exact⟨_,_,_,news,af.none,hk,ow mP hr2 hat,hr2,λ_=>rfl,(λ_ h=>by cases h)⟩
    ·cases hk
   ·cases hk
  ·cases hk
 ·rename_i u
  cases str
  ·simp only[cond_false]at hk mP
   obtain⟨x,cs,hk,hr,hv⟩:=gE hk he
   obtain⟨ao,cap,rfl,h2,h3,h4⟩:=mN hr hv
   rcases dI (List.length x)with h0|hp
   ·have hx:x=[]:=dW h0
    subst hx
    exact⟨_,_,_,[],af.none,hk,ow (F:=F) (m:=.ro) mP (S:=af.none) rfl (λh=>by simp at h),rfl,λ_=>rfl,(λ_ h=>by cases h)⟩
   ·obtain⟨ad,e1,_,ds,hat,hr⟩:=h4 hp
    exact⟨_,_,_,ds,af.none,hk,ow mP hr (λ_=>⟨ad,e1,hat⟩),hr,λ_=>rfl,(λ_ h=>by cases h)⟩
  ·cases hk
 ·cases hk
end
def EF(σ σ':St)(d:Nat):Prop:=∀ j,j≠d->σ'.E j=σ.E j
def St.mk'(σ:St)(L:Nat->Option Lab)(l d:Nat)(b:Lab):St:=
 {E:=upd σ.E d (some (.one (.hdr l b.v [] ⟨b.t,b.x⟩))),L:=upd L l (some b),U:=λj=>Nat.beq j l||σ.U j}
theorem mQ{σ:St}{L:Nat->Option Lab}{l d:Nat}{b:Lab}:EF σ (σ.mk' L l d b) d:=λ_ h=>aW _ _ h
def lL{R:Type}(d:TD)(σ:St)(dst:Nat)(K:St->Option R):Option R:=
 bif σ.U (dst*8)then none else match rdC d.ty d.zero with
  |some z=>K (σ.mk' σ.L (dst*8) dst ⟨0,.box d.ty,.own (zM d.ty),z⟩)
  |none=>none
def xO{R:Type}(d:TD)(σ:St)(dst:Nat)(e:ar)(K:St->Option R):Option R:=
 bif σ.U (dst*8)then none else match e with
  |.hdr l2 _ [] _=>match σ.L l2 with
   |some b2=>bif decide (b2.t=d.ty)then K (σ.mk' (upd σ.L l2 none) (dst*8) dst ⟨0,.box b2.t,.own b2.m,b2.x⟩)else none
   |none=>none
  |e=>asT e d.ty λy=>K (σ.mk' σ.L (dst*8) dst ⟨0,.box d.ty,.own (uf e d.ty),y⟩)
section
variable {P:Program} {B:dD} {F:af} {Sg:Nat->af} {cg:Nat->List Value} {σ:St} {a:Act} {w:World}
theorem aP.xP(h:aP B F Sg cg σ a w){t:Ty}{m:Md}{x:t.T}{cs:Array Value}{e:TypeId}{S0:af}(bF:Rep F w t m x cs.toList S0){l dst:Nat}(hU:σ.U l=false)(hd:dst<B.N)(L':Nat->Option Lab)(hL:∀ j,j≠l->L' j=none\/L' j=σ.L j)
 (hS0:∀ k,S0 k->∃ l2 b2,σ.L l2=some b2/\L' l2=none/\Sg l2 k):
 ∃ Sg' cg',aP B F Sg' cg' (σ.mk' L' l dst ⟨0,.box t,.own m,x⟩) (a.put (some dst) (.pointer (some ⟨w.heap.size,0,none⟩))) (w.alloc (.cells cs e)):=by
 have i1:=h.QN bF hU L' hL hS0 (e:=e)
 exact⟨_,_,i1.vT hd (e:=.one (.hdr l 0 [] ⟨.box t,x⟩)) (gg i1 (l:=l) (b:=⟨0,.box t,.own m,x⟩) (aG _ _ _) (by simp[VR,Ty.agg,Value.oneCell']))⟩
theorem FZ{t:TypeId}{d:TD}(hd:TOk P t d):∃ z:Value,z.cells.toList=d.zero/\(Instr.alloc t true (.tuple #[])).run P w=.ok (.pointer (some ⟨w.heap.size,0,none⟩)) (w.alloc (.cells z.cells t)):=by
 obtain⟨i,z,hi,hi1,hi2,hi3,hi4⟩:=hd.vS
 exact⟨z,hi4,by simp[Instr.alloc,zeroValue,typeInfo,hi,hi3,newVar,newRow]⟩
theorem D6{t:TypeId}{v:Value}:(Instr.box t v).run P w=.ok (.pointer (some ⟨w.heap.size,0,none⟩)) (w.alloc (.cells v.cells t)):=by rfl
theorem F3(h:aP B F Sg cg σ a w){R:Type}{t:TypeId}{d:TD}(hd:TOk P t d){dst:Nat}(hN:dst<B.N){K:St->Option R}{r:R}(hk:lL d σ dst K=some r):
 ∃ σ' v w' Sg' cg',K σ'=some r/\(Instr.alloc t true (.tuple #[])).run P w=.ok v w'/\aP B F Sg' cg' σ' (a.put (some dst) v) w'/\EF σ σ' dst:=by
 unfold lL at hk
 cases hU:σ.U (dst*8)
 ·rw[hU]at hk
  simp only[cond_false]at hk
  cases hz:rdC d.ty d.zero with
  |none=>rw[hz]at hk;cases hk
  |some z=>
   rw[hz]at hk
   simp only at hk
   obtain⟨zv,hzv,bX⟩:=FZ (w:=w) hd
   obtain⟨Sg',cg',hi⟩:=h.xP (t:=d.ty) (m:=zM d.ty) (x:=z) (cs:=zv.cells) (e:=t) (S0:=af.none) (by rw[hzv];exact tY _ _ _ _ (xJ _) hz) hU hN σ.L (λ_ _=>.inr rfl) (λ_ h=>h.elim)
   grind [mQ]
 simp_all
theorem ME(h:aP B F Sg cg σ a w){R:Type}{t:TypeId}{d:TD}(hd:TOk P t d){dst:Nat}(hN:dst<B.N){e:ar}{K:St->Option R}{r:R}(hk:xO d σ dst e K=some r){u:Value}(he:aF F w σ.L σ.U cg e u):
 ∃ σ' v w' Sg' cg',K σ'=some r/\(Instr.box t u).run P w=.ok v w'/\aP B F Sg' cg' σ' (a.put (some dst) v) w'/\EF σ σ' dst:=by
 unfold xO at hk
 cases hU:σ.U (dst*8)
 ·rw[hU]at hk
  simp only[cond_false]at hk
  split at hk
  ·rename_i l2 n2 c2
   cases hl2:σ.L l2 with
   |none=>rw[hl2]at hk;cases hk
   |some b2=>
    rw[hl2]at hk
    simp only at hk
    cases hud:decide (b2.t=d.ty)
    ·simp_all
    rw[hud]at hk
    simp only[cond_true]at hk
    have hv:=(he.2 b2 hl2).2.1 rfl
    have hne:dst*8≠l2:=λe=>by rw[e,h.used l2 b2 hl2]at hU;cases hU
    obtain⟨Sg',cg',hi⟩:=h.xP (t:=b2.t) (m:=b2.m) (x:=b2.x) (cs:=u.cells) (e:=t) (S0:=Sg l2) (by rw[hv.cells];exact h.lab l2 b2 hl2) hU hN (upd σ.L l2 none)
     (λj _=>by
      by_cases e:j=l2
      ·subst e;rw[aG];exact .inl rfl
      ·rw[aW _ _ e];exact .inr rfl) (λk hk=>⟨l2,b2,hl2,aG _ _ _,hk⟩)
    grind [D6,mQ]
  ·obtain⟨y,cs,hk,hr,hv⟩:=pP hk he
   obtain⟨Sg',cg',hi⟩:=h.xP (t:=d.ty) (m:=uf e d.ty) (x:=y) (cs:=u.cells) (e:=t) (S0:=af.none) (by rw[hv.cells];exact hr) hU hN σ.L (λ_ _=>.inr rfl) (λ_ h=>h.elim)
   grind [D6,mQ]
 simp_all
def pd(t:Ty)(m me:Md):Bool:=t.flat||decide (m=me)
theorem ID{te:Ty}{m me:Md}(hf:pd te m me=true){x:List te.T}{cs:List Value}{S:af}(h:bm (Rep F w te m) x cs S):bm (Rep F w te me) x cs S:=by
 unfold pd at hf
 simp only[aJ,decide_eq_true_eq]at hf
 grind [oz]
def wJ(L:Nat->Option Lab):Option Nat->Nat->Option Lab
 |some l=>upd L l none
 |none=>L
theorem mR(L:Nat->Option Lab)(o:Option Nat)(j:Nat):wJ L o j=none\/wJ L o j=L j:=by
 cases o with
 |none=>exact .inr rfl
 |some l=>
  by_cases e:j=l
  ·subst e;exact .inl (aG _ _ _)
  ·exact .inr (aW _ _ e)
def uj{R:Type}(d:TD)(σ:St)(str:Bool)(lk dst:Nat)(e1 e2:ar)(K:St->Option R):Option R:=
 bif σ.U lk then none else
 FY σ str d.ty e2 λx2 m2 lo=>
 match e1 with
 |.hdr l1 _ [] _=>match σ.L l1 with
  |some ⟨_,.sl t,.own me,x1⟩=>if h:t=d.ty then
   (bif pd d.ty m2 me&&!(decide (lo=some l1))then
    (if((h ▸ x1:List d.ty.T).length+x2.length)*d.bytes<=140737488355328 then(if(h ▸ x1:List d.ty.T).length+x2.length<=9223372036854775807 then K (σ.mk' (wJ (upd σ.L l1 none) lo) lk dst ⟨0,.sl d.ty,.own me,(h ▸ x1:List d.ty.T)++x2⟩)else none)else none)else none)else none
  |_=>none
 |.cst v=>asT (.cst v) (.sl d.ty) λx1=>
  if(List.length x1+x2.length)*d.bytes<=140737488355328 then(if List.length x1+x2.length<=9223372036854775807 then K (σ.mk' (wJ σ.L lo) lk dst ⟨0,.sl d.ty,.own m2,List.append x1 x2⟩)else none)else none
 |_=>none
theorem xQ(h:aP B F Sg cg σ a w){R:Type}{t tx ty e:TypeId}{d:TD}(hd:TOk P e d)(ht:P.underlying t=some (.slice e)){str:Bool}(mP:bif str then P.underlying tx=some .string else ∃ e',P.underlying tx=some (.slice e')){lk dst:Nat}(hN:dst<B.N){e1 e2:ar}{K:St->Option R}{r:R}(hk:uj d σ str lk dst e1 e2 K=some r)
 {u1 u2:Value} (he1:aF F w σ.L σ.U cg e1 u1) (he2:aF F w σ.L σ.U cg e2 u2):
 ∃ σ' v w' Sg' cg',K σ'=some r/\(Builtin.append_ #[t,tx] ty #[u1,u2]).run P w=.ok v w'/\aP B F Sg' cg' σ' (a.put (some dst) v) w'/\EF σ σ' dst:=by
 unfold uj at hk
 cases hU:σ.U lk
 ·rw[hU]at hk
  simp only[cond_false]at hk
  obtain⟨x2,m2,lo,news,S2,hk,QQ,hr2,Wj,Wk⟩:=MD h mP hk he2
  have hl2:∀ k,S2 k->k<w.heap.size/\¬F k/\∃ l2 b2,lo=some l2/\σ.L l2=some b2/\Sg l2 k:=by
   intro k hk2
   cases hlo:lo with
   |none=>rw[Wj hlo]at hk2;exact hk2.elim
   |some l2=>
    obtain⟨b2,h1,h2⟩:=Wk l2 hlo
    exact⟨h.lt l2 b2 h1 k (h2 k hk2),λhf=>h.ek l2 b2 h1 k (h2 k hk2) hf,l2,b2,rfl,h1,h2 k hk2⟩
  -- the QK end
  have fin:∀ (me:Md) (x1:List d.ty.T) (S1:af) (L1:Nat->Option Lab),Rep F w (.sl d.ty) (.own me) x1 [u1] S1->bm (Rep F w d.ty me) x2 news S2->Dis S1 S2->(∀ k,S1 k->∃ l1 b1,σ.L l1=some b1/\L1 l1=none/\Sg l1 k)->(∀ k,S2 k->∃ l1 b1,σ.L l1=some b1/\L1 l1=none/\Sg l1 k)->
   (∀ j,L1 j=none\/L1 j=σ.L j)->(x1.length+x2.length)*d.bytes<=140737488355328->x1.length+x2.length<=9223372036854775807->
   ∃ v w' Sg' cg',(Builtin.append_ #[t,tx] ty #[u1,u2]).run P w=.ok v w'/\aP B F Sg' cg' (σ.mk' L1 lk dst ⟨0,.sl d.ty,.own me,x1++x2⟩) (a.put (some dst) v) w':=by
   intro me x1 S1 L1 bF hr2 IC hS1 hS2 hL1 hby h63
   have hd1:Dis S1 F:=λk hk hf=>by obtain⟨l1,b1,h1,_,h3⟩:=hS1 k hk;exact h.ek l1 b1 h1 k h3 hf
   have Wl:∀ k,S1 k->k<w.heap.size:=λk hk=>by obtain⟨l1,b1,h1,_,h3⟩:=hS1 k hk;exact h.lt l1 b1 h1 k h3
   obtain⟨v,w',bX,c1,c2,c3,c4,c5,c6⟩:=sK (ty:=ty) h.fl hd ht bF QQ hr2 IC hd1 Wl (λk hk=>(hl2 k hk).1) hby (by simp only[maxLen];omega)
   have i1:=h.jQ (w':=w') c1 c2 c3 c4 (l:=lk) (b:=⟨0,.sl d.ty,.own me,x1++x2⟩) hU (upd L1 lk (some ⟨0,.sl d.ty,.own me,x1++x2⟩))
    (λk hk hn=>c5 k hk (λhs=>hn (by obtain⟨l1,b1,h1,h2,h3⟩:=hS1 k hs;exact⟨l1,b1,h1,by rw[aW _ _ (λe=>by subst e;rw[h.used _ b1 h1]at hU;cases hU)];exact h2,h3⟩)))
    c6 (aG _ _ _) (λj hj=>by rw[aW _ _ hj];exact hL1 j) (λk hk=>?_)
   ·refine⟨v,w',_,_,bX,i1.vT hN (e:=.one (.hdr lk 0 [] ⟨.sl d.ty,x1++x2⟩)) (gg i1 (l:=lk) (b:=⟨0,.sl d.ty,.own me,x1++x2⟩) (aG _ _ _) ?_)⟩
    simp only[if_true]
    obtain⟨z,hz,hz1⟩:=eW rfl c6
    simp only[e8,and_true]at hz
    subst hz
    simp[VR,Ty.agg,hz1]
   ·have gone:(∃ l1 b1,σ.L l1=some b1/\L1 l1=none/\Sg l1 k)->(∀ j bj,j≠lk->upd L1 lk (some ⟨0,.sl d.ty,.own me,x1++x2⟩) j=some bj->¬Sg j k)/\¬F k/\k<w'.heap.size/\(k<B.w0.heap.size->B.S0 k):=by
     rintro⟨l1,b1,h1,h2,h3⟩
     refine⟨λj bj hj hbj hs=>?_,λhf=>h.ek l1 b1 h1 k h3 hf,bz (h.lt l1 b1 h1 k h3) c4,h.may l1 b1 h1 k h3⟩
     rw[aW _ _ hj]at hbj
     have iw:σ.L j=some bj:=by
      rcases hL1 j with e|e
      ·rw[e]at hbj;cases hbj
      ·rw[<-e];exact hbj
     by_cases e:l1=j
     ·subst e;rw[h2]at hbj;cases hbj
     ·exact h.dis l1 j b1 bj e h1 iw k h3 hs
    rcases hk with hk|hk|hk
    ·exact gone (hS1 k hk)
    ·exact gone (hS2 k hk)
    ·refine⟨λj bj hj hbj hs=>?_,λhf=>?_,hk.2,λhlt=>?_⟩
     ·rw[aW _ _ hj]at hbj
      have iw:σ.L j=some bj:=by
       rcases hL1 j with e|e
       ·rw[e]at hbj;cases hbj
       ·rw[<-e];exact hbj
      have:=h.lt j bj iw k hs;omega
     ·have:=h.fl k hf;omega
     ·have:=h.fr.size;omega
  split at hk
  ·rename_i l1 n1 c1 _hk0
   split at hk
   ·rename_i v1 t1 me x1 hl1
    split at hk
    ·rename_i htt
     subst htt
     cases hb:pd d.ty m2 me&&!(decide (lo=some l1))
     ·rw[hb]at hk;cases hk
     rw[hb]at hk
     simp only[cond_true]at hk
     simp only[ag,bC,decide_eq_false_iff_not]at hb
     split at hk
     ·rename_i hby
      split at hk
      ·rename_i h63
       have hv1:=(he1.2 _ hl1).2.1 rfl
       have D7:=h.lab l1 _ hl1
       have hcg:cg l1=[u1]:=by simp[VR,Ty.agg]at hv1;exact hv1.1
       rw[hcg]at D7
       obtain⟨v,w',Sg',cg',bX,hi⟩:=fin me x1 (Sg l1) (wJ (upd σ.L l1 none) lo) D7 (ID hb.1 hr2)
        (λk a b=>by
         obtain⟨_,_,l2,b2,e1,e2,e3⟩:=hl2 k b
         exact h.dis l1 l2 _ b2 (λe=>hb.2 (by rw[e1,e])) hl1 e2 k a e3)
        (λk hk=>⟨l1,_,hl1,by rcases mR (upd σ.L l1 none) lo l1 with e|e;exact e;rw[e,aG],hk⟩)
        (λk hk=>by
         obtain⟨_,_,l2,b2,e1,e2,e3⟩:=hl2 k hk
         exact⟨l2,b2,e2,by rw[e1];exact aG _ _ _,e3⟩)
        (λj=>by
         rcases mR (upd σ.L l1 none) lo j with e|e
         ·exact .inl e
         ·rw[e]
          by_cases e':j=l1
          ·subst e';exact .inl (aG _ _ _)
          ·exact .inr (aW _ _ e')) hby h63
       exact⟨_,v,w',Sg',cg',hk,bX,hi,mQ⟩
      ·cases hk
     ·cases hk
    ·cases hk
   ·cases hk
  ·rename_i u _hk0
   obtain⟨x1,cs,hk,hr1,hv1⟩:=pP hk he1
   split at hk
   ·rename_i hby
    split at hk
    ·rename_i h63
     have hcs:cs=[u1]:=by simp[VR,Ty.agg]at hv1;exact hv1.1
     subst hcs
     have hu:u1=u:=he1
     have Wm:(∃ ao,u1=.slice ao 0 0)/\x1=[]:=by
      have Wn:DY w d.ty.width (Rep F w d.ty .ro) x1 [u1] af.none:=hr1
      obtain⟨ao,cap,e1,e2,e3,e4⟩:=Wn
      rcases e4 with rfl|⟨_,_,_,_,_,_,_,hS,_⟩
      ·have hx:x1=[]:=dW (by omega)
       subst hx
       simp at e1
       exact⟨⟨ao,e1⟩,rfl⟩
      ·exact hS.elim
     obtain⟨⟨ao,e1⟩,rfl⟩:=Wm
     have D7:Rep F w (.sl d.ty) (.own m2) [] [u1] af.none:=by rw[e1];exact⟨ao,0,rfl,aw _,by simp[maxLen],.inl rfl⟩
     obtain⟨v,w',Sg',cg',bX,hi⟩:=fin m2 [] af.none (wJ σ.L lo) D7 hr2 (λ_ h=>h.elim) (λ_ h=>h.elim)
      (λk hk=>by
       obtain⟨_,_,l2,b2,e1,e2,e3⟩:=hl2 k hk
       exact⟨l2,b2,e2,by rw[e1];exact aG _ _ _,e3⟩)
      (λj=>mR σ.L lo j) hby h63
     exact⟨_,v,w',Sg',cg',hk,bX,hi,mQ⟩
    ·cases hk
   ·cases hk
  ·cases hk
 ·rw[hU]at hk;cases hk
end
def St.xR(σ:St)(l d:Nat)(bl bd:Lab):St:={σ with L:=upd (upd σ.L l (some bl)) d (some bd),U:=λj=>Nat.beq j d||σ.U j}
def ji{R:Type}(d:TD)(σ:St)(str:Bool)(dst:Nat)(e1 e2:ar)(K:St->Option R):Option R:=
 match e1 with
 |.hdr l n (.deref::π) c=>match σ.L l with
  |some ⟨v0,.box t0,m0,x0⟩=>
   bif Nat.beq n v0&&zH c.t&&!(σ.U (dst*8+1))then(match cL (.box t0) x0 (.deref::π) ⟨.jI,()⟩with
    |some v'=>uj d (σ.xR l (dst*8+1) ⟨v0+1,v'.t,fR m0 (.deref::π) .ro,v'.x⟩ ⟨0,c.t,atM (.box t0) m0 (.deref::π),c.x⟩) str (dst*8) dst (.hdr (dst*8+1) 0 [] c) e2 K
    |none=>none)else none
  |_=>none
 |.hdr l n [.idx i] c=>match σ.L l with
  |some ⟨v0,.sl t0,.own m0,x0⟩=>
   bif Nat.beq n v0&&zH t0&&!(σ.U (dst*8+1))then(if 0<=i then(match(x0:List t0.T)[i.toNat]? with
    |some y=>uj d (σ.xR l (dst*8+1) ⟨v0+1,.hol t0,.own m0,(x0,i.toNat)⟩ ⟨0,t0,m0,y⟩) str (dst*8) dst (.hdr (dst*8+1) 0 [] c) e2 K
    |none=>none)else none)else none
  |_=>none
 |e1=>uj d σ str (dst*8) dst e1 e2 K
section
variable {P:Program} {B:dD} {F:af} {Sg:Nat->af} {cg:Nat->List Value} {σ:St} {a:Act} {w:World}
theorem Cs(h:aP B F Sg cg σ a w){R:Type}{t tx ty e:TypeId}{d:TD}(hd:TOk P e d)(ht:P.underlying t=some (.slice e)){str:Bool}(mP:bif str then P.underlying tx=some .string else ∃ e',P.underlying tx=some (.slice e')){dst:Nat}(hN:dst<B.N){o1 o2:Operand}{e1 e2:ar}(h1:opd σ o1=some e1)(h2:opd σ o2=some e2){K:St->Option R}{r:R}(hk:ji d σ str dst e1 e2 K=some r):
 ∃ σ' v w' Sg' cg',K σ'=some r/\(Builtin.append_ #[t,tx] ty #[a.eval o1,a.eval o2]).run P w=.ok v w'/\aP B F Sg' cg' σ' (a.put (some dst) v) w'/\EF σ σ' dst:=by
 unfold ji at hk
 have he1:=bA h h1
 split at hk
 ·rename_i l n π c
  split at hk
  ·rename_i v0 t0 m0 x0 hl
   cases hb:Nat.beq n v0&&zH c.t&&!(σ.U (dst*8+1))
   ·simp_all
   rw[hb]at hk
   simp only[cond_true]at hk
   simp only[ag,bC]at hb
   obtain⟨⟨hn,hsl⟩,hU⟩:=hb
   have hn:=bI hn
   cases hr:cL (.box t0) x0 (.deref::π) ⟨.jI,()⟩with
   |none=>rw[hr]at hk;cases hk
   |some v'=>
    rw[hr]at hk
    simp only at hk
    obtain⟨h3,h4,h5⟩:=(he1.2 _ hl).2.2 hn
    obtain⟨t',ht'⟩:=xL hsl
    obtain⟨ds,s,Sg',cg',cf,hi,hcd,_⟩:=h.take hl h4 h3 (by rw[ht'];rfl) hr hU ⟨t',ht'⟩
    have hv:=h5 ds s cf
    have hat:=eJ _ _ _ _ h4
    simp only at hat hv
    rw[<-hat]at hv
    have QR:aF F w (σ.xR l (dst*8+1) ⟨v0+1,v'.t,fR m0 (.deref::π) .ro,v'.x⟩ ⟨0,c.t,atM (.box t0) m0 (.deref::π),c.x⟩).L (σ.xR l (dst*8+1) ⟨v0+1,v'.t,fR m0 (.deref::π) .ro,v'.x⟩ ⟨0,c.t,atM (.box t0) m0 (.deref::π),c.x⟩).U cg' (.hdr (dst*8+1) 0 [] c) (a.eval o1):=
     gg hi (l:=dst*8+1) (b:=⟨0,c.t,atM (.box t0) m0 (.deref::π),c.x⟩) (aG _ _ _) (by rw[hcd];exact hv)
    have QS:=bA hi (x:=o2) (e:=e2) (by
     cases o2 with
     |tmp t=>exact h2
     |const v=>exact h2
     |global g=>exact h2
     |func f=>exact h2)
    exact xQ hi hd ht mP hN hk QR QS
  ·cases hk
 ·rename_i l n i c
  split at hk
  ·rename_i v0 t0 m0 x0 hl
   cases hb:Nat.beq n v0&&zH t0&&!(σ.U (dst*8+1))
   ·rw[hb]at hk;cases hk
   rw[hb]at hk
   simp only[cond_true]at hk
   simp only[ag,bC]at hb
   obtain⟨⟨hn,hsl⟩,hU⟩:=hb
   have hn:=bI hn
   split at hk
   case isFalse=>cases hk
   rename_i hi0
   cases hr:(x0:List t0.T)[i.toNat]? with
   |none=>rw[hr]at hk;cases hk
   |some y=>
    rw[hr]at hk
    simp only at hk
    obtain⟨h3,h4,h5⟩:=(he1.2 _ hl).2.2 hn
    obtain⟨ds,s,Sg',cg',cf,hi,hcd,_⟩:=h.TH hl hi0 hr (xL hsl) hU
    have hv:=h5 ds s cf
    have hv':VR t0 ds (a.eval o1):=by
     have e:atT (.sl t0) [.idx i]=t0:=by simp only[atT]
     rw[e]at hv;exact hv
    have QR:aF F w (σ.xR l (dst*8+1) ⟨v0+1,.hol t0,.own m0,(x0,i.toNat)⟩ ⟨0,t0,m0,y⟩).L (σ.xR l (dst*8+1) ⟨v0+1,.hol t0,.own m0,(x0,i.toNat)⟩ ⟨0,t0,m0,y⟩).U cg' (.hdr (dst*8+1) 0 [] ⟨t0,y⟩) (a.eval o1):=
     gg hi (l:=dst*8+1) (b:=⟨0,t0,m0,y⟩) (aG _ _ _) (by rw[hcd];exact hv')
    have hc:c=⟨t0,y⟩:=by
     simp only[get?,ft,hi0,if_true,hr]at h4
     have:(some (V.mk t0 y):Option V)=some c:=by rw[<-h4]
     exact(dz this).symm
    have QS:=bA hi (x:=o2) (e:=e2) (by
     cases o2 with
     |tmp t=>exact h2
     |const v=>exact h2
     |global g=>exact h2
     |func f=>exact h2)
    rw[hc]at hk
    exact xQ hi hd ht mP hN hk QR QS
  ·cases hk
 ·exact xQ h hd ht mP hN hk he1 (bA h h2)
theorem lM{F:af}{w:World}:∀ (π:List Stp) (t:Ty) (m:Md) (x:t.T) (cs:List Value) (S:af) (k:Nat) (c:V),bo t π=some k->get? t x π=some c->Rep F w t m x cs S->∃ pre ds post S',cs=pre++ds++post/\pre.length=k/\Rep F w c.t (atM t m π) c.x ds S'/\Sub S' S:=by
 intro π
 induction π with
 |nil=>
  intro t m x cs S k c hk hg hr
  rw[eV]at hg
  injection hg with hg
  subst hg
  have:k=0:=by cases t <;> simp[bo]at hk <;> exact hk.symm
  subst this
  exact⟨[],cs,[],S,by simp,rfl,by cases t <;> exact hr,Sub.refl _⟩
 |cons p0 π ih=>
  intro t m x cs S k c hk hg hr
  unfold get? at hg
  cases t <;> cases p0 <;> simp only[ft,reduceCtorEq]at hg <;> simp only[bo,reduceCtorEq]at hk
  case st.st=>exact ih _ _ _ _ _ _ _ hk hg hr
  case pair.fst a b=>
   obtain⟨c1,c2,S1,S2,rfl,h1,h2,s1,s2,_⟩:=hr
   obtain⟨pre,ds,post,S',rfl,e2,e3,e4⟩:=ih _ _ _ _ _ _ _ hk hg h1
   exact⟨pre,ds,post++c2,S',by simp,e2,e3,e4.trans s1⟩
  case pair.snd a b=>
   obtain⟨c1,c2,S1,S2,rfl,h1,h2,s1,s2,_⟩:=hr
   split at hk
   ·rename_i k' hk'
    injection hk with hk
    subst hk
    obtain⟨pre,ds,post,S',rfl,e2,e3,e4⟩:=ih _ _ _ _ _ _ _ hk' hg h2
    exact⟨c1++pre,ds,post,S',by simp,by rw[ak,aQ _ _ _ _ _ _ _ h1,e2],e3,e4.trans s2⟩
   ·cases hk
  case arr.ai n t i=>
   split at hg
   ·cases hz:(x:List t.T)[i.toNat]? with
    |none=>rw[hz]at hg;simp at hg
    |some z=>
     rw[hz]at hg
     split at hk
     ·rename_i k' hk'
      injection hk with hk
      subst hk
      obtain⟨d,T,Wp,TL,hd,t1,rfl,hp,_⟩:=bm.focus (λy c S h=>aQ F w t _ y c S h) hz hr.2
      obtain⟨pre,ds,post,S',rfl,e2,e3,e4⟩:=ih _ _ _ _ _ _ _ hk' hg hd
      exact⟨Wp++pre,ds,post++TL,S',by simp,by rw[ak,hp,e2],e3,e4.trans t1⟩
     ·cases hk
   ·cases hg
theorem IE:∀ (π:List Stp) (t:Ty) (m:Md),dE m=true->dE (atM t m π)=true:=by
 intro π
 induction π with
 |nil=>intro t m h;cases t <;> exact h
 |cons p π ih=>
  intro t m h
  cases t <;> cases p <;> simp only[atM] <;> first
   |rfl
   |exact ih _ _ h
   |exact ih _ _ (wC h)
   |exact ih _ _ (wD h)
   |exact ih _ _ (by rw[zB h];rfl)
theorem mS{w:World}:∀ (φ:List Stp) (t:Ty) (cs:List Value) (s s':Option (Nat×Nat)) (k:Nat) (ds:List Value),bo t φ=some k->cs.length=t.width->resolve w t cs s φ=some (ds,s')->ds=(cs.drop k).take (atT t φ).width/\k+(atT t φ).width<=t.width:=by
 intro φ
 induction φ with
 |nil=>grind [fx,bo,atT]
 |cons p φ ih=>
  intro t cs s s' k ds hk hl h
  cases t <;> cases p <;> simp only[resolve,reduceCtorEq]at h <;> simp only[bo,reduceCtorEq]at hk <;> simp only[atT]
  case st.st=>exact ih _ _ _ _ _ _ hk hl h
  case pair.fst a b=>grind [Ty.width,List.length_take,List.drop_take]
  case pair.snd a b=>grind [Ty.width,List.length_drop,List.drop_drop]
  case arr.ai n t i=>
   simp only[Ty.width]at hl |-
   split at h
   ·rename_i hc
    split at hk
    ·rename_i k' hk'
     injection hk with hk
     subst hk
     have hm:i.toNat*t.width+t.width<=n*t.width:=by
      rw[<-jC];exact hJ _ hc.2
     obtain⟨e1,e2⟩:=ih _ _ _ _ _ _ hk' (by rw[aL,bD];omega) h
     refine⟨?_,by omega⟩
     rw[e1,oo,oq,ij]
     congr 1
     omega
    ·cases hk
   ·cases h
theorem uk{t:TypeId}{d:TD}(hd:TOk P t d){pre ds post:List Value}(hl:ds.length=d.ty.width)(hv:d.ty.agg=true\/∃ z,ds=[z]/\z.oneCell'=true):
 ∃ z,(part t (pre++ds++post).toArray pre.length).run P w=.ok z w/\VR d.ty ds z:=by
 unfold part
 cases ha:d.ty.agg
 ·rcases hv with hv|⟨z,rfl,hz⟩
  ·simp_all
  refine⟨z,?_,by simp[VR,ha,hz]⟩
  have:((pre++[z]++post).toArray)[pre.length]?=some z:=by simp
  simp only[ba,ov hd,ha,bw,ap,if_false,this,bP]
 ·refine⟨.agg ds.toArray,?_,by simp[VR,ha]⟩
  have:((pre++ds++post).toArray).extract pre.length (pre.length+d.ty.width)=ds.toArray:=by simp_all
  simp only[ba,ov hd,ha,bw,if_true,run_sizeOf hd,this,bP]
def ul{R:Type}(TT:Tab)(σ:St)(s:TypeId)(e:ar)(f:Nat)(K:ar->Option R):Option R:=
 zE TT s f λd _ φ df=>bif df.ty.vty&&d.ty.agg then
  (match e with
  |.val t x=>bif decide (t=d.ty)then ft t x φ λu y=>bif decide (u=df.ty)then K (.val u y)else none else none
  |.hdr l n π c=>kV σ (.hdr l n π c) λl b π c=>bif decide (c.t=d.ty)then ft c.t c.x φ λu y=>bif decide (u=df.ty)then K (Mx ⟨u,y⟩ l b (π++φ))else none else none
  |_=>none)else none
theorem F4(h:aP B F Sg cg σ a w){R:Type}{TT:Tab}(hT:cK P TT){s:TypeId}{f:Nat}{e:ar}{K:ar->Option R}{r:R}(hk:ul TT σ s e f K=some r){v:Value}(he:aF F w σ.L σ.U cg e v):
 ∃ e' z,K e'=some r/\(Instr.field s v f).run P w=.ok z w/\aF F w σ.L σ.U cg e' z:=by
 obtain⟨d,k,φ,df,fields,fl,hk,hd,hin,hu,hfl,My,hdf,hw0⟩:=xI hT hk
 cases hvt:df.ty.vty&&d.ty.agg
 ·simp_all
 rw[hvt]at hk
 simp only[cond_true]at hk
 simp only[ag]at hvt
 obtain⟨hvt,hag⟩:=hvt
 have bX:∀ cs:List Value,(Instr.field s (.agg cs.toArray) f).run P w=(part fl.type cs.toArray fl.offset).run P w:=by simp_all [Instr.field,run_underlying,asAgg]
 split at hk
 ·rename_i t x _
  cases hud:decide (t=d.ty)
  ·simp_all
  rw[hud]at hk
  simp only[cond_true]at hk
  have hud:=of_decide_eq_true hud
  subst hud
  rw[gD]at hk
  obtain⟨c,hg,hk⟩:=b9.1 hk
  cases hud:decide (c.t=df.ty)
  ·simp_all
  rw[hud]at hk
  simp only[cond_true]at hk
  have hud:=of_decide_eq_true hud
  obtain⟨cs,hr,hv⟩:=he
  obtain⟨pre,ds,post,S',rfl,e2,e3,e4⟩:=lM _ _ _ _ _ _ _ _ hin hg hr
  have hvr:v=.agg (pre++ds++post).toArray:=by simpa [VR,hag]using hv
  subst hvr
  have hw:=aQ _ _ _ _ _ _ _ e3
  have hvc:=kU (by rw[hud];exact hvt) e3
  rw[hud]at hw hvc
  obtain⟨z,h5,h6⟩:=uk (w:=w) (pre:=pre) (post:=post) hdf hw hvc
  rw[<-hud]at h6
  refine⟨_,z,hk,by rw[bX,My,<-e2];exact h5,ds,eI _ _ ?_ _ _ _ _ e3,h6⟩
  exact IE _ _ _ rfl
 ·rename_i l n π c
  obtain⟨l,b,π,c,hl,hk,hg,ho,ds,s',S',cf,bF,fy,fY,hv⟩:=fJ h hk he
  cases hud:decide (c.t=d.ty)
  ·rw[hud]at hk;cases hk
  rw[hud]at hk
  simp only[cond_true]at hk
  have hud:=of_decide_eq_true hud
  rw[gD]at hk
  obtain⟨c',hg',hk⟩:=b9.1 hk
  cases zL:decide (c'.t=df.ty)
  ·rw[zL]at hk;cases hk
  rw[zL]at hk
  simp only[cond_true]at hk
  have zL:=of_decide_eq_true zL
  have FR:bo c.t φ=some k:=by rw[hud];exact hin
  obtain⟨pre,ds',post,S2,rfl,e2,e3,e4⟩:=lM _ _ _ _ _ _ _ _ FR hg' bF
  have hvr:v=.agg (pre++ds'++post).toArray:=by
   have:c.t.agg=true:=by rw[hud];exact hag
   simpa [VR,this]using hv
  subst hvr
  have hw:=aQ _ _ _ _ _ _ _ e3
  have hvc:=kU (by rw[zL];exact hvt) e3
  rw[zL]at hw hvc
  obtain⟨z,h5,h6⟩:=uk (w:=w) (pre:=pre) (post:=post) hdf hw hvc
  rw[<-zL]at h6
  have hat:=eJ _ _ _ _ hg
  have ho2:du b.t b.m (π++φ)=true:=by rw[ua,ho,<-hat,lJ _ _ _ _ FR];rfl
  have hg2:get? b.t b.x (π++φ)=some c':=by rw[mM,hg];exact hg'
  obtain⟨ds3,s3,S3,f1,f2,f3,_⟩:=focus F w (π++φ) b.t b.m b.x (cg l) (Sg l) none c'.t c'.x (h.lab l b hl) hg2 ho2
  have hds:ds3=ds':=by
   rw[iS,cf]at f1
   simp only[ig]at f1
   rw[<-hat]at f1
   have fK:=aQ _ _ _ _ _ _ _ bF
   obtain⟨g1,_⟩:=mS _ _ _ _ _ _ _ FR fK f1
   have QT:=eJ _ _ _ _ hg'
   rw[g1,<-e2,aT,kF (aw _),ie,cm,<-QT,zL,<-hw]
   exact eQ rfl
  subst hds
  exact⟨_,z,hk,by rw[bX,My,<-e2];exact h5,D3 h hl hg2 ho2 f1 f2 h6⟩
 ·cases hk
end
def rB{R:Type}(TT:Tab)(t:TypeId)(ex ei:ar)(K:ar->Option R):Option R:=
 jP ei λi=>
 match TT t with
 |none=>none
 |some d=>match d.kd with
  |.str=>match ex with
   |.val .str s=>if 0<=i then(match(s:List Int)[i.toNat]? with|some c=>K (.val (.int .u8) c)|none=>none)else none
   |_=>none
  |.array n e=>match TT e with
   |none=>none
   |some de=>match ex with
    |.val (.arr n' t') xs=>bif decide (Ty.arr n' t'=.arr n de.ty)&&de.ty.vty then(if 0<=i then(match(xs:List t'.T)[i.toNat]? with|some y=>K (.val t' y)|none=>none)else none)else none
    |_=>none
  |_=>none
def F6{R:Type}(TT:Tab)(σ:St)(t:TypeId)(e:ar)(K:ar->Option R):Option R:=
 match TT t with
 |none=>none
 |some d=>match d.kd with
  |.str=>match e with
   |.val .str s=>K (.val (.int .i64) (List.length s:Int))
   |_=>none
  |.slice _=>match e with
   |.val (.sl _) xs=>K (.val (.int .i64) (List.length xs:Int))
   |.hdr l n π c=>kV σ (.hdr l n π c) λ_ _ _ c=>match c with
    |⟨.sl _,xs⟩=>K (.val (.int .i64) (List.length xs:Int))
    |_=>none
   |.cst (.slice none 0 0)=>K (.val (.int .i64) 0)
   |_=>none
  |.chan _=>match e with
   |.hdr l n π c=>kV σ (.hdr l n π c) λ_ b π c=>match c with
    |⟨.chan,x⟩=>bif(atM b.t b.m π).eU then K (.val (.int .i64) (List.length x.2:Int))else none
    |_=>none
   |_=>none
  |_=>none
def F7{R:Type}(TT:Tab)(σ:St)(t:TypeId)(e:ar)(K:ar->Option R):Option R:=
 match TT t with
 |none=>none
 |some d=>match d.kd with
  |.chan _=>match e with
   |.hdr l n π c=>kV σ (.hdr l n π c) λ_ b π c=>match c with
    |⟨.chan,x⟩=>bif(atM b.t b.m π).eU then K (.val (.int .i64) (x.1:Int))else none
    |_=>none
   |_=>none
  |_=>none
def F8{R:Type}(σ:St)(e:ar)(K:ar->Option R):Option R:=
 bif e.owned then plc σ e λ_ _ _ _=>K e else pN e λ_ _=>K e
def xUn{R:Type}(op:UnOp)(e:ar)(K:ar->Option R):Option R:=
 match op,e with
 |.not,.val .bool b=>K (.val .bool (!b))
 |.neg,.val (.int k) n=>K (.val (.int k) (k.wrap (0-n)))
 |.xor,.val (.int k) n=>K (.val (.int k) (dL .xor k (if k.signed then -1 else k.max) n))
 |_,_=>none
def wK{R:Type}(TT:Tab)(σ:St)(s t:TypeId)(e:ar)(K:ar->Option R):Option R:=
 match TT s with
 |none=>none
 |some ds=>match TT t with
  |none=>none
  |some dt=>match dt.kd with
   |.int k=>match e with
    |.val (.int _) n=>K (.val (.int k) (k.wrap n))
    |_=>none
   |.str=>match ds.kd with
    |.str=>match e with
     |.val .str x=>K (.val .str x)
     |_=>none
    |.slice el=>match TT el with
     |none=>none
     |some de=>match de.kd with
      |.int .u8=>match e with
       |.val (.sl (.int .u8)) xs=>K (.val .str (xs:List Int))
       |.hdr l n π c=>kV σ (.hdr l n π c) λ_ _ _ c=>match c with
        |⟨.sl (.int .u8),xs⟩=>K (.val .str (xs:List Int))
        |_=>none
       |.cst (.slice none 0 0)=>K (.val .str [])
       |_=>none
      |_=>none
    |_=>none
   |_=>none
section
variable {P:Program} {B:dD} {F:af} {Sg:Nat->af} {cg:Nat->List Value} {σ:St} {a:Act} {w:World}
theorem F9{R:Type}{L:Nat->Option Lab}{U:Nat->Bool}{TT:Tab}(hT:cK P TT){t:TypeId}{ex ei:ar}{K:ar->Option R}{r:R}(hk:rB TT t ex ei K=some r){v vi:Value}(he:aF F w L U cg ex v)(hi:aF F w L U cg ei vi):
 ∃ e' z,K e'=some r/\(Instr.index t v vi).run P w=.ok z w/\aF F w L U cg e' z:=by
 unfold rB at hk
 obtain⟨k,i,hk,rfl,_⟩:=gF hk hi
 cases h1:TT t with
 |none=>rw[h1]at hk;cases hk
 |some d=>
 rw[h1]at hk
 simp only at hk
 have hd:=(hT t d h1).desc
 split at hk
 ·rename_i hkd
  rw[hkd]at hd
  simp only at hd
  split at hk
  ·rename_i s _
   obtain⟨u,rfl,rfl,hu⟩:=kj he
   split at hk
   ·rename_i h0
    cases hz:(cd u)[i.toNat]? with
    |none=>rw[hz]at hk;cases hk
    |some c=>
     rw[hz]at hk
     simp only at hk
     unfold cd at hz
     rw[List.getElem?_map]at hz
     obtain⟨b,hb,rfl⟩:=Option.map_eq_some_iff.1 hz
     refine⟨_,.int .u8 b.toNat,hk,?_,cM ?_⟩
     ·have:u[i.toNat]?=some b:=by
       rw[Array.getElem?_toList]at hb
       have hlt:i.toNat<u.data.size:=(Array.getElem?_eq_some_iff.1 hb).1
       have vX:u.data[i.toNat]=b:=(Array.getElem?_eq_some_iff.1 hb).2
       have QU:i.toNat<u.size:=hlt
       rw[getElem?_pos u i.toNat QU]
       exact congrArg some vX
      simp[Instr.index,asIntOf,run_underlying hd.1,h0,this]
     ·have:=b.toNat_lt
      simp[inK,kLo,kHi]
      omega
   ·cases hk
  ·cases hk
 ·rename_i n e hkd
  rw[hkd]at hd
  simp only at hd
  cases h2:TT e with
  |none=>rw[h2]at hk;cases hk
  |some de=>
  rw[h2]at hk
  simp only at hk
  have hde:=hT e de h2
  split at hk
  ·rename_i n' t' xs _
   cases hud:decide (Ty.arr n' t'=.arr n de.ty)&&de.ty.vty
   ·rw[hud]at hk;cases hk
   rw[hud]at hk
   simp only[cond_true]at hk
   simp only[ag,decide_eq_true_eq]at hud
   obtain⟨hud,hvt⟩:=hud
   injection hud with e1 e2
   subst e1;subst e2
   split at hk
   ·rename_i h0
    cases hz:(xs:List de.ty.T)[i.toNat]? with
    |none=>rw[hz]at hk;cases hk
    |some y=>
     rw[hz]at hk
     simp only at hk
     obtain⟨cs,hr,hv⟩:=he
     have hg:get? (.arr n' de.ty) xs [.ai i]=some ⟨de.ty,y⟩:=by
      unfold get?
      simp only[ft]
      rw[if_pos h0,hz]
     have hin:bo (.arr n' de.ty) [.ai i]=some (i.toNat*de.ty.width):=by
      have:bo de.ty []=some 0:=by cases de.ty <;> rfl
      simp[bo,this]
     obtain⟨pre,ds,post,S',rfl,g2,g3,_⟩:=lM _ _ _ _ _ _ _ _ hin hg hr
     have hvr:v=.agg (pre++ds++post).toArray:=by simpa [VR,Ty.agg]using hv
     subst hvr
     have hlt:i<(n':Int):=by
      have:i.toNat<List.length xs:=(List.getElem?_eq_some_iff.1 hz).1
      rw[hr.1]at this
      omega
     obtain⟨z,h5,h6⟩:=uk (w:=w) (pre:=pre) (post:=post) hde (aQ _ _ _ _ _ _ _ g3) (kU hvt g3)
     refine⟨_,z,hk,?_,ds,eI _ _ (IE _ _ _ rfl) _ _ _ _ g3,h6⟩
     rw[<-h5,g2]
     simp[Instr.index,asIntOf,run_underlying hd,h0,hlt,run_sizeOf hde]
   ·cases hk
  ·cases hk
 ·cases hk
theorem pS{t:Ty}{m:Md}{x:List t.T}{cs:List Value}{S:af}(h:Rep F w (.sl t) m x cs S){v:Value}(hv:VR (.sl t) cs v):∃ ao cap,v=.slice ao x.length cap/\x.length<=maxLen:=by
 cases m with
 |own me=>
  obtain⟨ao,cap,rfl,h1,h2,_⟩:=h
  simp[VR,Ty.agg]at hv
  grind
 |ro=>obtain⟨ao,cap,h1,h2,h3,_⟩:=mN h hv;exact⟨ao,cap,h1,bE h2 h3⟩
 |pr _ _=>obtain⟨ao,cap,h1,h2,h3,_⟩:=mN h hv;exact⟨ao,cap,h1,bE h2 h3⟩
theorem iN{n:Nat}(h:n<=maxLen):inK .i64 (n:Int):=by simp only[maxLen]at h;simp[inK,kLo,kHi];omega
theorem D8{R:Type}{m:Md}{x:Nat×List Int}{ds:List Value}{S:af}{v:Value}{k:Option R}{r:R}(h:Rep F w .chan m x ds S)(hv:VR .chan ds v)(hk:(bif m.eU then k else none)=some r):
 ∃ (b:Nat) (buf:Array Value) (s rr:Nat),v=.chan (some b)/\w.heap[b]?=some (.chan x.1 buf false s rr false)/\buf.toList=x.2.map (λn=>.int .i64 n)/\(∀ n∈x.2,inK .i64 n)/\x.2.length<=x.1/\x.1<=maxLen/\k=some r:=by
 cases m with
 |ro=>cases hk
 |pr _ _=>cases hk
 |own m=>
  obtain⟨b,buf,s,rr,rfl,hb,h1,⟨h2,h3,h4⟩,hS⟩:=h
  simp[VR,Ty.agg]at hv
  grind
theorem MF(h:aP B F Sg cg σ a w){R:Type}{TT:Tab}(hT:cK P TT){t:TypeId}{ty:TypeId}{e:ar}{K:ar->Option R}{r:R}(hk:F6 TT σ t e K=some r){v:Value}(he:aF F w σ.L σ.U cg e v):
 ∃ e' z,K e'=some r/\(Builtin.len_ #[t] ty #[v]).run P w=.ok z w/\aF F w σ.L σ.U cg e' z:=by
 unfold F6 at hk
 cases h1:TT t with
 |none=>rw[h1]at hk;cases hk
 |some d=>
 rw[h1]at hk
 simp only at hk
 have hd:=(hT t d h1).desc
 split at hk
 ·rename_i hkd
  rw[hkd]at hd
  simp only at hd
  split at hk
  ·rename_i s _
   obtain⟨u,rfl,rfl,hu⟩:=kj he
   rw[et]at hk
   exact⟨_,_,hk,by simp[Builtin.len_,run_underlying hd.1,goInt],cM (iN hu)⟩
  ·cases hk
 ·rename_i e hkd
  rw[hkd]at hd
  simp only at hd
  split at hk
  ·rename_i t' xs _
   obtain⟨cs,hr,hv⟩:=he
   obtain⟨ao,cap,rfl,hl⟩:=pS hr hv
   exact⟨_,_,hk,by simp[Builtin.len_,run_underlying hd,goInt],cM (iN hl)⟩
  ·rename_i l n π c _
   obtain⟨l,b,π,c,hl,hk,hg,ho,ds,s',S',cf,bF,fy,fY,hv⟩:=fJ h hk he
   split at hk
   ·rename_i t' xs
    obtain⟨ao,cap,rfl,hl⟩:=pS bF hv
    exact⟨_,_,hk,by simp[Builtin.len_,run_underlying hd,goInt],cM (iN hl)⟩
   ·cases hk
  ·have hv:v=.slice none 0 0:=he
   subst hv
   exact⟨_,_,hk,by simp[Builtin.len_,run_underlying hd,goInt],cM (by simp[inK,kLo,kHi])⟩
  ·cases hk
 ·rename_i e hkd
  rw[hkd]at hd
  obtain⟨dir,hd⟩:=hd
  split at hk
  ·rename_i l n π c _
   obtain⟨l,b,π,c,hl,hk,hg,ho,ds,s',S',cf,bF,fy,fY,hv⟩:=fJ h hk he
   split at hk
   ·rename_i x
    obtain⟨cb,buf,s,r,rfl,hb,h1,h2,h3,h4,hk⟩:=D8 bF hv hk
    refine⟨_,_,hk,Conc.run_len_chan t ty hd hb,?_⟩
    have:buf.size=x.2.length:=by rw[<-bg,h1,bq]
    rw[this]
    exact cM (iN (bE h3 h4))
   ·cases hk
  ·cases hk
 ·cases hk
theorem MG(h:aP B F Sg cg σ a w){R:Type}{TT:Tab}(hT:cK P TT){t:TypeId}{ty:TypeId}{e:ar}{K:ar->Option R}{r:R}(hk:F7 TT σ t e K=some r){v:Value}(he:aF F w σ.L σ.U cg e v):
 ∃ e' z,K e'=some r/\(Builtin.cap_ #[t] ty #[v]).run P w=.ok z w/\aF F w σ.L σ.U cg e' z:=by
 unfold F7 at hk
 cases h1:TT t with
 |none=>rw[h1]at hk;cases hk
 |some d=>
 rw[h1]at hk
 simp only at hk
 have hd:=(hT t d h1).desc
 split at hk
 ·rename_i e hkd
  rw[hkd]at hd
  obtain⟨dir,hd⟩:=hd
  split at hk
  ·rename_i l n π c _
   obtain⟨l,b,π,c,hl,hk,hg,ho,ds,s',S',cf,bF,fy,fY,hv⟩:=fJ h hk he
   split at hk
   ·rename_i x
    obtain⟨cb,buf,s,r,rfl,hb,h1,h2,h3,h4,hk⟩:=D8 bF hv hk
    exact⟨_,_,hk,Conc.run_cap_chan t ty hd hb,cM (iN h4)⟩
   ·cases hk
  ·cases hk
 ·cases hk
theorem MH(h:aP B F Sg cg σ a w){R:Type}{e:ar}{K:ar->Option R}{r:R}(hk:F8 σ e K=some r){v:Value}(he:aF F w σ.L σ.U cg e v):K e=some r/\∃ ad,v=.pointer (some ad):=by
 unfold F8 at hk
 cases ho:e.owned
 ·rw[ho]at hk
  simp only[cond_false]at hk
  grind [pO]
 ·rw[ho]at hk
  simp only[cond_true]at hk
  grind [rA]
theorem QV{R:Type}{L:Nat->Option Lab}{U:Nat->Bool}{op:UnOp}{e:ar}{K:ar->Option R}{r:R}(hk:xUn op e K=some r){v:Value}(he:aF F w L U cg e v):
 ∃ e' z,K e'=some r/\(Op.unary op v).run P w=.ok z w/\aF F w L U cg e' z:=by
 unfold xUn at hk
 split at hk
 ·obtain rfl:=jN he;exact⟨_,_,hk,rfl,dg⟩
 ·obtain⟨rfl,_⟩:=iL he;exact⟨_,_,hk,rfl,cM (eH _ _)⟩
 ·obtain⟨rfl,_⟩:=iL he;exact⟨_,_,hk,rfl,cM (eH _ _)⟩
 ·cases hk
theorem wL{k:IntKind}{m:Md}{x:List Int}{cs:List Value}{S:af}(h:bm (Rep F w (.int k) m) x cs S):cs=x.map (Value.int k)/\∀ n∈x,inK k n:=by
 induction x generalizing cs S with
 |nil=>exact⟨h,by simp⟩
 |cons y ys ih=>
  obtain⟨c1,c2,S1,S2,rfl,⟨rfl,h1⟩,h2,_⟩:=h
  grind
theorem zN{xs:List Int}(h:∀ n∈xs,inK .u8 n):cd (strOfNums xs)=xs:=by
 unfold cd
 rw[strOfNums_data,List.map_map]
 induction xs with
 |nil=>rfl
 |cons n ns ih=>
  have hn:=h n (by simp)
  simp[inK,kLo,kHi]at hn
  simp only[fH,Function.comp]
  rw[ih (λm hm=>h m (by simp[hm]))]
  congr 1
  grind [UInt8.toNat_ofNat']
theorem um{s t el:TypeId}(hs:P.underlying s=some (.slice el))(he:P.underlying el=some (.int .u8))(hd:P.underlying t=some .string){xs:List Int}{news:List Value}{S:af}{ao:Option Addr}{cap:Nat}(hr:bm (Rep F w (.int .u8) .ro) xs news S)
 (hat:0<xs.length->∃ ad,ao=some ad/\At w ad news):(convert s t (.slice ao xs.length cap)).run P w=.ok (.string (strOfNums xs)) w:=by
 obtain⟨rfl,_⟩:=wL hr
 rw[run_convert_bytes_string w s t el _ _ _ hs he hd]
 have load:∀ ad:Addr,At w ad (xs.map (Value.int .u8))->(Conv.bytesToString (.slice (some ad) xs.length cap)).run P w=.ok (.string (strOfNums xs)) w:=by
  intro ad hat
  have hl:=run_loadCells_list (P:=P) w ad _ hat
  rw[bq]at hl
  rw[run_bytesToString w ad xs.length cap xs hl,foldl_push_bytes]
  simp[strOfNums,ByteArray.empty,ByteArray.emptyWithCapacity]
  rfl
 cases ao with
 |none=>
  have hx:xs=[]:=by simp_all
  subst hx
  rfl
 |some ad=>
  refine load ad ?_
  rcases dI xs.length with h0|hp
  ·rw[dW h0];intro j v hj;simp at hj
  simp_all
theorem IF(h:aP B F Sg cg σ a w){R:Type}{TT:Tab}(hT:cK P TT){s t:TypeId}{e:ar}{K:ar->Option R}{r:R}(hk:wK TT σ s t e K=some r){v:Value}(he:aF F w σ.L σ.U cg e v):
 ∃ e' z,K e'=some r/\(convert s t v).run P w=.ok z w/\aF F w σ.L σ.U cg e' z:=by
 unfold wK at hk
 cases h1:TT s with
 |none=>rw[h1]at hk;cases hk
 |some ds=>
 rw[h1]at hk
 simp only at hk
 cases h2:TT t with
 |none=>rw[h2]at hk;cases hk
 |some dt=>
 rw[h2]at hk
 simp only at hk
 have hds:=(hT s ds h1).desc
 have hdt:=(hT t dt h2).desc
 have hus:∃ q,P.underlying s=some q:=by grind
 split at hk
 ·rename_i k hkd
  rw[hkd]at hdt
  simp only at hdt
  split at hk
  ·rename_i k2 n _
   obtain⟨rfl,_⟩:=iL he
   obtain⟨q,hq⟩:=hus
   exact⟨_,_,hk,by simp[convert,run_underlying hq,run_underlying hdt.1,Conv.intToInt],cM (eH _ _)⟩
  ·cases hk
 ·rename_i hkd
  rw[hkd]at hdt
  simp only at hdt
  split at hk
  ·rename_i QW
   rw[QW]at hds
   simp only at hds
   split at hk
   ·rename_i x _
    obtain⟨u,rfl,rfl,hu⟩:=kj he
    exact⟨_,_,hk,by simp[convert,run_underlying hds.1,run_underlying hdt.1],Iq hu⟩
   ·cases hk
  ·rename_i el QW
   rw[QW]at hds
   simp only at hds
   cases h3:TT el with
   |none=>rw[h3]at hk;cases hk
   |some de=>
   rw[h3]at hk
   simp only at hk
   have hde:=(hT el de h3).desc
   split at hk
   ·rename_i Wq
    rw[Wq]at hde
    simp only at hde
    have fin:∀ (xs:List Int) (m:Md) (cs:List Value) (S:af),Rep F w (.sl (.int .u8)) m xs cs S->VR (.sl (.int .u8)) cs v->∃ z,(convert s t v).run P w=.ok z w/\aF F w σ.L σ.U cg (.val .str xs) z:=by
     intro xs m cs S hr hv
     obtain⟨_,_,hv0,hl⟩:=pS hr hv
     obtain⟨ao,cap,news,rfl,hr2,hat⟩:=tC rfl hr hv
     have hin:=(wL hr2).2
     refine⟨_,um hds hde.1 hdt.1 hr2 hat,xG (by rw[strOfNums_size];exact hl) (zN hin).symm⟩
    split at hk
    ·rename_i xs
     obtain⟨cs,hr,hv⟩:=he
     obtain⟨z,e1,e2⟩:=fin xs _ _ _ hr hv
     exact⟨_,z,hk,e1,e2⟩
    ·rename_i l n π c _
     obtain⟨l,b,π,c,hl,hk,hg,ho,ds,s',S',cf,bF,fy,fY,hv⟩:=fJ h hk he
     split at hk
     ·rename_i xs
      obtain⟨z,e1,e2⟩:=fin xs _ _ _ bF hv
      exact⟨_,z,hk,e1,e2⟩
     ·cases hk
    ·have hv:v=.slice none 0 0:=he
     subst hv
     obtain⟨z,e1,e2⟩:=fin [] .ro [.slice none 0 0] af.none ⟨none,0,rfl,aw _,by simp[maxLen],λh=>by simp at h⟩ (by simp[VR,Ty.agg,Value.oneCell'])
     exact⟨_,z,hk,e1,e2⟩
    ·cases hk
   ·cases hk
  ·cases hk
 ·cases hk
end
section
variable {P:Program} {B:dD} {F:af} {Sg:Nat->af} {cg:Nat->List Value} {σ:St} {a:Act} {w:World}
theorem run_askRoom(n:Nat):(askRoom n).run P w=.ok () w:=by unfold askRoom;split <;> rfl
theorem aP.D9(h:aP B F Sg cg σ a w){t:Ty}{m:Md}{x:List t.T}{cs:Array Value}{e:Mark cs.size t.width}{cap:Nat}{S0:af}(bF:bm (Rep F w t m) x (cs.toList.take (x.length*t.width)) S0)(hle:x.length<=cap)(xN:cap<=maxLen)(hsz:cap*t.width<=cs.size){l dst:Nat}(hU:σ.U l=false)(hd:dst<B.N)(L':Nat->Option Lab)(hL:∀ j,j≠l->L' j=none\/L' j=σ.L j)
 (hS0:∀ k,S0 k->∃ l2 b2,σ.L l2=some b2/\L' l2=none/\Sg l2 k) {w':World} (hw:w'=w.alloc (.cells cs e.t (e.a,e.b))):
 ∃ Sg' cg',aP B F Sg' cg' (σ.mk' L' l dst ⟨0,.sl t,.own m,x⟩) (a.put (some dst) (.slice (some ⟨w.heap.size,0,none⟩) x.length cap)) w':=by
 subst hw
 have hlt:∀ k,S0 k->k<w.heap.size:=λk hk=>by obtain⟨l2,b2,h1,h2,h3⟩:=hS0 k hk;exact h.lt l2 b2 h1 k h3
 have i1:=h.jQ (w':=w.alloc (.cells cs e.t (e.a,e.b))) rfl rfl rfl (by rw[dO];omega) (l:=l) (b:=⟨0,.sl t,.own m,x⟩) hU (upd L' l (some ⟨0,.sl t,.own m,x⟩)) (λk hk _=>eK _ _ hk) (cs:=[.slice (some ⟨w.heap.size,0,none⟩) x.length cap]) (S2:=λk=>S0 k\/k=w.heap.size)
  ⟨some ⟨w.heap.size,0,none⟩,cap,rfl,hle,xN,.inr ⟨w.heap.size,0,cs,e,rfl,kW _ _,by omega,.inr rfl,S0,by
   rw[dm]
   exact bm.imp (λy _ c T hT hr=>aU (Sub.refl _) (λk hk=>eK _ _ (h.fl k hk)) _ _ _ _ _ _ hr (Sub.refl _) (λk hk=>eK _ _ (hlt k (hT k hk)))) bF,λk hk=>.inl hk,λhk=>dZ _ (hlt _ hk)⟩⟩
  (aG _ _ _) (λj hj=>by rw[aW _ _ hj];exact hL j hj) (λk hk=>?_)
 ·exact⟨_,_,i1.vT hd (e:=.one (.hdr l 0 [] ⟨.sl t,x⟩)) (gg i1 (l:=l) (b:=⟨0,.sl t,.own m,x⟩) (aG _ _ _) (by simp[VR,Ty.agg,Value.oneCell']))⟩
 ·rcases hk with hk|rfl
  ·obtain⟨l2,b2,h1,h2,h3⟩:=hS0 k hk
   refine⟨λj bj hj hbj hs=>?_,λhf=>h.ek l2 b2 h1 k h3 hf,by rw[dO];exact e7 (hlt k hk),h.may l2 b2 h1 k h3⟩
   rw[aW _ _ hj]at hbj
   have iw:σ.L j=some bj:=by grind
   by_cases e:l2=j
   ·simp_all
   ·exact h.dis l2 j b2 bj e h1 iw k h3 hs
  ·refine⟨λj bj hj hbj hs=>?_,λhf=>dZ _ (h.fl _ hf),by rw[dO];exact cH _,λhlt=>?_⟩
   ·rw[aW _ _ hj]at hbj
    have iw:σ.L j=some bj:=by grind
    exact dZ _ (h.lt j bj iw _ hs)
   ·have:=h.fr.size;omega
theorem aP.newRow(h:aP B F Sg cg σ a w){t:Ty}{m:Md}{x:List t.T}{cs:Array Value}{e:TypeId}{cap:Nat}{S0:af}(bF:bm (Rep F w t m) x (cs.toList.take (x.length*t.width)) S0)(hle:x.length<=cap)(xN:cap<=maxLen)(hsz:cap*t.width<=cs.size){l dst:Nat}(hU:σ.U l=false)(hd:dst<B.N)(L':Nat->Option Lab)(hL:∀ j,j≠l->L' j=none\/L' j=σ.L j)
 (hS0:∀ k,S0 k->∃ l2 b2,σ.L l2=some b2/\L' l2=none/\Sg l2 k) {w':World} (hw:w'=w.alloc (.cells cs e)):
 ∃ Sg' cg',aP B F Sg' cg' (σ.mk' L' l dst ⟨0,.sl t,.own m,x⟩) (a.put (some dst) (.slice (some ⟨w.heap.size,0,none⟩) x.length cap)) w':=
 h.D9 (e:=Mark.free _ e) bF hle xN hsz hU hd L' hL hS0 hw
theorem Ga(z:Array Value):(List.range z.size).map (λj=>z[j]!)=z.toList:=by
 apply List.ext_getElem?
 grind
theorem Gb{α:Type}{R:α->List Value->af->Prop}{z:Array Value}{x:α}(hz:R x z.toList af.none):∀ n,bm R (List.replicate n x) ((List.range (n*z.size)).map (λi=>z[i % z.size]!)) af.none:=by
 intro n
 induction n with
 |zero=>simp[bm]
 |succ n ih=>
  rw[List.replicate_succ',jC,List.range_add,cO]
  have e:List.map (λi=>z[i % z.size]!) (List.map (λx=>n*z.size+x) (List.range z.size))=z.toList:=by
   rw[List.map_map,<-Ga z]
   simp_all [Nat.mod_eq_of_lt]
  rw[e]
  have:bm R [x] z.toList af.none:=⟨z.toList,[],af.none,af.none,by simp,hz,rfl,Sub.refl _,Sub.refl _,λ_ h=>h.elim⟩
  exact(bm.append ih this (λ_ h=>h.elim)).mono (λk h=>h.elim id id)
def pT{R:Type}(d:TD)(σ:St)(dst:Nat)(el ec:ar)(K:St->Option R):Option R:=
 bif σ.U (dst*8)||Nat.beq d.bytes 0 then none else
 jP el λn=>jP ec λc=>
  if 0<=n/\n<=c then(if c.toNat*d.bytes<=140737488355328 then(match rdC d.ty d.zero with
   |some z=>K (σ.mk' σ.L (dst*8) dst ⟨0,.sl d.ty,.own (zM d.ty),List.replicate n.toNat z⟩)
   |none=>none)else none)else none
theorem run_make{t e:TypeId}{d:TD}(ht:P.underlying t=some (.slice e))(hd:TOk P e d){k1 k2:IntKind}{n c:Int}(h0:0<=n)(h1:n<=c)(hc:c<=9223372036854775807)(hb:c.toNat*d.bytes<=140737488355328):
 ∃ z:Value,z.cells.toList=d.zero/\(Instr.makeSlice t (.int k1 n) (.int k2 c)).run P w=.ok (.slice (some ⟨w.heap.size,0,none⟩) n.toNat c.toNat) (w.alloc (.cells ((Array.range (c.toNat*d.ty.width)).map (λi=>z.cells[i % z.cells.size]!)) e)):=by
 obtain⟨i,z,hi,hi1,hi2,hi3,hi4⟩:=hd.vS
 refine⟨z,hi4,?_⟩
 have wn:IntKind.i64.wrap n=n:=jJ (by simp[inK,kLo,kHi];omega)
 have wc:IntKind.i64.wrap c=c:=jJ (by simp[inK,kLo,kHi];omega)
 have hb':¬((281474976710656:Int)<(d.bytes:Int)*c):=by grind
 have c0:¬(c<0):=by omega
 have n0:¬(n<0):=by omega
 have nc:¬(c<n):=by omega
 by_cases hz:c.toNat*d.ty.width=0
 ·simp[Instr.makeSlice,run_underlying ht,asInt,asIntOf,typeInfo,hi,hi2,wn,wc,c0,n0,nc,hb',run_askRoom,sizeOf,hi1,hz,newRow,Array.range_zero']
 ·simp[Instr.makeSlice,run_underlying ht,asInt,asIntOf,typeInfo,hi,hi2,wn,wc,c0,n0,nc,hb',run_askRoom,sizeOf,hi1,hz,newRow,zeroValue,hi3]
theorem IG(h:aP B F Sg cg σ a w){R:Type}{t e:TypeId}{d:TD}(hd:TOk P e d)(ht:P.underlying t=some (.slice e)){dst:Nat}(hN:dst<B.N){el ec:ar}{K:St->Option R}{r:R}(hk:pT d σ dst el ec K=some r){vl vc:Value}(hl:aF F w σ.L σ.U cg el vl)(hc:aF F w σ.L σ.U cg ec vc):
 ∃ σ' v w' Sg' cg',K σ'=some r/\(Instr.makeSlice t vl vc).run P w=.ok v w'/\aP B F Sg' cg' σ' (a.put (some dst) v) w'/\EF σ σ' dst:=by
 unfold pT at hk
 cases hUb:σ.U (dst*8)||Nat.beq d.bytes 0
 ·rw[hUb]at hk
  simp only[cond_false]at hk
  simp only[gr]at hUb
  obtain⟨hU,hb0⟩:=hUb
  have hbp:0<d.bytes:=by
   rcases dI d.bytes with e|e
   all_goals simp_all
  obtain⟨k1,n,hk,rfl,hn⟩:=gF hk hl
  obtain⟨k2,c,hk,rfl,hcn⟩:=gF hk hc
  split at hk
  ·rename_i h01
   split at hk
   ·rename_i hb
    cases hz:rdC d.ty d.zero with
    |none=>rw[hz]at hk;cases hk
    |some z=>
     rw[hz]at hk
     simp only at hk
     by_cases TM:c<=9223372036854775807
     ·obtain⟨zv,hzv,bX⟩:=run_make (w:=w) (k1:=k1) (k2:=k2) ht hd h01.1 h01.2 TM hb
      have hzs:zv.cells.size=d.ty.width:=by rw[<-bg,hzv];exact hd.TF
      have eR:=Gb (R:=Rep F w d.ty (zM d.ty)) (z:=zv.cells) (x:=z) (by rw[hzv];exact tY _ _ _ _ (xJ _) hz) n.toNat
      have hle:n.toNat<=c.toNat:=by omega
      obtain⟨Sg',cg',hi⟩:=h.newRow (t:=d.ty) (m:=zM d.ty) (x:=List.replicate n.toNat z) (cs:=(Array.range (c.toNat*d.ty.width)).map (λi=>zv.cells[i % zv.cells.size]!)) (e:=e) (cap:=c.toNat) (S0:=af.none) (by
       simp only[jv,ib,Array.toList_range,<-List.map_take,List.take_range]
       rw[dl (hJ _ hle),<-hzs]
       exact eR) (by simpa using hle) (by simp only[maxLen];omega) (by simp) hU hN σ.L (λ_ _=>.inr rfl) (λ_ h=>h.elim) rfl
      grind [mQ]
     ·exfalso
      have:=Nat.le_mul_of_pos_right c.toNat hbp
      omega
   ·cases hk
  ·cases hk
 ·rw[hUb]at hk;cases hk
end
def cn{α:Type}(xs:List α)(l h:Int):List α:=(xs.drop l.toNat).take (h.toNat-l.toNat)
def vY{R:Type}(lo hi:Option ar)(len:Nat)(K:Int->Int->Option R):Option R:=
 let fin:=λl h:Int=>if 0<=l/\l<=h/\h<=(len:Int)then K l h else none
 match lo with
 |none=>match hi with
  |none=>fin 0 len
  |some eh=>jP eh λh=>fin 0 h
 |some el=>jP el λl=>match hi with
  |none=>fin l len
  |some eh=>jP eh λh=>fin l h
section
variable {P:Program} {B:dD} {F:af} {Sg:Nat->af} {cg:Nat->List Value} {σ:St} {a:Act} {w:World}
def zO(F:af)(w:World)(L:Nat->Option Lab)(U:Nat->Bool)(cg:Nat->List Value):Option ar->Option Value->Prop
 |none,none=>True
 |some e,some v=>aF F w L U cg e v
 |_,_=>False
theorem pU{R:Type}{L:Nat->Option Lab}{U:Nat->Bool}{lo hi:Option ar}{len:Nat}{K:Int->Int->Option R}{r:R}(hk:vY lo hi len K=some r){vl vh:Option Value}(hl:zO F w L U cg lo vl)(hh:zO F w L U cg hi vh):
 ∃ l h:Nat,K l h=some r/\l<=h/\h<=len/\∀ (cap:Nat),len<=cap->∀ b,(Instr.sliceBounds b len cap vl vh none).run P w=.ok (l,h,cap) w:=by
 unfold vY at hk
 simp only at hk
 have fin:∀ (l h:Int),(if 0<=l/\l<=h/\h<=(len:Int)then K l h else none)=some r->K (l.toNat:Nat) (h.toNat:Nat)=some r/\0<=l/\l<=h/\h<=(len:Int):=by grind
 cases lo with
 |none=>
  cases vl with
  |some _=>exact hl.elim
  |none=>
  cases hi with
  |none=>
   cases vh with
   |some _=>exact hh.elim
   |none=>
    obtain⟨h1,h2,h3,h4⟩:=fin _ _ hk
    refine⟨_,_,h1,by simp,by simp,λcap hc b=>?_⟩
    simp[Instr.sliceBounds]
  |some eh=>
   cases vh with
   |none=>exact hh.elim
   |some vh=>
    simp only at hk
    obtain⟨k,h,hk,rfl,_⟩:=gF hk hh
    obtain⟨h1,h2,h3,h4⟩:=fin _ _ hk
    refine⟨_,_,h1,by simp,by omega,λcap hc b=>?_⟩
    have q:h<=(cap:Int):=by omega
    simp[Instr.sliceBounds,Instr.sliceBound,asIntOf,h3,q]
 |some el=>
  cases vl with
  |none=>exact hl.elim
  |some vl=>
  simp only at hk
  obtain⟨k,l,hk,rfl,_⟩:=gF hk hl
  cases hi with
  |none=>
   cases vh with
   |some _=>exact hh.elim
   |none=>
    simp only at hk
    obtain⟨h1,h2,h3,h4⟩:=fin _ _ hk
    refine⟨_,_,h1,by omega,by simp,λcap hc b=>?_⟩
    simp[Instr.sliceBounds,Instr.sliceBound,asIntOf,h2,h3]
  |some eh=>
   cases vh with
   |none=>exact hh.elim
   |some vh=>
    simp only at hk
    obtain⟨k2,h,hk,rfl,_⟩:=gF hk hh
    obtain⟨h1,h2,h3,h4⟩:=fin _ _ hk
    refine⟨_,_,h1,by omega,by omega,λcap hc b=>?_⟩
    have q:h<=(cap:Int):=by omega
    have q0:0<=h:=by omega
    have q1:l<=((h.toNat:Nat):Int):=by omega
    have q2:((h.toNat:Nat):Int)=h:=fF q0
    simp[Instr.sliceBounds,Instr.sliceBound,asIntOf,h2,q0,q,q2,h3]
theorem Ea{α:Type}{R:α->List Value->af->Prop}{sz:Nat}(hw:∀ y c S,R y c S->c.length=sz){x:List α}{ds:List Value}{S:af}(h:bm R x ds S)(l h':Nat)(hl:l<=h')(hh:h'<=x.length):
 ∃ pre mid post S',ds=pre++mid++post/\pre.length=l*sz/\bm R ((x.drop l).take (h' - l)) mid S'/\Sub S' S:=by
 have e1:x=x.take l++((x.drop l).take (h' - l)++(x.drop l).drop (h' - l)):=by rw[fC,fC]
 rw[e1]at h
 obtain⟨c1,c2,S1,S2,rfl,h1,h2,s1,s2,_⟩:=bm.split h
 obtain⟨c3,c4,S3,S4,rfl,h3,h4,s3,s4,_⟩:=bm.split h2
 refine⟨c1,c3,c4,S3,by simp,?_,h3,s3.trans s2⟩
 grind [bm.len,List.length_take]
theorem MI{te:Ty}{x:List te.T}{cs:List Value}{S S':af}(h:bm (Rep F w te .ro) x cs S):bm (Rep F w te .ro) x cs S':=by
 induction x generalizing cs S S' with
 |nil=>exact h
 |cons y ys ih=>
  obtain⟨c1,c2,S1,S2,rfl,h1,h2,_⟩:=h
  exact⟨c1,c2,af.none,af.none,rfl,eI te .ro rfl _ _ _ _ h1,ih h2,λ_ h=>h.elim,λ_ h=>h.elim,λ_ h=>h.elim⟩
def xS{R:Type}(TT:Tab)(σ:St)(t:TypeId)(dst:Nat)(ex:ar)(lo hi:Option ar)(KV:ar->Option R)(K:St->Option R):Option R:=
 match TT t with
 |none=>none
 |some d=>match d.kd with
  |.str=>match ex with
   |.val .str s=>vY lo hi (List.length s) λl h=>KV (.val .str (cn (s:List Int) l h))
   |_=>none
  |.slice e=>match TT e with
   |none=>none
   |some de=>match ex with
    |.val (.sl t') xs=>bif decide (t'=de.ty)then vY lo hi (List.length xs) λl h=>KV (.val (.sl t') (cn (xs:List t'.T) l h))else none
    |.hdr l1 _ [] _=>bif σ.U (dst*8)then none else match σ.L l1 with
     |some ⟨_,.sl t',.own me,xs⟩=>bif decide (t'=de.ty)then vY lo hi (List.length xs) λl h=>K (σ.mk' (upd σ.L l1 none) (dst*8) dst ⟨0,.sl t',.own me,cn (xs:List t'.T) l h⟩)else none
     |_=>none
    |.hdr l n (.deref::π) c=>bif σ.U (dst*8)then none else match σ.L l with
     |some ⟨v0,.box t0,m0,x0⟩=>bif Nat.beq n v0&&!(σ.U (dst*8+1))then(match cL (.box t0) x0 (.deref::π) ⟨.jI,()⟩with
      |some v'=>match c,atM (.box t0) m0 (.deref::π)with
       |⟨.sl t',xs⟩,.own me=>bif decide (t'=de.ty)then vY lo hi (List.length xs) λl' h=>
        K ((σ.xR l (dst*8+1) ⟨v0+1,v'.t,fR m0 (.deref::π) .ro,v'.x⟩ ⟨0,.sl t',.own me,xs⟩).mk' (upd (upd (upd σ.L l (some ⟨v0+1,v'.t,fR m0 (.deref::π) .ro,v'.x⟩)) (dst*8+1) (some ⟨0,.sl t',.own me,xs⟩)) (dst*8+1) none) (dst*8) dst ⟨0,.sl t',.own me,cn (xs:List t'.T) l' h⟩)else none
       |_,_=>none
      |none=>none)else none
     |_=>none
    |_=>none
  |_=>none
theorem mT{t e:TypeId}{de:TD}(hu:P.underlying t=some (.slice e))(hde:TOk P e de){ao:Option Addr}{len cap:Nat}{vl vh:Option Value}{l h:Nat}(hb:∀ b,(Instr.sliceBounds b len cap vl vh none).run P w=.ok (l,h,cap) w):
 (Instr.sliceAt t (.slice ao len cap) vl vh none).run P w=.ok (.slice (if cap=l then ao else ao.map (·.add (l*de.ty.width))) (h-l) (cap-l)) w:=by
 simp only[Instr.sliceAt,ba,run_underlying hu,bw,Instr.slice,hb,run_sizeOf hde,bP]
theorem MJ{te:Ty}{me:Md}{x:List te.T}{u:Value}{S:af}(hr:Rep F w (.sl te) (.own me) x [u] S)(l h:Nat)(hl:l<=h)(hh:h<=x.length):
 ∃ ao cap,u=.slice ao x.length cap/\x.length<=cap/\Rep F w (.sl te) (.own me) (cn x l h) [.slice (if cap=l then ao else ao.map (·.add (l*te.width))) (h-l) (cap-l)] S:=by
 obtain⟨ao,cap,e1,h1,h2,h3⟩:=hr
 simp only[e8,and_true]at e1
 have hlen:(cn x l h).length=h-l:=by unfold cn;simp only[aa,aL,bD];omega
 refine⟨ao,cap,e1,h1,(if cap=l then ao else ao.map (·.add (l*te.width))),cap-l,by rw[hlen],by rw[hlen];omega,by omega,?_⟩
 rcases h3 with rfl|⟨b,off,c,e,rfl,hb,hc,hS,S1,hr,s1,n1⟩
 ·left
  omega
 ·right
  obtain⟨pre,mid,post,S',hds,hpl,MK,hs'⟩:=Ea (λy c S h=>aQ F w te me y c S h) hr l h hl hh
  have hml:=bm.len (λy c S h=>aQ F w te me y c S h) MK
  have hll:((x.drop l).take (h-l)).length=h-l:=by simp only[aL,bD];omega
  by_cases hcl:cap=l
  ·have h0:h-l=0:=by omega
   have hz:(cap-l)*te.width=0:=by rw[hcl,Nat.sub_self,Nat.zero_mul]
   refine⟨b,off,c,e,by rw[if_pos hcl],hb,by omega,hS,S1,?_,s1,n1⟩
   grind [bm]
  ·refine⟨b,off+l*te.width,c,e,by rw[if_neg hcl,dy,cQ],hb,?_,hS,S',?_,hs'.trans s1,λhb'=>n1 (hs' b hb')⟩
   ·have:l*te.width+(cap-l)*te.width=cap*te.width:=by rw[<-gA];congr 1;omega
    omega
   ·have e2:(c.toList.drop (off+l*te.width)).take ((cn x l h).length*te.width)=mid:=by
     rw[hlen,<-ij]
     have e3:((c.toList.drop off).drop (l*te.width)).take ((h-l)*te.width)=(((c.toList.drop off).take (x.length*te.width)).drop (l*te.width)).take ((h-l)*te.width):=by
      rw[oo,oq]
      congr 1
      rw[<-ou]
      exact(dl (hJ _ (by omega))).symm
     rw[e3,hds,aT,ir hpl]
     exact eQ (by rw[hml,hll])
    rw[e2]
    show bm _ ((x.drop ((l:Int)).toNat).take (((h:Int)).toNat-((l:Int)).toNat)) _ _
    simp only[aa]
    exact MK
theorem ML(h:aP B F Sg cg σ a w){R:Type}{TT:Tab}(hT:cK P TT){t:TypeId}{dst:Nat}(hN:dst<B.N){ex:ar}{lo hi:Option ar}{KV:ar->Option R}{K:St->Option R}{r:R}(hk:xS TT σ t dst ex lo hi KV K=some r){v:Value}{vl vh:Option Value}(he:aF F w σ.L σ.U cg ex v)(hlo:zO F w σ.L σ.U cg lo vl)(hhi:zO F w σ.L σ.U cg hi vh):
 ∃ z,(Instr.sliceAt t v vl vh none).run P w=.ok z w/\((∃ e',KV e'=some r/\aF F w σ.L σ.U cg e' z)\/∃ σ' Sg' cg',K σ'=some r/\aP B F Sg' cg' σ' (a.put (some dst) z) w/\EF σ σ' dst):=by
 unfold xS at hk
 cases h1:TT t with
 |none=>rw[h1]at hk;cases hk
 |some d=>
 rw[h1]at hk
 simp only at hk
 have hd:=(hT t d h1).desc
 split at hk
 ·rename_i hkd
  rw[hkd]at hd
  simp only at hd
  split at hk
  ·rename_i s _
   obtain⟨u,rfl,rfl,hu⟩:=kj he
   obtain⟨l,hh,hk,g1,g2,g3⟩:=pU (P:=P) hk hlo hhi
   rw[et]at g2 g3
   refine⟨.string (u.extract l hh),?_,.inl ⟨_,hk,xG ?_ ?_⟩⟩
   ·simp only[Instr.sliceAt,ba,run_underlying hd.1,bw,Instr.slice]
    simp
    rw[g3 u.size (aw _) false]
    rfl
   ·rw[ByteArray.size_extract];omega
   ·unfold cn cd
    simp only[aa]
    rw[ByteArray.data_extract,Array.toList_extract,List.extract_eq_take_drop,List.map_take,List.map_drop]
  ·cases hk
 ·rename_i e hkd
  rw[hkd]at hd
  simp only at hd
  cases h2:TT e with
  |none=>rw[h2]at hk;cases hk
  |some de=>
  rw[h2]at hk
  simp only at hk
  have hde:=hT e de h2
  -- the end for MM is owned
  have fin:∀ (σ1:St) (Sg1:Nat->af) (cg1:Nat->List Value) (l1:Nat) (v1:Nat) (me:Md) (xs:List de.ty.T),aP B F Sg1 cg1 σ1 a w->σ1.L l1=some ⟨v1,.sl de.ty,.own me,xs⟩->cg1 l1=[v]->σ1.U (dst*8)=false->
   ∀ l hh:Nat,l<=hh->hh<=xs.length->(∀ cap:Nat,xs.length<=cap->∀ b,(Instr.sliceBounds b xs.length cap vl vh none).run P w=.ok (l,hh,cap) w)->
   ∃ z Sg' cg',(Instr.sliceAt t v vl vh none).run P w=.ok z w/\aP B F Sg' cg' (σ1.mk' (upd σ1.L l1 none) (dst*8) dst ⟨0,.sl de.ty,.own me,cn xs l hh⟩) (a.put (some dst) z) w:=by
   intro σ1 Sg1 cg1 l1 v1 me xs i0 hl1 hcg hU l hh q1 q2 q3
   have bF:=i0.lab l1 _ hl1
   rw[hcg]at bF
   obtain⟨ao,cap,rfl,hle,mu⟩:=MJ bF l hh q1 q2
   have hne:l1≠dst*8:=λe=>by rw[<-e,i0.used l1 _ hl1]at hU;cases hU
   have i1:=i0.jQ (w':=w) rfl rfl rfl (aw _) (l:=dst*8) (b:=⟨0,.sl de.ty,.own me,cn xs l hh⟩) hU (upd (upd σ1.L l1 none) (dst*8) (some ⟨0,.sl de.ty,.own me,cn xs l hh⟩)) (λ_ _ _=>rfl) mu (aG _ _ _)
    (λj hj=>by
     rw[aW _ _ hj]
     by_cases e:j=l1
     ·subst e;exact .inl (aG _ _ _)
     ·exact .inr (aW _ _ e))
    (λk hk=>⟨λj bj hj hbj hs=>by
     rw[aW _ _ hj]at hbj
     rcases fv hbj with⟨_,e⟩|⟨hjl,hbj⟩
     ·cases e
     ·exact i0.dis l1 j _ bj (Ne.symm hjl) hl1 hbj k hk hs,λhf=>i0.ek l1 _ hl1 k hk hf,i0.lt l1 _ hl1 k hk,i0.may l1 _ hl1 k hk⟩)
   exact⟨_,_,_,mT hd hde (q3 cap hle),i1.vT hN (e:=.one (.hdr (dst*8) 0 [] ⟨.sl de.ty,cn xs l hh⟩)) (gg i1 (l:=dst*8) (b:=⟨0,.sl de.ty,.own me,cn xs l hh⟩) (aG _ _ _) (by simp[VR,Ty.agg,Value.oneCell']))⟩
  split at hk
  ·rename_i t' xs
   cases hud:decide (t'=de.ty)
   ·rw[hud]at hk;cases hk
   rw[hud]at hk
   simp only[cond_true]at hk
   have hud:=of_decide_eq_true hud
   subst hud
   obtain⟨l,hh,hk,g1,g2,g3⟩:=pU (P:=P) hk hlo hhi
   obtain⟨cs,hr,hv⟩:=he
   obtain⟨ao,cap,rfl,f1,f2,f3⟩:=mN hr hv
   refine⟨_,mT hd hde (g3 cap f1),.inl ⟨_,hk,[.slice (if cap=l then ao else ao.map (·.add (l*de.ty.width))) (hh-l) (cap-l)],?_,by simp[VR,Ty.agg,Value.oneCell']⟩⟩
   have hlen:(cn (xs:List de.ty.T) l hh).length=hh-l:=by unfold cn;simp only[aa,aL,bD];omega
   refine⟨_,cap-l,by rw[hlen],by rw[hlen];omega,by omega,λhp=>?_⟩
   rw[hlen]at hp
   obtain⟨ad,rfl,hf,ds,hat,eR⟩:=f3 (by omega)
   obtain⟨pre,mid,post,S',rfl,hpl,MK,_⟩:=Ea (λy c S h=>aQ F w de.ty .ro y c S h) eR l hh g1 g2
   refine⟨ad.add (l*de.ty.width),by rw[if_neg (by omega)];rfl,by rw[jE];exact hf,mid,?_,?_⟩
   ·rw[<-hpl];exact At.part hat
   ·show bm _ ((List.drop ((l:Int)).toNat xs).take (((hh:Int)).toNat-((l:Int)).toNat)) _ _
    simp only[aa]
    exact MI MK
  ·rename_i l1 n1 c1
   cases hU:σ.U (dst*8)
   ·rw[hU]at hk
    simp only[cond_false]at hk
    split at hk
    ·rename_i v1 t' me xs hl1
     cases hud:decide (t'=de.ty)
     ·rw[hud]at hk;cases hk
     rw[hud]at hk
     simp only[cond_true]at hk
     have hud:=of_decide_eq_true hud
     subst hud
     obtain⟨l,hh,hk,g1,g2,g3⟩:=pU (P:=P) hk hlo hhi
     have hv:=(he.2 _ hl1).2.1 rfl
     have hcg:cg l1=[v]:=by simp[VR,Ty.agg]at hv;exact hv.1
     obtain⟨z,Sg',cg',e1,e2⟩:=fin σ Sg cg l1 v1 me xs h hl1 hcg hU l hh g1 g2 g3
     exact⟨z,e1,.inr ⟨_,Sg',cg',hk,e2,mQ⟩⟩
    ·cases hk
   ·rw[hU]at hk;cases hk
  ·rename_i l n π c
   cases hU:σ.U (dst*8)
   ·rw[hU]at hk
    simp only[cond_false]at hk
    split at hk
    ·rename_i v0 t0 m0 x0 hl
     cases hb:Nat.beq n v0&&!(σ.U (dst*8+1))
     ·rw[hb]at hk;cases hk
     rw[hb]at hk
     simp only[cond_true]at hk
     simp only[ag,bC]at hb
     have hn:=bI hb.1
     cases hr:cL (.box t0) x0 (.deref::π) ⟨.jI,()⟩with
     |none=>rw[hr]at hk;cases hk
     |some v'=>
      rw[hr]at hk
      simp only at hk
      obtain⟨h3,h4,h5⟩:=(he.2 _ hl).2.2 hn
      split at hk
      ·rename_i t' xs me hme
       cases hud:decide (t'=de.ty)
       ·rw[hud]at hk;cases hk
       rw[hud]at hk
       simp only[cond_true]at hk
       have hud:=of_decide_eq_true hud
       subst hud
       obtain⟨l',hh,hk,g1,g2,g3⟩:=pU (P:=P) hk hlo hhi
       obtain⟨ds,s,Sg1,cg1,cf,i1,hcd,_⟩:=h.take hl h4 h3 rfl hr hb.2 ⟨_,rfl⟩
       have hv:=h5 ds s cf
       have hat:=eJ _ _ _ _ h4
       simp only at hat hv
       rw[<-hat]at hv
       have hcg:cg1 (dst*8+1)=[v]:=by rw[hcd];simp[VR,Ty.agg]at hv;exact hv.1
       rw[hme]at i1
       have hU1:(λj=>Nat.beq j (dst*8+1)||σ.U j) (dst*8)=false:=by
        simp only[hU,jz]
        cases hbq:Nat.beq (dst*8) (dst*8+1)
        ·rfl
        ·have:=bI hbq;omega
       obtain⟨z,Sg',cg',e1,e2⟩:=fin _ Sg1 cg1 (dst*8+1) 0 me xs i1 (aG _ _ _) hcg hU1 l' hh g1 g2 g3
       exact⟨z,e1,.inr ⟨_,Sg',cg',hk,e2,mQ⟩⟩
      ·cases hk
    ·cases hk
   ·rw[hU]at hk;cases hk
  ·cases hk
 ·cases hk
end
def toP(t want:Ty)(x:t.T):Option want.T:=
 if h:t=want then some (h ▸ x)else match t,want,x with
  |.box a,.ptr b,x=>if h:a=b then some (some (h ▸ x))else none
  |.ptr a,.box b,x=>if h:a=b then(match(x:Option a.T)with|some y=>some (h ▸ y)|none=>none)else none
  |_,_,_=>none
theorem toP_ok{t want:Ty}{x:t.T}{y:want.T}(h:toP t want x=some y){F:af}{w:World}{m:Md}{cs:List Value}{S:af}(hr:Rep F w t m x cs S):Rep F w want m y cs S:=by
 unfold toP at h
 split at h
 ·grind
 ·split at h
  ·rename_i a b x _ _
   split at h
   ·rename_i e
    subst e
    injection h with h
    subst h
    cases m <;> exact hr
   ·cases h
  ·split at h
   ·rename_i e
    subst e
    split at h
    ·injection h with h
     subst h
     cases m <;> exact hr
    ·cases h
   ·cases h
  ·cases h
theorem toP_agg{t want:Ty}{x:t.T}{y:want.T}(h:toP t want x=some y):want.agg=t.agg:=by
 unfold toP at h
 split at h
 ·simp_all
 ·split at h
  ·rfl
  ·rfl
  ·cases h
theorem toP_vr{t want:Ty}{x:t.T}{y:want.T}(h:toP t want x=some y){cs:List Value}{v:Value}(hv:VR t cs v):VR want cs v:=by
 unfold VR at *
 grind [toP_agg]
def upP(e:ar)(want:Ty):ar:=match e with
 |.val (.box a) x=>(match want with
  |.ptr _=>.val (.ptr a) (some x)
  |_=>e)
 |e=>e
theorem QX{F:af}{w:World}{L:Nat->Option Lab}{U:Nat->Bool}{cg:Nat->List Value}{e:ar}{want:Ty}{v:Value}(h:aF F w L U cg e v):aF F w L U cg (upP e want) v:=by
 unfold upP
 split
 ·split
  ·exact h
  ·exact h
 ·exact h
def sL{R:Type}(L:Nat->Option Lab)(want:Ty)(e:ar)(K:want.T->Md->(Nat->Option Lab)->Option R):Option R:=
 match e with
 |.hdr l2 _ [] _=>match L l2 with
  |some ⟨_,t,m,x⟩=>(match toP t want x with|some y=>K y m (upd L l2 none)|none=>none)
  |none=>none
 |e=>asT e want λy=>K y (uf e want) L
def rC{R:Type}(TT:Tab)(t:TypeId)(d:TD)(i:Nat)(K:Nat->List Stp->TD->Option R):Option R:=
 match d.kd with
 |.struct _=>zE TT t i λ_ k φ df=>K k φ df
 |.array n e=>match TT e with
  |some de=>bif Nat.blt i n then K (i*de.ty.width) [.ai (i:Int)] de else none
  |none=>none
 |_=>none
def pq{R:Type}(TT:Tab)(t:TypeId)(d:TD):List (Nat×ar)->d.ty.T->Md->(Nat->Option Lab)->(d.ty.T->Md->(Nat->Option Lab)->Option R)->Option R
 |[],x,m,L,K=>K x m L
 |(i,e)::ps,x,m,L,K=>rC TT t d i λk φ df=>bif decide (bo d.ty φ=some k)&&df.ty.vty then
  (sL L df.ty e λy my L'=>match gk d.ty m φ (bif df.ty.flat then atM d.ty m φ else my)with
   |some m'=>iR d.ty x φ df.ty y λx'=>pq TT t d ps x' m' L' K
   |none=>none)else none
def oZ(σ:St):List (Nat×Operand)->Option (List (Nat×ar))
 |[]=>some []
 |(i,x)::ps=>match opd σ x with
  |some e=>match oZ σ ps with
   |some es=>some ((i,e)::es)
   |none=>none
  |none=>none
def xT(TT:Tab)(d:TD):Bool:=match d.kd with
 |.struct fs=>fs.all λq=>(TT q.1).isSome
 |.array _ e=>(TT e).isSome
 |_=>false
def lN{R:Type}(TT:Tab)(σ:St)(t:TypeId)(dst:Nat)(own:Bool)(ps:List (Nat×Operand))(KV:ar->Option R)(K:St->Option R):Option R:=
 match TT t with
 |none=>none
 |some d=>bif d.ty.agg&&xT TT d then(match rdC d.ty d.zero with
  |none=>none
  |some z=>match oZ σ ps with
   |none=>none
   |some es=>pq TT t d es z (bif own then zM d.ty else .ro) σ.L λx m L=>
    bif own then(bif σ.U (dst*8)then none else K (σ.mk' L (dst*8) dst ⟨0,d.ty,m,x⟩))else(bif dE m then KV (.val d.ty x)else none))else none
section
variable {P:Program} {B:dD} {F:af} {Sg:Nat->af} {cg:Nat->List Value} {σ:St} {a:Act} {w:World}
structure TN(σ:St)(L L':Nat->Option Lab):Prop where
 sub:∀ j,L' j=none\/L' j=L j
theorem TN.refl(σ:St)(L:Nat->Option Lab):TN σ L L:=⟨λ_=>.inr rfl⟩
theorem uo(h:aP B F Sg cg σ a w){R:Type}{L:Nat->Option Lab}(hL:∀ j,L j=none\/L j=σ.L j){want:Ty}{e:ar}{K:want.T->Md->(Nat->Option Lab)->Option R}{r:R}(hk:sL L want e K=some r){v:Value}(he:aF F w σ.L σ.U cg e v):
 ∃ y m L' cs S',K y m L'=some r/\Rep F w want m y cs S'/\VR want cs v/\(∀ j,L' j=none\/L' j=L j)/\(∀ k,S' k->∃ l2 b2,L l2=some b2/\σ.L l2=some b2/\L' l2=none/\Sg l2 k):=by
 unfold sL at hk
 split at hk
 ·rename_i l2 n2 c2
  cases hl2:L l2 with
  |none=>rw[hl2]at hk;cases hk
  |some b2=>
   rw[hl2]at hk
   obtain⟨v2,t2,m2,x2⟩:=b2
   simp only at hk
   split at hk
   ·rename_i y ht
    have hs:σ.L l2=some ⟨v2,t2,m2,x2⟩:=by grind
    refine⟨y,m2,_,cg l2,Sg l2,hk,toP_ok ht (h.lab l2 _ hs),toP_vr ht ((he.2 _ hs).2.1 rfl),λj=>?_,λk hk=>⟨l2,_,hl2,hs,aG _ _ _,hk⟩⟩
    grind [aG,aW]
   ·cases hk
 grind [pP,af.none]
theorem Gc{R:Type}{TT:Tab}(hT:cK P TT){t:TypeId}{d:TD}(hd:TOk P t d){i:Nat}{K:Nat->List Stp->TD->Option R}{r:R}(hk:rC TT t d i K=some r):
 ∃ k φ df,K k φ df=some r/\((∃ fields fl,P.underlying t=some (.struct fields)/\fields[i]?=some fl/\fl.offset=k/\TOk P fl.type df)\/∃ n e,P.underlying t=some (.array n e)/\TOk P e df/\k=i*df.ty.width):=by
 unfold rC at hk
 have hds:=hd.desc
 split at hk
 ·grind [xI]
 ·rename_i n e hkd
  rw[hkd]at hds
  simp only at hds
  cases h2:TT e with
  |none=>rw[h2]at hk;cases hk
  |some de=>
   rw[h2]at hk
   simp only at hk
   cases hb:Nat.blt i n
   ·simp_all
   ·rw[hb]at hk
    exact⟨_,_,de,hk,.inr ⟨n,e,hds,hT e de h2,rfl⟩⟩
 ·cases hk
theorem Gd:∀ (l:List Value) (k off:Nat) (cells:Array Value),off+k+l.length<=cells.size->((l.zipIdx k).foldl (λcs p=>cs.setIfInBounds (off+p.2) p.1) cells).toList=cells.toList.take (off+k)++l++cells.toList.drop (off+k+l.length):=by
 intro l
 induction l with
 |nil=>intro k off cells _;simp
 |cons v l ih=>
  intro k off cells hc
  simp only[aO]at hc
  simp only[List.zipIdx_cons,kN]
  rw[ih (k+1) off _ (by simp;omega)]
  rw[Array.toList_setIfInBounds]
  have ho:off+k<cells.toList.length:=by simp;omega
  rw[show off+(k+1)=off+k+1 by omega,List.take_set,List.drop_set_of_lt (by omega),nQ ho,List.set_append_right _ _ (by rw[aL];omega)]
  have e1:off+k-(List.take (off+k) cells.toList).length=0:=by rw[aL];omega
  rw[e1]
  simp only[List.set_cons_zero,aO,aT,gx,cm]
  rw[show off+k+1+l.length=off+k+(l.length+1) by omega]
theorem zP{place:Nat->Option (Nat×Nat)}{cells:Array Value}{i off sz:Nat}{v:Value}{rest:List (Nat×Value)}(hp:place i=some (off,sz))(hs:v.cells.size=sz)(hc:off+sz<=cells.size):
 ∃ c':Array Value,Instr.fill place cells ((i,v)::rest)=Instr.fill place c' rest/\c'.toList=cells.toList.take off++v.cells.toList++cells.toList.drop (off+sz):=by
 refine⟨_,by simp only[Instr.fill,hp];rw[if_neg (by simp[hs];omega)],?_⟩
 rw[<-Array.foldl_toList,Array.toList_zipIdx]
 simp_all [Gd]
theorem Ct:∀ (π:List Stp) (t:Ty) (x:t.T) (u:Ty) (y:u.T) (x':t.T),jM t x π u y=some x'->∃ c,get? t x π=some c/\c.t=u:=by
 intro π
 induction π with
 |nil=>
  intro t x u y x' h
  refine⟨⟨t,x⟩,eV _ _,?_⟩
  unfold jM at h
  have:(if h:u=t then some (h ▸ y:t.T)else none)=some x':=by cases t <;> exact h
  grind
 |cons p π ih=>
  intro t x u y x' h
  unfold jM at h
  unfold get?
  cases t <;> cases p <;> simp only[iR,reduceCtorEq]at h <;> simp only[ft]
  case st.st=>exact ih _ _ _ _ _ h
  case box.deref=>exact ih _ _ _ _ _ h
  case pair.fst=>obtain⟨z,hz,_⟩:=iK (f:=λz=>(z,x.2)) h;exact ih _ _ _ _ _ hz
  case pair.snd=>obtain⟨z,hz,_⟩:=iK (f:=λz=>(x.1,z)) h;exact ih _ _ _ _ _ hz
  case sl.idx t i=>
   split at h
   ·rename_i h0
    rw[if_pos h0]
    cases hz:(x:List t.T)[i.toNat]? with
    |none=>rw[hz]at h;cases h
    |some z=>
     rw[hz]at h
     obtain⟨z',hz',_⟩:=iK (f:=λz'=>(x:List t.T).set i.toNat z') h
     exact ih _ _ _ _ _ hz'
   ·cases h
  case arr.ai n t i=>
   split at h
   ·rename_i h0
    rw[if_pos h0]
    cases hz:(x:List t.T)[i.toNat]? with
    |none=>rw[hz]at h;cases h
    |some z=>
     rw[hz]at h
     obtain⟨z',hz',_⟩:=iK (f:=λz'=>(x:List t.T).set i.toNat z') h
     exact ih _ _ _ _ _ hz'
   ·cases h
  case ptr.deref t=>
   cases x with
   |none=>simp at h
   |some z=>
    obtain⟨z',hz',_⟩:=iK (f:=λz'=>some z') h
    exact ih _ _ _ _ _ hz'
theorem Ge(h:aP B F Sg cg σ a w){R:Type}{TT:Tab}(hT:cK P TT){t:TypeId}{d:TD}(hd:TOk P t d){place:Nat->Option (Nat×Nat)}(hpl:∀ i k df,((∃ fields fl,P.underlying t=some (.struct fields)/\fields[i]?=some fl/\fl.offset=k/\TOk P fl.type df)\/∃ n e,P.underlying t=some (.array n e)/\TOk P e df/\k=i*df.ty.width)->place i=some (k,df.ty.width)):
 ∀ (ps:List (Nat×Operand)) (es:List (Nat×ar)) (x:d.ty.T) (m:Md) (L:Nat->Option Lab) (cells:Array Value) (S:af) (K:d.ty.T->Md->(Nat->Option Lab)->Option R) (r:R),oZ σ ps=some es->pq TT t d es x m L K=some r->(∀ j,L j=none\/L j=σ.L j)->Rep F w d.ty m x cells.toList S->(∀ k,S k->∃ l2 b2,σ.L l2=some b2/\L l2=none/\Sg l2 k)->
  ∃ x' m' L' iy S',K x' m' L'=some r/\Instr.fill place cells (ps.map λp=>(p.1,a.eval p.2))=some iy/\Rep F w d.ty m' x' iy.toList S'/\(∀ j,L' j=none\/L' j=σ.L j)/\(∀ k,S' k->∃ l2 b2,σ.L l2=some b2/\L' l2=none/\Sg l2 k):=by
 intro ps
 induction ps with
 |nil=>
  intro es x m L cells S K r he hk hL hr hS
  simp only[oZ,bh]at he
  subst he
  exact⟨x,m,L,cells,S,hk,rfl,hr,hL,hS⟩
 |cons p ps ih=>
  obtain⟨i,o⟩:=p
  intro es x m L cells S K r he hk hL hr hS
  simp only[oZ]at he
  cases ho:opd σ o with
  |none=>rw[ho]at he;cases he
  |some e=>
  rw[ho]at he
  simp only at he
  cases hes:oZ σ ps with
  |none=>rw[hes]at he;cases he
  |some es'=>
  rw[hes]at he
  simp only[bh]at he
  subst he
  simp only[pq]at hk
  obtain⟨k,φ,df,hk,QY⟩:=Gc hT hd hk
  cases hin:decide (bo d.ty φ=some k)&&df.ty.vty
  ·rw[hin]at hk;cases hk
  rw[hin]at hk
  simp only[cond_true]at hk
  simp only[ag,decide_eq_true_eq]at hin
  obtain⟨hin,hvt⟩:=hin
  obtain⟨y,my,L1,cs1,S1,hk,hr1,hv1,hL1,hS1⟩:=uo h hL hk (bA h ho)
  cases hM:gk d.ty m φ (bif df.ty.flat then atM d.ty m φ else my)with
  |none=>rw[hM]at hk;cases hk
  |some m'=>
  rw[hM]at hk
  simp only at hk
  rw[iJ]at hk
  obtain⟨x',db,hk⟩:=b9.1 hk
  obtain⟨c0,hg0,hc0⟩:=Ct φ d.ty x df.ty y x' db
  have hcl:=aQ _ _ _ _ _ _ _ hr
  obtain⟨ds,s',S',cf,bF,fy,fY⟩:=focus F w φ d.ty m x cells.toList S (some (w.heap.size,0)) c0.t c0.x hr hg0 (lJ _ _ _ _ hin)
  have hs':=pn _ _ _ _ _ _ _ _ hin cf
  obtain⟨hds,hkw⟩:=mS _ _ _ _ _ _ _ hin hcl cf
  have hat:=eJ _ _ _ _ hg0
  rw[<-hat,hc0]at hkw
  have hel:=aQ _ _ _ _ _ _ _ hr1
  have hdl:=aQ _ _ _ _ _ _ _ bF
  rw[hc0]at hdl
  have hy:Rep F w df.ty (bif df.ty.flat then atM d.ty m φ else my) y cs1 S1:=by
   cases hf:df.ty.flat
   ·exact hr1
   ·exact kS _ hf _ _ _ _ _ _ hr1
  have hvc:(a.eval o).cells.size=df.ty.width:=by rw[<-bg,hv1.cells,hel]
  obtain⟨c',sM,hc'⟩:=zP (rest:=ps.map λp=>(p.1,a.eval p.2)) (hpl i k df QY) hvc (by rw[<-bg,hcl];omega)
  rw[hv1.cells]at hc'
  have TP:∀ q,S1 q->S q->False:=λq h1 h2=>by
   obtain⟨l2,b2,e1,e2,e3,e4⟩:=hS1 q h1
   obtain⟨l3,b3,f1,f2,f3⟩:=hS q h2
   by_cases e:l2=l3
   ·subst e;rw[f2]at e1;cases e1
   ·exact h.dis l2 l3 b2 b3 e e2 f1 q e4 f3
  have mu:Rep F w d.ty m' x' c'.toList (λq=>(S q/\¬S' q)\/S1 q):=by
   rcases fY with⟨pre,post,e1,e2,lH⟩|⟨b,o',e1,e2,_⟩
   ·have xU:pre.length=k:=by
     rw[hs']at e2
     simp at e2
     omega
    have:=lH F w (hc0 ▸ y) cs1 S1 x' _ m' (pQ _ _ _ _ _ hM) (Sub.refl _) (by
     clear lH bF
     obtain⟨ct,cx⟩:=c0
     simp only at hc0
     subst hc0
     exact db) (by
     clear lH bF
     obtain⟨ct,cx⟩:=c0
     simp only at hc0
     subst hc0
     exact hy) (by rw[hel,hdl]) (λq h1 h2=>(TP q h1 h2).elim) (λ_ _ _=>rfl) (λ_ _=>rfl)
    rw[hc',e1]
    rw[e1]at hcl
    rw[aT pre ds post,<-xU,kG (aw _),dj]
    rw[<-aT pre ds post,show pre.length+df.ty.width=(pre++ds).length by rw[ak,hdl],kF (aw _),ie,cm]
    exact this
   ·exfalso
    rw[hs']at e1
    injection e1 with e1
    injection e1 with e1 _
    obtain⟨l2,b2,f1,f2,f3⟩:=hS b e2
    have:=h.lt l2 b2 f1 b f3
    omega
  obtain⟨x2,m2,L2,Cu,S2,g1,g2,g3,g4,g5⟩:=ih es' x' m' L1 c' _ K r hes hk (λj=>by
   rcases hL1 j with e|e
   ·exact .inl e
   ·rw[e];exact hL j) mu (λq hq=>by
   rcases hq with hq|hq
   ·obtain⟨l2,b2,f1,f2,f3⟩:=hS q hq.1
    refine⟨l2,b2,f1,?_,f3⟩
    rcases hL1 l2 with e|e
    ·exact e
    ·rw[e];exact f2
   ·obtain⟨l2,b2,e1,e2,e3,e4⟩:=hS1 q hq
    exact⟨l2,b2,e2,e3,e4⟩)
  exact⟨x2,m2,L2,Cu,S2,g1,by rw[fH,sM];exact g2,g3,g4,g5⟩
theorem Cv{t:Ty}{m:Md}(hm:dE m=true){x:t.T}{cs:List Value}{S S':af}(h:Rep F w t m x cs S):Rep F w t .ro x cs S':=eI t m hm x cs S S' h
theorem zQ{fields:Array Field}{TTs:Field->Nat}(h:∀ f∈fields.toList,(sizeOf f.type).run P w=.ok (TTs f) w):(fields.mapM λf=>do pure (f.offset,<-sizeOf f.type):Sem (Array (Nat×Nat))).run P w=.ok (fields.map λf=>(f.offset,TTs f)) w:=by
 rw[Array.mapM_eq_mapM_toList]
 have:∀ l:List Field,(∀ f∈l,(sizeOf f.type).run P w=.ok (TTs f) w)->(l.mapM λf=>do pure (f.offset,<-sizeOf f.type):Sem (List (Nat×Nat))).run P w=.ok (l.map λf=>(f.offset,TTs f)) w:=by
  intro l
  induction l with
  |nil=>intro _;simp[bP]
  |cons f l ih=>simp_all
 change Sem.run P (List.mapM (λf=>do pure (f.offset,<-sizeOf f.type)) fields.toList >>= λl=>pure l.toArray) w=_
 simp only[ba,this _ h,bw,bP]
 congr 1
 grind
theorem run_build{TT:Tab}(hT:cK P TT){t:TypeId}{d:TD}(hd:TOk P t d)(hkn:xT TT d=true){ps:List (Nat×Value)}:
 ∃ place:Nat->Option (Nat×Nat),(∀ i k df,((∃ fields fl,P.underlying t=some (.struct fields)/\fields[i]?=some fl/\fl.offset=k/\TOk P fl.type df)\/∃ n e,P.underlying t=some (.array n e)/\TOk P e df/\k=i*df.ty.width)->place i=some (k,df.ty.width))/\
  ∀ cells zc:Array Value,zc.toList=d.zero->Instr.fill place zc ps=some cells->(Instr.build t ps.toArray).run P w=.ok (.agg cells) w:=by
 obtain⟨i0,z,hi,hi1,hi2,hi3,hi4⟩:=hd.vS
 have hds:=hd.desc
 unfold xT at hkn
 have hz:∀ zc:Array Value,zc.toList=d.zero->z.cells=zc:=λzc h=>Array.ext' (by rw[hi4,h])
 split at hkn
 ·rename_i fs hkd
  rw[hkd]at hds
  simp only at hds
  obtain⟨fields,hu,hf⟩:=hds
  have hsz:∀ f∈fields.toList,(sizeOf f.type).run P w=.ok ((TT f.type).elim 0 (λq=>q.ty.width)) w:=by
   intro f hfm
   have:(f.type,f.offset)∈fs:=by rw[<-hf];exact eE.2 ⟨f,hfm,rfl⟩
   have hs:=cG.1 hkn _ this
   obtain⟨q,hq⟩:=nV.1 hs
   simp only at hq
   rw[hq]
   exact run_sizeOf (hT _ _ hq)
  refine⟨λi=>(fields.map λf=>(f.offset,(TT f.type).elim 0 (λq=>q.ty.width)))[i]?,?_,?_⟩
  ·grind [run_sizeOf]
  ·intro cells zc hzc sM
   have e:=hz zc hzc
   subst e
   simp only[Instr.build,ba,zeroValue,typeInfo,run_program,bw,hi,bP,hi3,run_underlying hu,zQ hsz]
   rw[sM]
   rfl
 ·rename_i n e hkd
  rw[hkd]at hds
  simp only at hds
  obtain⟨de,hde⟩:=nV.1 hkn
  have hsz:=run_sizeOf (w:=w) (hT _ _ hde)
  refine⟨λi=>some (i*de.ty.width,de.ty.width),?_,?_⟩
  ·rintro i k df (⟨Wb,fl,h1,_⟩|⟨n',e',h1,h2,h3⟩)
   ·rw[hds]at h1;cases h1
   ·rw[hds]at h1
    injection h1 with h1
    injection h1 with _ h1
    subst h1
    have e1:=run_sizeOf (w:=w) h2
    rw[hsz]at e1
    injection e1 with e1
    rw[h3,e1]
  ·intro cells zc hzc sM
   have e:=hz zc hzc
   subst e
   simp only[Instr.build,ba,zeroValue,typeInfo,run_program,bw,hi,bP,hi3,run_underlying hds,hsz]
   rw[sM]
   rfl
 ·cases hkn
theorem Gf(h:aP B F Sg cg σ a w){R:Type}{TT:Tab}(hT:cK P TT){t:TypeId}{dst:Nat}(hN:dst<B.N){own:Bool}{ps:List (Nat×Operand)}{KV:ar->Option R}{K:St->Option R}{r:R}(hk:lN TT σ t dst own ps KV K=some r):
 ∃ z,(Instr.build t (ps.map λp=>(p.1,a.eval p.2)).toArray).run P w=.ok z w/\((∃ e',KV e'=some r/\aF F w σ.L σ.U cg e' z)\/∃ σ' Sg' cg',K σ'=some r/\aP B F Sg' cg' σ' (a.put (some dst) z) w/\EF σ σ' dst):=by
 unfold lN at hk
 cases h1:TT t with
 |none=>rw[h1]at hk;cases hk
 |some d=>
 rw[h1]at hk
 simp only at hk
 have hd:=hT t d h1
 cases hag:d.ty.agg&&xT TT d
 ·simp_all
 rw[hag]at hk
 simp only[cond_true]at hk
 simp only[ag]at hag
 obtain⟨hag,hkn⟩:=hag
 cases hz:rdC d.ty d.zero with
 |none=>rw[hz]at hk;cases hk
 |some z=>
 rw[hz]at hk
 simp only at hk
 cases hes:oZ σ ps with
 |none=>rw[hes]at hk;cases hk
 |some es=>
 rw[hes]at hk
 simp only at hk
 obtain⟨place,hpl,bX⟩:=run_build (P:=P) (w:=w) hT hd hkn (ps:=ps.map λp=>(p.1,a.eval p.2))
 obtain⟨x',m',L',iy,S',g1,g2,g3,g4,g5⟩:=Ge h hT hd hpl ps es z _ σ.L d.zero.toArray af.none _ r hes hk (λ_=>.inr rfl) (by simpa using tY d.ty _ d.zero z (by cases own <;> first|exact xJ _|exact Cj _) hz) (λ_ h=>h.elim)
 refine⟨_,bX iy d.zero.toArray (by simp) g2,?_⟩
 cases own
 ·left
  simp only[cond_false]at g1
  cases hm:dE m'
  ·simp_all
  rw[hm]at g1
  simp only[cond_true]at g1
  exact⟨_,g1,iy.toList,Cv hm g3,by simp[VR,hag]⟩
 ·right
  simp only[cond_true]at g1
  cases hU:σ.U (dst*8)
  ·rw[hU]at g1
   simp only[cond_false]at g1
   have i1:=h.jQ (w':=w) rfl rfl rfl (aw _) (l:=dst*8) (b:=⟨0,d.ty,m',x'⟩) hU (upd L' (dst*8) (some ⟨0,d.ty,m',x'⟩)) (λ_ _ _=>rfl) g3 (aG _ _ _)
    (λj hj=>by rw[aW _ _ hj];exact g4 j)
    (λk hk=>by
     obtain⟨l2,b2,f1,f2,f3⟩:=g5 k hk
     refine⟨λj bj hj hbj hs=>?_,λhf=>h.ek l2 b2 f1 k f3 hf,h.lt l2 b2 f1 k f3,h.may l2 b2 f1 k f3⟩
     rw[aW _ _ hj]at hbj
     have iw:σ.L j=some bj:=by grind
     by_cases e:l2=j
     ·subst e;rw[f2]at hbj;cases hbj
     ·exact h.dis l2 j b2 bj e f1 iw k f3 hs)
   exact⟨_,_,_,g1,i1.vT hN (e:=.one (.hdr (dst*8) 0 [] ⟨d.ty,x'⟩)) (gg i1 (l:=dst*8) (b:=⟨0,d.ty,m',x'⟩) (aG _ _ _) (by simp[VR,hag])),mQ⟩
  ·rw[hU]at g1;cases g1
end
def Cw{R:Type}(want:Ty)(m:Md):List (Nat×ar)->(Nat->Option Lab)->(List want.T->(Nat->Option Lab)->Option R)->Option R
 |[],L,K=>K [] L
 |(_,e)::es,L,K=>sL L want e λy my L'=>bif pd want my m then Cw want m es L' λys L''=>K (y::ys) L'' else none
def firstM(L:Nat->Option Lab)(want:Ty):List (Nat×ar)->Md
 |[]=>.ro
 |(_,e)::_=>match e with
  |.hdr l _ [] _=>(match L l with|some b=>b.m|none=>.ro)
  |e=>uf e want
def pV:Nat->List (Nat×Operand)->Bool
 |_,[]=>true
 |k,(i,_)::ps=>Nat.beq i k&&pV (k+1) ps
def xV{R:Type}(d:TD)(σ:St)(dst len:Nat)(ps:List (Nat×Operand))(K:St->Option R):Option R:=
 bif σ.U (dst*8)then none else match oZ σ ps with
  |some es=>bif pV 0 ps&&(Nat.beq ps.length len&&(Nat.ble (len*d.ty.width) 16777216&&Nat.ble len 16777216))then
   Cw d.ty (firstM σ.L d.ty es) es σ.L λxs L=>K (σ.mk' L (dst*8) dst ⟨0,.sl d.ty,.own (firstM σ.L d.ty es),xs⟩)else none
  |none=>none
section
variable {P:Program} {B:dD} {F:af} {Sg:Nat->af} {cg:Nat->List Value} {σ:St} {a:Act} {w:World}
theorem Eb{te:Ty}{m me:Md}(hf:pd te m me=true){x:te.T}{cs:List Value}{S:af}(h:Rep F w te m x cs S):Rep F w te me x cs S:=by
 unfold pd at hf
 simp only[aJ,decide_eq_true_eq]at hf
 grind [kS]
def QZ:Value->Bool
 |.slice none 0 0=>true
 |.pointer none=>true
 |_=>false
def Q0:ar->Bool
 |.cst v=>QZ v
 |_=>false
def IH:Ty->Bool
 |.sl _=>true
 |.ptr _=>true
 |_=>false
def uq{R:Type}(L:Nat->Option Lab)(want:Ty)(m:Md)(e:ar)(K:want.T->(Nat->Option Lab)->Option R):Option R:=
 bif Q0 e&&(IH want&&m.eU)then asT e want λy=>K y L else sL L want e λy my L'=>bif pd want my m then K y L' else none
theorem MN{want:Ty}(ht:IH want=true){v:Value}(hn:QZ v=true){m:Md}(hm:m.eU=true){x:want.T}{cs:List Value}(hr:Rep F w want .ro x cs af.none)(hc:rdC want v.cells.toList=some x)(hv:VR want cs v):Rep F w want m x cs af.none:=by
 cases m with
 |ro=>cases hm
 |pr _ _=>cases hm
 |own m=>
  unfold QZ at hn
  split at hn
  ·cases want <;> simp only[IH,ap]at ht <;> simp[rdC,Value.cells]at hc
   subst hc
   simp[VR,Ty.agg]at hv
   obtain⟨rfl,_⟩:=hv
   exact⟨none,0,rfl,aw _,by simp[maxLen],.inl rfl⟩
  ·cases want <;> simp only[IH,ap]at ht <;> simp[rdC,Value.cells]at hc
   subst hc
   simp[VR,Ty.agg]at hv
   obtain⟨rfl,_⟩:=hv
   rfl
  ·cases hn
theorem zR(h:aP B F Sg cg σ a w){R:Type}{L:Nat->Option Lab}(hL:∀ j,L j=none\/L j=σ.L j){want:Ty}{m:Md}{e:ar}{K:want.T->(Nat->Option Lab)->Option R}{r:R}(hk:uq L want m e K=some r){v:Value}(he:aF F w σ.L σ.U cg e v):
 ∃ y L' cs S',K y L'=some r/\Rep F w want m y cs S'/\VR want cs v/\(∀ j,L' j=none\/L' j=L j)/\(∀ k,S' k->∃ l2 b2,L l2=some b2/\σ.L l2=some b2/\L' l2=none/\Sg l2 k):=by
 unfold uq at hk
 cases hb:Q0 e&&(IH want&&m.eU)
 ·rw[hb]at hk
  simp only[cond_false]at hk
  obtain⟨y,my,L1,cs1,S1,hk,hr1,hv1,hL1,hS1⟩:=uo h hL hk he
  cases hf:pd want my m
  ·simp_all
  rw[hf]at hk
  exact⟨y,L1,cs1,S1,hk,Eb hf hr1,hv1,hL1,hS1⟩
 ·rw[hb]at hk
  simp only[cond_true]at hk
  simp only[ag]at hb
  obtain⟨hn,ht,hm⟩:=hb
  unfold Q0 at hn
  split at hn
  case h_2=>cases hn
  rename_i u
  have hu:v=u:=he
  subst hu
  unfold asT at hk
  simp only at hk
  cases hvr:vrC want v
  ·simp_all
  have hk0:asT (.cst v) want (λy=>K y L)=some r:=by unfold asT;exact hk
  rw[hvr]at hk
  simp only[cond_true]at hk
  cases hc:rdC want v.cells.toList with
  |none=>rw[hc]at hk;cases hk
  |some x=>
   have hs:asT (.cst v) want (λy=>some y)=some x:=by unfold asT;simp only[hvr,cond_true,hc]
   obtain⟨x',cs,e1,hr,hv⟩:=gE hs he
   injection e1 with e1
   subst e1
   rw[hc]at hk
   exact⟨x',L,cs,af.none,hk,MN ht hn hm hr hc hv,hv,λ_=>.inr rfl,λ_ h=>h.elim⟩
theorem MO(h:aP B F Sg cg σ a w){R:Type}{want:Ty}{m:Md}:∀ (ps:List (Nat×Operand)) (es:List (Nat×ar)) (L:Nat->Option Lab) (K:List want.T->(Nat->Option Lab)->Option R) (r:R) (k:Nat) (cells:Array Value),oZ σ ps=some es->Cw want m es L K=some r->pV k ps=true->(∀ j,L j=none\/L j=σ.L j)->cells.size=(k+ps.length)*want.width->
 ∃ xs L' iy row S',K xs L'=some r/\Instr.fill (λi=>some (i*want.width,want.width)) cells (ps.map λp=>(p.1,a.eval p.2))=some iy/\iy.toList=cells.toList.take (k*want.width)++row/\bm (Rep F w want m) xs row S'/\xs.length=ps.length/\(∀ j,L' j=none\/L' j=L j)/\(∀ q,S' q->∃ l2 b2,L l2=some b2/\σ.L l2=some b2/\L' l2=none/\Sg l2 q):=by
 intro ps
 induction ps with
 |nil=>
  intro es L K r k cells he hk ho hL hs
  simp only[oZ,bh]at he
  subst he
  refine⟨[],L,cells,[],af.none,hk,rfl,?_,rfl,rfl,λ_=>.inr rfl,λ_ h=>h.elim⟩
  rw[bV,bK]
  simp_all
 |cons p ps ih=>
  obtain⟨i,o⟩:=p
  intro es L K r k cells he hk ho hL hs
  simp only[pV,ag]at ho
  have hik:=bI ho.1
  subst hik
  simp only[oZ]at he
  cases hop:opd σ o with
  |none=>rw[hop]at he;cases he
  |some e=>
  rw[hop]at he
  simp only at he
  cases hes:oZ σ ps with
  |none=>rw[hes]at he;cases he
  |some es'=>
  rw[hes]at he
  simp only[bh]at he
  subst he
  simp only[Cw]at hk
  obtain⟨y,my,L1,cs1,S1,hk,hr1,hv1,hL1,hS1⟩:=uo h hL hk (bA h hop)
  cases hf:pd want my m
  ·rw[hf]at hk;cases hk
  rw[hf]at hk
  simp only[cond_true]at hk
  have hy:=Eb hf hr1
  have hel:=aQ _ _ _ _ _ _ _ hr1
  have hvc:(a.eval o).cells.size=want.width:=by rw[<-bg,hv1.cells,hel]
  have hss:cells.size=(i+1+ps.length)*want.width:=by rw[hs];congr 1;simp;omega
  have hge:i*want.width+want.width<=cells.size:=by
   rw[hss,<-jC];exact hJ _ (by omega)
  obtain⟨c',sM,hc'⟩:=zP (place:=λi=>some (i*want.width,want.width)) (rest:=ps.map λp=>(p.1,a.eval p.2)) (i:=i) rfl hvc hge
  rw[hv1.cells]at hc'
  have Wr:c'.size=(i+1+ps.length)*want.width:=by
   rw[<-bg,hc',ak,ak,aL,bD,bg,hel]
   omega
  obtain⟨xs,L2,Cu,row,S2,g1,g2,g3,g4,g5,g6,g7⟩:=ih es' L1 (λys L''=>K (y::ys) L'') r (i+1) c' hes hk ho.2 (λj=>by
   rcases hL1 j with e|e
   ·exact .inl e
   ·rw[e];exact hL j) Wr
  refine⟨y::xs,L2,Cu,cs1++row,S1.or S2,g1,by rw[fH,sM];exact g2,?_,⟨cs1,row,S1,S2,rfl,hy,g4,λk h=>.inl h,λk h=>.inr h,λq h1 h2=>?_⟩,by simp[g5],λj=>?_,λq hq=>?_⟩
  ·rw[g3,hc',jC,aT _ cs1,<-aT]
   rw[kG (by rw[ak,aL,bg,hel];omega)]
   have:((cells.toList.take (i*want.width))++cs1).length=i*want.width+want.width:=by rw[ak,aL,bg,hel];omega
   rw[<-this,dj,aT]
  ·obtain⟨l2,b2,e1,e2,e3,e4⟩:=hS1 q h1
   obtain⟨l3,b3,f1,f2,f3,f4⟩:=g7 q h2
   by_cases e:l2=l3
   ·subst e;rw[e3]at f1;cases f1
   ·exact h.dis l2 l3 b2 b3 e e2 f2 q e4 f4
  ·rcases g6 j with e|e
   ·exact .inl e
   ·rw[e];exact hL1 j
  ·rcases hq with hq|hq
   ·obtain⟨l2,b2,e1,e2,e3,e4⟩:=hS1 q hq
    refine⟨l2,b2,e1,e2,?_,e4⟩
    rcases g6 l2 with e|e
    ·exact e
    ·rw[e];exact e3
   ·obtain⟨l3,b3,f1,f2,f3,f4⟩:=g7 q hq
    refine⟨l3,b3,?_,f2,f3,f4⟩
    rcases hL1 l3 with e|e
    ·rw[e]at f1;cases f1
    ·rw[<-e];exact f1
theorem tf{t e:TypeId}{d:TD}(hd:TOk P e d)(hu:P.underlying t=some (.slice e)){len:Nat}{parts:Array (Nat×Value)}(Ws:len*d.ty.width<=16777216)(sM:∀ cells:Array Value,cells.size=len*d.ty.width->∃ c',Instr.fill (λi=>some (i*d.ty.width,d.ty.width)) cells parts.toList=some c'/\True):
 ∃ cells:Array Value,cells.size=len*d.ty.width/\∀ c',Instr.fill (λi=>some (i*d.ty.width,d.ty.width)) cells parts.toList=some c'->(Instr.buildSlice t len parts).run P w=.ok (.slice (some ⟨w.heap.size,0,none⟩) len len) (w.alloc (.cells c' e)):=by
 obtain⟨i,z,hi,hi1,hi2,hi3,hi4⟩:=hd.vS
 have hs:¬len*d.ty.width > 2 ^ 24:=by omega
 by_cases hz:len*d.ty.width=0
 ·refine⟨(Array.range (len*d.ty.width)).map (λx=>(#[]:Array Value)[x % (#[]:Array Value).size]!),by simp,λc' hc=>?_⟩
  simp only[Instr.buildSlice,ba,run_underlying hu,bw,run_sizeOf hd,if_neg hs,if_pos hz,bP]
  simp_all [newRow]
 ·refine⟨(Array.range (len*d.ty.width)).map (λx=>z.cells[x % z.cells.size]!),by simp,λc' hc=>?_⟩
  simp only[Instr.buildSlice,ba,run_underlying hu,bw,run_sizeOf hd,if_neg hs,if_neg hz,bP,zeroValue,typeInfo,run_program,hi,hi3]
  simp_all [newRow]
theorem MP(h:aP B F Sg cg σ a w){R:Type}{t e:TypeId}{d:TD}(hd:TOk P e d)(ht:P.underlying t=some (.slice e)){dst len:Nat}(hN:dst<B.N){ps:List (Nat×Operand)}{K:St->Option R}{r:R}(hk:xV d σ dst len ps K=some r):
 ∃ σ' v w' Sg' cg',K σ'=some r/\(Instr.buildSlice t len (ps.map λp=>(p.1,a.eval p.2)).toArray).run P w=.ok v w'/\aP B F Sg' cg' σ' (a.put (some dst) v) w'/\EF σ σ' dst:=by
 unfold xV at hk
 cases hU:σ.U (dst*8)
 ·rw[hU]at hk
  simp only[cond_false]at hk
  cases hes:oZ σ ps with
  |none=>rw[hes]at hk;cases hk
  |some es=>
  rw[hes]at hk
  simp only at hk
  cases hb:pV 0 ps&&(Nat.beq ps.length len&&(Nat.ble (len*d.ty.width) 16777216&&Nat.ble len 16777216))
  ·simp_all
  rw[hb]at hk
  simp only[cond_true]at hk
  simp only[ag]at hb
  obtain⟨ho,hlen,hs,TQ⟩:=hb
  have hlen:=bI hlen
  have hs:=kJ hs
  have TQ:=kJ TQ
  subst hlen
  have key:=λ(cells:Array Value) (hc:cells.size=ps.length*d.ty.width)=>MO h ps es σ.L _ r 0 cells hes hk ho (λ_=>.inr rfl) (by simpa using hc)
  obtain⟨cells,hcs,bX⟩:=tf (w:=w) (parts:=(ps.map λp=>(p.1,a.eval p.2)).toArray) hd ht hs (λcells hc=>by
   obtain⟨xs,L',iy,row,S',_,g2,_⟩:=key cells hc
   exact⟨iy,g2,trivial⟩)
  obtain⟨xs,L',iy,row,S',g1,g2,g3,g4,g5,g6,g7⟩:=key cells hcs
  have eR:iy.toList=row:=by simpa using g3
  have hw:=bm.len (λy c S h=>aQ F w d.ty _ y c S h) g4
  obtain⟨Sg',cg',hi⟩:=h.newRow (t:=d.ty) (m:=firstM σ.L d.ty es) (x:=xs) (cs:=iy) (e:=e) (cap:=xs.length) (S0:=S') (by rw[<-hw,eR,dj];exact g4) (aw _) (by simp only[maxLen];omega) (by rw[<-hw,<-eR,bg];exact aw _) hU hN L' (λj _=>g6 j)
   (λk hk=>by obtain⟨l2,b2,_,e2,e3,e4⟩:=g7 k hk;exact⟨l2,b2,e2,e3,e4⟩) rfl
  grind [mQ]
 ·rw[hU]at hk;cases hk
def Gg{R:Type}(x y:ar)(K:ar->Option R):Option R:=
 match x,y with
 |.val (.int k) n,e=>asT e (.int k) λm=>K (.val (.int k) (if m<n then m else n))
 |e,.val (.int k) m=>asT e (.int k) λn=>K (.val (.int k) (if m<n then m else n))
 |_,_=>none
def Gi{R:Type}(x y:ar)(K:ar->Option R):Option R:=
 match x,y with
 |.val (.int k) n,e=>asT e (.int k) λm=>K (.val (.int k) (if n<m then m else n))
 |e,.val (.int k) m=>asT e (.int k) λn=>K (.val (.int k) (if n<m then m else n))
 |_,_=>none
end
section
variable {P:Program} {B:dD} {F:af} {Sg:Nat->af} {cg:Nat->List Value} {σ:St} {a:Act} {w:World}
theorem aP.step(h:aP B F Sg cg σ a w){w':World}{F':af}{Sg':Nat->af}{L':Nat->Option Lab}{S:af}(fr:Fr w S w')
 (Wt:∀ k,S k->k<B.w0.heap.size->B.S0 k) (hSF:Dis S F)
 (hL:∀ l b',L' l=some b'->(σ.L l=some b'/\Sg' l=Sg l/\Dis (Sg l) S)\/(∃ b,σ.L l=some b/\b.v<b'.v/\b'.t=b.t/\Rep F' w' b'.t b'.m b'.x (cg l) (Sg' l)))
 (Wu:∀ l l' b b',l≠l'->L' l=some b->L' l'=some b'->Dis (Sg' l) (Sg' l'))
 (TS:∀ l b,L' l=some b->Dis (Sg' l) F') (lt':∀ l b,L' l=some b->∀ k,Sg' l k->k<w'.heap.size) (Wv:∀ l b,L' l=some b->∀ k,Sg' l k->k<B.w0.heap.size->B.S0 k)
 (hFF:Sub F F') (fl':∀ k,F' k->k<w'.heap.size) (fs':∀ k,F' k->k<B.w0.heap.size->¬B.S0 k->B.F0 k):aP B F' Sg' cg {σ with L:=L'} a w':=by
 have hFw:∀ k,F k->w'.heap[k]?=w.heap[k]?:=λk hk=>fr.block k (h.fl k hk) (λhs=>hSF k hs hk)
 have mO:∀ j bj,σ.L j=some bj->Dis (Sg j) S->∀ k,Sg j k->w'.heap[k]?=w.heap[k]?:=λj bj hbj hd k hk=>fr.block k (h.lt j bj hbj k hk) (λhs=>hd k hk hs)
 refine
 {fr:=⟨fr.os.trans h.fr.os,fr.tape.trans h.fr.tape,fr.output.trans h.fr.output,bE h.fr.size fr.size,λk hk hn=>(fr.block k (bz hk h.fr.size) (λhs=>hn (Wt k hs hk))).trans (h.fr.block k hk hn)⟩
  size:=h.size
  defers:=h.defers
  f0:=h.f0.trans hFF
  fl:=fl'
  fs:=fs'
  lab:=?_
  dis:=Wu
  ek:=TS
  lt:=lt'
  may:=Wv
  used:=?_
  fix:=λj cs' hf=>⟨(h.fix j cs' hf).1,λbj hbj=>by
   rcases hL j bj hbj with⟨h1,_⟩|⟨b,h1,_⟩
   ·exact(h.fix j cs' hf).2 bj h1
   ·exact(h.fix j cs' hf).2 b h1⟩
  ent:=?_}
 ·intro j bj hbj
  rcases hL j bj hbj with⟨h1,h2,h3⟩|⟨b,h1,h2,h3,h4⟩
  ·rw[h2];exact aU hFF hFw _ _ _ _ _ _ (h.lab j bj h1) (Sub.refl _) (mO j bj h1 h3)
  ·exact h4
 ·intro j bj hbj
  rcases hL j bj hbj with⟨h1,h2,h3⟩|⟨b,h1,h2,h3,h4⟩
  ·exact h.used j bj h1
  ·exact h.used j b h1
 ·intro t e he
  refine(h.ent t e he).imp λe v hv=>?_
  cases e with
  |val t x=>
   obtain⟨cs,h1,h2⟩:=hv
   exact⟨cs,aU hFF hFw t .ro x cs _ _ h1 (Sub.refl _) (λ_ h=>h.elim),h2⟩
  |cst u=>exact hv
  |view j te lo hi=>
   refine⟨hv.1,λbj hbj=>?_⟩
   rcases hL j bj hbj with⟨g1,g2,g3⟩|⟨b,g1,g2,g3,g4⟩
   ·exact hv.2 bj g1
   ·exact hv.2 b g1
  |kT t x=>
   obtain⟨ad,ds,h1,h2,h3,h4⟩:=hv
   exact⟨ad,ds,h1,hFF _ h2,h3.congr (hFw _ h2),aU hFF hFw t .ro x ds _ _ h4 (Sub.refl _) (λ_ h=>h.elim)⟩
  |hdr j n π c=>
   refine⟨hv.1,λbj hbj=>?_⟩
   rcases hL j bj hbj with⟨g1,g2,g3⟩|⟨b,g1,g2,g3,g4⟩
   ·obtain⟨h0,h1,h2⟩:=hv.2 bj g1
    refine⟨h0,h1,λhn=>?_⟩
    obtain⟨h3,h4,h5⟩:=h2 hn
    refine⟨h3,h4,?_⟩
    rw[resolve_congr π bj.t bj.m bj.x (cg j) (Sg j) none (h.lab j bj g1) h3 (by rw[h4];rfl) (mO j bj g1 g3)]
    exact h5
   ·obtain⟨h0,h1,h2⟩:=hv.2 b g1
    exact⟨by omega,λhp=>by rw[g3];exact h1 hp,λhn=>by omega⟩
  |adr j n π c=>
   refine⟨hv.1,λbj hbj=>?_⟩
   rcases hL j bj hbj with⟨g1,g2,g3⟩|⟨b,g1,g2,g3,g4⟩
   ·obtain⟨h0,h1,h2⟩:=hv.2 bj g1
    refine⟨h0,h1,λhn=>?_⟩
    obtain⟨h3,h4,h5⟩:=h2 hn
    refine⟨h3,h4,?_⟩
    rw[resolve_congr π bj.t bj.m bj.x (cg j) (Sg j) none (h.lab j bj g1) h3 (by rw[h4];rfl) (mO j bj g1 g3)]
    exact h5
   ·obtain⟨h0,h1,h2⟩:=hv.2 b g1
    exact⟨by omega,λhp p o hr=>h1 hp p o (by rw[<-g3];exact hr),λhn=>by omega⟩
def ur(l:Nat)(b:Lab):ar->ar
 |.hdr j n π c=>bif Nat.beq j l then(bif Nat.beq n b.v then .val c.t c.x else bif π.isEmpty then .val b.t b.x else .hdr j n π c)else .hdr j n π c
 |e=>e
def frz(l:Nat)(b:Lab):Ent->Ent
 |.one e=>.one (ur l b e)
 |e=>e
def St.frz(σ:St)(l:Nat)(b:Lab):St:={σ with E:=λt=>(σ.E t).map (Rf.frz l b),L:=upd σ.L l none}
theorem aP.frz(h:aP B F Sg cg σ a w){l:Nat}{b:Lab}(hl:σ.L l=some b):aP B (F.or (Sg l)) Sg cg (σ.frz l b) a w:=
 {h.freeze hl with
  ent:=λt e he=>by
   cases hE:σ.E t with
   |none=>simp[St.frz,hE]at he
   |some e0=>
    simp only[St.frz,hE,dy,bh]at he
    subst he
    have hfz:=(h.freeze hl).ent t e0 hE
    have h0:=h.ent t e0 hE
    cases e0 with
    |tup es=>exact hfz
    |clo f es=>exact hfz
    |one e=>
     cases e with
     |hdr j n π c=>
      show aF _ _ _ _ _ (ur l b (.hdr j n π c)) _
      cases hb:Nat.beq j l
      ·rw[show ur l b (.hdr j n π c)=.hdr j n π c by simp only[ur,hb,cond_false]];exact hfz
      have e1:=bI hb
      subst e1
      cases hb2:Nat.beq n b.v
      ·cases hp:π.isEmpty
       ·rw[show ur j b (.hdr j n π c)=.hdr j n π c by simp only[ur,hb,hb2,hp,cond_false,cond_true]];exact hfz
       ·rw[show ur j b (.hdr j n π c)=.val b.t b.x by simp only[ur,hb,hb2,hp,cond_false,cond_true]]
        have hp':π=[]:=by cases π <;> simp_all
        exact⟨cg j,jL (λk h=>.inl h) _ _ _ _ _ _ (h.lab j b hl) (λk hk=>.inr hk),(h0.2 b hl).2.1 hp'⟩
      ·rw[show ur j b (.hdr j n π c)=.val c.t c.x by simp only[ur,hb,hb2,cond_true]]
       have e2:=bI hb2
       obtain⟨g1,g2,g3⟩:=(h0.2 b hl).2.2 e2
       obtain⟨ds,s',S',q1,q2,q3,_⟩:=focus F w π b.t b.m b.x (cg j) (Sg j) none c.t c.x (h.lab j b hl) g2 g1
       refine⟨ds,jL (λk h=>.inl h) _ _ _ _ _ _ q2 (λk hk=>.inr (q3 k hk)),?_⟩
       rw[eJ _ _ _ _ g2]
       exact g3 _ _ q1
     |val t x=>exact hfz
     |cst u=>exact hfz
     |kT t x=>exact hfz
     |adr j n π c=>exact hfz
     |view j te lo hi=>exact hfz}
def dS:List (Ty×Md)->Ty
 |[]=>.unit
 |p::ps=>.pair p.1 (dS ps)
def jj(F:af)(w:World):(ps:List (Ty×Md))->(dS ps).T->List Value->af->Prop
 |[],_,vs,_=>vs=[]
 |p::ps,x,vs,S=>∃ v vs' cs S1 S2,vs=v::vs'/\Rep F w p.1 p.2 x.1 cs S1/\VR p.1 cs v/\jj F w ps x.2 vs' S2/\Sub S1 S/\Sub S2 S/\Dis S1 S2
theorem jj.len{ps:List (Ty×Md)}:∀ {x:(dS ps).T} {vs:List Value} {S:af},jj F w ps x vs S->vs.length=ps.length:=by
 induction ps with
 |nil=>intro x vs S h;cases h;rfl
 |cons p ps ih=>rintro x vs S ⟨v,vs',cs,S1,S2,rfl,_,_,h,_⟩;simp[ih h]
theorem jj.mono{ps:List (Ty×Md)}:∀ {x:(dS ps).T} {vs:List Value} {S S':af},jj F w ps x vs S->Sub S S'->jj F w ps x vs S':=by
 induction ps with
 |nil=>intro x vs S S' h _;exact h
 |cons p ps ih=>rintro x vs S S' ⟨v,vs',cs,S1,S2,e,h1,h2,h3,s1,s2,d⟩ hs;exact⟨v,vs',cs,S1,S2,e,h1,h2,h3,s1.trans hs,s2.trans hs,d⟩
def cz:List (Ty×Md)->Bool
 |[]=>true
 |p::ps=>closed p.1 p.2&&cz ps
theorem jj.closed{F':af}{ps:List (Ty×Md)}(hc:cz ps=true):∀ {x:(dS ps).T} {vs:List Value} {S:af},jj F w ps x vs S->jj F' w ps x vs S:=by
 induction ps with
 |nil=>intro x vs S h;exact h
 |cons p ps ih=>
  rintro x vs S ⟨v,vs',cs,S1,S2,e,h1,h2,h3,r⟩
  simp only[cz,ag]at hc
  exact⟨v,vs',cs,S1,S2,e,Ch _ _ hc.1 _ _ _ h1,h2,ih hc.2 h3,r⟩
def Cx:List Value->Value
 |[u]=>u
 |ws=>.tuple ws.toArray
def TU(ws:List Value)(v:Value):Prop:=v=Cx ws
structure Callee where
 ps:List (Ty×Md)
 rs:List (Ty×Md)
 mi:List Nat
 ms:List (Ty×Md)
 den:(dS ps).T->Option ((dS rs).T×(dS ms).T)
def us(c:Callee)(r:(dS c.rs).T×(dS c.ms).T)(F:af)(w:World)(S:af)(vs:List Value):Ending->World->Prop
 |.returned v,w'=>∃ ws F' Sr Sm,TU ws v/\jj F' w' c.rs r.1 ws Sr/\jj F' w' c.ms r.2 (c.mi.map λi=>vs.getD i undef) Sm/\Dis Sr Sm/\Fr w S w'/\Sub F F'/\(∀ k,F' k->k<w'.heap.size)/\(∀ k,F' k->k<w.heap.size->¬S k->F k)/\
  (∀ k,Sr k\/Sm k->k<w'.heap.size/\¬F' k/\(k<w.heap.size->S k))
 |_,_=>False
def fL(P:Program)(f:FuncId)(c:Callee):Prop:=
 ∀ x r,c.den x=some r->∀ (F:af) (w:World) (S:af) (vs:List Value),jj F w c.ps x vs S->Dis S F->(∀ k,F k->k<w.heap.size)->(∀ k,S k->k<w.heap.size)->Gh F w->Calls P f vs.toArray w (us c r F w S vs)
def asN{R:Type}(e:ar)(want:Ty)(K:want.T->Option R):Option R:=
 match e,want,K with
 |.val (.sl a) x,.nl b,K=>if h:a=b then(bif List.isEmpty (x:List a.T)then none else K (h ▸ x))else none
 |.val (.nl a) x,.sl b,K=>if h:a=b then K (h ▸ x)else none
 |e,want,K=>asT e want K
theorem II{R:Type}{L:Nat->Option Lab}{U:Nat->Bool}{e:ar}{want:Ty}{K:want.T->Option R}{r:R}(h:asN e want K=some r){v:Value}(he:aF F w L U cg e v):
 ∃ x cs,K x=some r/\Rep F w want .ro x cs af.none/\VR want cs v:=by
 unfold asN at h
 split at h
 ·rename_i a x b K0
  split at h
  case isFalse=>cases h
  rename_i hab
  subst hab
  cases hx:List.isEmpty (x:List a.T)
  ·rw[hx]at h
   obtain⟨cs,h1,h2⟩:=he
   exact⟨x,cs,h,⟨h1,λe=>by rw[e]at hx;cases hx⟩,h2⟩
  simp_all
 ·rename_i a x b K0
  split at h
  case isFalse=>cases h
  rename_i hab
  subst hab
  obtain⟨cs,h1,h2⟩:=he
  exact⟨x,cs,h,h1.1,h2⟩
 ·exact gE h he
theorem mU{R:Type}{e:ar}{want:Ty}{K:want.T->Option R}{r:R}(h:asT e want K=some r):∃ x,K x=some r:=by
 unfold asT at h
 grind
theorem Q1{R:Type}{e:ar}{want:Ty}{K:want.T->Option R}{r:R}(h:asN e want K=some r):∃ x,K x=some r:=by
 unfold asN at h
 split at h
 ·grind
 all_goals grind [mU]
def toN(t want:Ty)(x:t.T):Option want.T:=
 match t,want,x with
 |.sl a,.nl b,x=>if h:a=b then(bif List.isEmpty (x:List a.T)then none else some (h ▸ x))else none
 |t,want,x=>toP t want x
theorem toN_ok{t want:Ty}{x:t.T}{y:want.T}(h:toN t want x=some y){w:World}{cs:List Value}{S:af}(hr:Rep F w t .ro x cs S):Rep F w want .ro y cs S:=by
 unfold toN at h
 split at h
 ·rename_i a b x
  split at h
  case isFalse=>cases h
  rename_i hab
  subst hab
  cases hx:List.isEmpty (x:List a.T)
  ·rw[hx]at h
   injection h with h
   subst h
   exact⟨hr,λe=>by
    have e2:(x:List a.T)=[]:=e
    rw[e2]at hx;cases hx⟩
  simp_all
 ·exact toP_ok h hr
theorem toN_agg{t want:Ty}{x:t.T}{y:want.T}(h:toN t want x=some y):want.agg=t.agg:=by
 unfold toN at h
 split at h
 ·rfl
 ·exact toP_agg h
theorem toN_vr{t want:Ty}{x:t.T}{y:want.T}(h:toN t want x=some y){cs:List Value}{v:Value}(hv:VR t cs v):VR want cs v:=by
 unfold VR at *
 grind [toN_agg]
def xW{R:Type}(σ:St)(L:Nat->Option Lab)(t:Ty)(m:Md)(e:ar)(K:t.T->(Nat->Option Lab)->List Nat->Option R):Option R:=
 bif decide (m=.ro)then(match e with
  |.hdr l n π c=>kV σ (.hdr l n π c) λl _ _ c=>(match toN c.t t c.x with|some y=>K y L [l]|none=>none)
  |e=>asN (upP e t) t λx=>K x L [])
 else uq L t m e λy L'=>K y L' []
def kX{R:Type}(σ:St):(ps:List (Ty×Md))->List ar->(Nat->Option Lab)->((dS ps).T->(Nat->Option Lab)->List Nat->Option R)->Option R
 |[],[],L,K=>K () L []
 |p::ps,e::es,L,K=>xW σ L p.1 p.2 e λx L1 b1=>kX σ ps es L1 λxs L2 b2=>K (x,xs) L2 (b1++b2)
 |_,_,_,_=>none
theorem MQ(h:aP B F Sg cg σ a w){R:Type}{L:Nat->Option Lab}(hL:∀ j,L j=none\/L j=σ.L j){t:Ty}{m:Md}{e:ar}{K:t.T->(Nat->Option Lab)->List Nat->Option R}{r:R}(hk:xW σ L t m e K=some r){v:Value}(he:aF F w σ.L σ.U cg e v):
 ∃ y L' bs cs S',K y L' bs=some r/\(∀ F',Sub F F'->(∀ l∈bs,Sub (Sg l) F')->Rep F' w t m y cs S')/\VR t cs v/\(∀ j,L' j=none\/L' j=L j)/\(∀ k,S' k->∃ l2 b2,L l2=some b2/\σ.L l2=some b2/\L' l2=none/\Sg l2 k)/\(∀ l∈bs,∃ b,σ.L l=some b):=by
 unfold xW at hk
 cases hm:decide (m=.ro)
 ·rw[hm]at hk
  simp only[cond_false]at hk
  obtain⟨y,L1,cs1,S1,hk,hr1,hv1,hL1,hS1⟩:=zR h hL hk he
  exact⟨y,L1,[],cs1,S1,hk,λF' hF _=>aU hF (λ_ _=>rfl) _ _ _ _ _ _ hr1 (Sub.refl _) (λ_ _=>rfl),hv1,hL1,hS1,λl hl=>by simp at hl⟩
 ·rw[hm]at hk
  simp only[cond_true]at hk
  have hm:=of_decide_eq_true hm
  subst hm
  split at hk
  ·rename_i l n π c _hk0
   obtain⟨l,b,π,c,hl,hk,hg,ho,ds,s',S',cf,bF,fy,fY,hv⟩:=fJ h hk he
   split at hk
   ·rename_i y hct
    refine⟨y,L,[l],ds,af.none,hk,λF' hF hb=>toN_ok hct (jL hF _ _ _ _ _ _ bF (λk hk=>hb l (by simp) k (fy k hk))),toN_vr hct hv,λ_=>.inr rfl,λ_ h=>h.elim,λl' hl'=>?_⟩
    simp at hl'
    subst hl'
    exact⟨b,hl⟩
   ·cases hk
  ·obtain⟨x,cs,hk,hr,hv⟩:=II hk (QX he)
   exact⟨x,L,[],cs,af.none,hk,λF' hF _=>aU hF (λ_ _=>rfl) _ _ _ _ _ _ hr (Sub.refl _) (λ_ _=>rfl),hv,λ_=>.inr rfl,λ_ h=>h.elim,λl hl=>by simp at hl⟩
theorem zT(h:aP B F Sg cg σ a w){R:Type}:∀ (ps:List (Ty×Md)) (es:List ar) (vs:List Value) (L:Nat->Option Lab) (K:(dS ps).T->(Nat->Option Lab)->List Nat->Option R) (r:R),kX σ ps es L K=some r->cC F w σ.L σ.U cg es vs->(∀ j,L j=none\/L j=σ.L j)->
 ∃ x L' bs S',K x L' bs=some r/\(∀ F',Sub F F'->(∀ l∈bs,Sub (Sg l) F')->jj F' w ps x vs S')/\(∀ j,L' j=none\/L' j=L j)/\(∀ k,S' k->∃ l2 b2,L l2=some b2/\σ.L l2=some b2/\L' l2=none/\Sg l2 k)/\(∀ l∈bs,∃ b,σ.L l=some b):=by
 intro ps
 induction ps with
 |nil=>
  intro es vs L K r hk he hL
  cases es with
  |nil=>exact⟨(),L,[],af.none,hk,λ_ _ _=>he,λ_=>.inr rfl,λ_ h=>h.elim,λl hl=>by simp at hl⟩
  |cons e es=>cases hk
 |cons p ps ih=>
  intro es vs L K r hk he hL
  cases es with
  |nil=>cases hk
  |cons e es=>
   obtain⟨v,vr,rfl,he1,he2⟩:=he
   simp only[kX]at hk
   obtain⟨y,L1,b1,cs,S1,hk,hr,hv,hL1,hS1,hb1⟩:=MQ h hL hk he1
   obtain⟨x,L2,b2,S2,hk,hr2,hL2,hS2,hb2⟩:=ih es vr L1 _ r hk he2 (λj=>by
    rcases hL1 j with e|e
    ·exact .inl e
    ·rw[e];exact hL j)
   refine⟨(y,x),L2,b1++b2,S1.or S2,hk,λF' hF hb=>⟨v,vr,cs,S1,S2,rfl,hr F' hF (λl hl=>hb l (by simp[hl])),hv,hr2 F' hF (λl hl=>hb l (by simp[hl])),λk h=>.inl h,λk h=>.inr h,λq h1 h2=>?_⟩,λj=>?_,λq hq=>?_,λl hl=>?_⟩
   ·obtain⟨l2,b2,e1,e2,e3,e4⟩:=hS1 q h1
    obtain⟨l3,b3,f1,f2,f3,f4⟩:=hS2 q h2
    by_cases e:l2=l3
    ·subst e;rw[e3]at f1;cases f1
    ·exact h.dis l2 l3 b2 b3 e e2 f2 q e4 f4
   ·rcases hL2 j with e|e
    ·exact .inl e
    ·rw[e];exact hL1 j
   ·rcases hq with hq|hq
    ·obtain⟨l2,b2,e1,e2,e3,e4⟩:=hS1 q hq
     refine⟨l2,b2,e1,e2,?_,e4⟩
     rcases hL2 l2 with e|e
     ·exact e
     ·rw[e];exact e3
    ·obtain⟨l3,b3,f1,f2,f3,f4⟩:=hS2 q hq
     refine⟨l3,b3,?_,f2,f3,f4⟩
     rcases hL1 l3 with e|e
     ·rw[e]at f1;cases f1
     ·rw[<-e];exact f1
   ·rcases au.1 hl with hl|hl
    ·exact hb1 l hl
    ·exact hb2 l hl
end
def ah{A R:Type}(o:Option A)(k:A->Option R):Option R:=match o with|some a=>k a|none=>none
def pe(σ:St)(es:List ar):List Nat->(ms:List (Ty×Md))->(dS ms).T->(Nat->Option Lab)->Option (Nat->Option Lab)
 |[],[],_,L=>some L
 |i::mi,p::ms,y,L=>match es[i]? with
  |some (.hdr l _ [] _)=>(match σ.L l with
   |some b=>bif(L l).isNone then(match toP p.1 b.t y.1 with|some y1=>pe σ es mi ms y.2 (upd L l (some ⟨b.v+1,b.t,p.2,y1⟩))|none=>none)else none
   |none=>none)
  |_=>none
 |_,_,_,_=>none
def rD{R:Type}:(rs:List (Ty×Md))->(dS rs).T->Nat->St->(St->List ar->Option R)->Option R
 |[],_,_,σ,K=>K σ []
 |p::rs,x,key,σ,K=>bif dE p.2 then rD rs x.2 (key+1) σ λσ' es=>K σ' (.val p.1 x.1::es)
  else bif σ.U key then none else rD rs x.2 (key+1) (σ.TG key ⟨0,p.1,p.2,x.1⟩) λσ' es=>K σ' (.hdr key 0 [] ⟨p.1,x.1⟩::es)
def IJ:List ar->Ent
 |[e]=>.one e
 |es=>.tup es
def iT{R:Type}(σ:St)(dst:Option Nat)(c:Callee)(es:List ar)(K:St->Option R):Option R:=
 kX σ c.ps es σ.L λx L bs=>
  bif((cz c.rs&&cz c.ms)||bs.isEmpty)&&bs.all λl=>(L l).isSome then
   ah (c.den x) λr=>match pe σ es c.mi c.ms r.2 L with
    |some L2=>(match dst with
     |some d=>rD c.rs r.1 (d*8+2) {σ with L:=L2} λσ' es=>K {σ' with E:=upd σ'.E d (some (IJ es))}
     |none=>K {σ with L:=L2})
    |none=>none
  else none
section
variable {P:Program} {B:dD} {F:af} {Sg:Nat->af} {cg:Nat->List Value} {σ:St} {a:Act} {w:World}
theorem VR.inj{t:Ty}{cs cs':List Value}{v:Value}(h:VR t cs v)(h':VR t cs' v):cs=cs':=by rw[<-h.cells,h'.cells]
theorem cC.get{L:Nat->Option Lab}{U:Nat->Bool}:∀ {es:List ar} {vs:List Value} (i:Nat) (e:ar),cC F w L U cg es vs->es[i]?=some e->aF F w L U cg e (vs.getD i undef):=by
 intro es
 induction es with
 |nil=>intro vs i e _ h;simp at h
 |cons e0 es ih=>
  rintro vs i e ⟨v,r,rfl,h1,h2⟩ hi
  grind
def Q2(f:Nat->af)(l:Nat)(S:af):Nat->af:=λj=>if j=l then S else f j
theorem oA(f:Nat->af)(l:Nat)(S:af):Q2 f l S l=S:=if_pos rfl
theorem xX(f:Nat->af){l j:Nat}(S:af)(h:j≠l):Q2 f l S j=f j:=if_neg h
theorem IK{σ:St}{es:List ar}{vs:List Value}(he:cC F w σ.L σ.U cg es vs){F2:af}{w':World}:∀ (mi:List Nat) (ms:List (Ty×Md)) (y:(dS ms).T) (L L2:Nat->Option Lab) (Sm:af),pe σ es mi ms y L=some L2->jj F2 w' ms y (mi.map λi=>vs.getD i undef) Sm->
 ∃ Sg2:Nat->af,∀ l,(L2 l=L l/\Sg2 l=af.none)\/(L l=none/\∃ b b',σ.L l=some b/\L2 l=some b'/\b.v<b'.v/\b'.t=b.t/\Rep F2 w' b'.t b'.m b'.x (cg l) (Sg2 l)/\Sub (Sg2 l) Sm/\∀ l',l'≠l->Dis (Sg2 l) (Sg2 l')):=by
 intro mi
 induction mi with
 |nil=>
  intro ms y L L2 Sm hk ha
  cases ms with
  |nil=>simp only[pe,bh]at hk;subst hk;exact⟨λ_=>af.none,λl=>.inl ⟨rfl,rfl⟩⟩
  |cons _ _=>cases hk
 |cons i mi ih=>
  intro ms y L L2 Sm hk ha
  cases ms with
  |nil=>cases hk
  |cons p ms=>
   simp only[pe]at hk
   split at hk
   ·rename_i l n c hei
    split at hk
    ·rename_i b hl
     cases hb:(L l).isNone
     ·rw[hb]at hk;cases hk
     rw[hb]at hk
     simp only[cond_true]at hk
     simp only[Option.isNone_iff_eq_none]at hb
     cases hty:toP p.1 b.t y.1 with
     |none=>rw[hty]at hk;cases hk
     |some y1=>
     rw[hty]at hk
     simp only at hk
     obtain⟨v,vs',cs,S1,S2,e,h1,h2,h3,s1,s2,d⟩:=ha
     simp only[fH,e8]at e
     obtain⟨e1,e2⟩:=e
     rw[<-e2]at h3
     obtain⟨Sg2,hSg⟩:=ih ms y.2 _ L2 S2 hk h3
     have hv:=((he.get i _ hei).2 b hl).2.1 rfl
     rw[e1]at hv
     have hcs:=hv.inj (toP_vr hty h2)
     have fy:∀ l',l'≠l->Sub (Sg2 l') S2:=λl' _=>by
      rcases hSg l' with⟨_,e⟩|⟨_,_,_,_,_,_,_,_,e,_⟩
      ·rw[e];exact λ_ h=>h.elim
      ·exact e
     refine⟨Q2 Sg2 l S1,λj=>?_⟩
     by_cases hj:j=l
     ·subst hj
      right
      rcases hSg j with⟨e3,_⟩|⟨e3,_⟩
      ·refine⟨hb,b,⟨b.v+1,b.t,p.2,y1⟩,hl,by rw[e3,aG],cH _,rfl,?_,?_,λl' hl'=>?_⟩
       ·have q:∀ c' S',c'=cs->S'=S1->Rep F2 w' b.t p.2 y1 c' S':=by rintro _ _ rfl rfl;exact toP_ok hty h1
        exact q _ _ hcs (oA _ _ _)
       ·rw[oA];exact s1
       ·rw[oA,xX _ _ hl'];exact d.mono (Sub.refl _) (fy l' hl')
      ·rw[aG]at e3;cases e3
     ·rw[xX _ _ hj]
      rcases hSg j with⟨e3,e4⟩|⟨e3,b0,b0',f1,f2,f3,f4,f5,f6,f7⟩
      ·left;exact⟨e3.trans (aW _ _ hj),e4⟩
      ·right
       rw[aW _ _ hj]at e3
       refine⟨e3,b0,b0',f1,f2,f3,f4,f5,f6.trans s2,λl' hl'=>?_⟩
       by_cases e:l'=l
       ·subst e;rw[oA];exact(d.mono (Sub.refl _) f6).symm
       ·rw[xX _ _ e];exact f7 l' hl'
    ·cases hk
   ·cases hk
theorem MR{R:Type}{w':World}{F2:af}:∀ (rs:List (Ty×Md)) (x:(dS rs).T) (key:Nat) (σ:St) (Sg:Nat->af) (cg:Nat->List Value) (K:St->List ar->Option R) (r:R) (ws:List Value) (Sr:af),aP B F2 Sg cg σ a w'->rD rs x key σ K=some r->jj F2 w' rs x ws Sr->
 (∀ k,Sr k->(∀ j bj,σ.L j=some bj->¬Sg j k)/\¬F2 k/\k<w'.heap.size/\(k<B.w0.heap.size->B.S0 k))->
 ∃ σ' Sg' cg' es,K σ' es=some r/\aP B F2 Sg' cg' σ' a w'/\cC F2 w' σ'.L σ'.U cg' es ws/\σ'.E=σ.E/\(∀ j,σ.U j=true->σ'.U j=true/\σ'.L j=σ.L j/\cg' j=cg j):=by
 intro rs
 induction rs with
 |nil=>intro x key σ Sg cg K r ws Sr h hk ha _;exact⟨σ,Sg,cg,[],hk,h,ha,rfl,λ_ h=>⟨h,rfl,rfl⟩⟩
 |cons p rs ih=>
  rintro x key σ Sg cg K r ws Sr h hk ⟨v,vs',cs,S1,S2,rfl,h1,h2,h3,s1,s2,d⟩ hS
  simp only[rD]at hk
  cases hm:dE p.2
  ·rw[hm]at hk
   simp only[cond_false]at hk
   cases hU:σ.U key
   ·rw[hU]at hk
    simp only[cond_false]at hk
    have i1:=h.jQ (w':=w') rfl rfl rfl (aw _) (l:=key) (b:=⟨0,p.1,p.2,x.1⟩) hU (upd σ.L key (some ⟨0,p.1,p.2,x.1⟩)) (λ_ _ _=>rfl) h1 (aG _ _ _) (λj hj=>.inr (aW _ _ hj))
     (λk hk=>⟨λj bj hj hbj=>by rw[aW _ _ hj]at hbj;exact(hS k (s1 k hk)).1 j bj hbj,(hS k (s1 k hk)).2⟩)
    obtain⟨σ',Sg',cg',es,g1,g2,g3,g4,g5⟩:=ih x.2 (key+1) _ _ _ _ r vs' S2 i1 hk h3 (λk hk=>⟨λj bj hbj hs=>by
     by_cases hj:j=key
     ·rw[if_pos hj]at hs;exact d k hs hk
     ·rw[if_neg hj]at hs
      rcases fv hbj with⟨e,_⟩|⟨_,e⟩
      ·exact hj e
      ·exact(hS k (s2 k hk)).1 j bj e hs,(hS k (s2 k hk)).2⟩)
    have vZ:=g5 key (by simp)
    refine⟨σ',Sg',cg',_,g1,g2,⟨v,vs',rfl,?_,g3⟩,g4,λj hj=>?_⟩
    ·have hl:σ'.L key=some ⟨0,p.1,p.2,x.1⟩:=by rw[vZ.2.1];exact aG _ _ _
     exact gg g2 hl (by rw[vZ.2.2];simpa using h2)
    grind [aW]
   simp_all
  ·rw[hm]at hk
   simp only[cond_true]at hk
   obtain⟨σ',Sg',cg',es,g1,g2,g3,g4,g5⟩:=ih x.2 (key+1) σ Sg cg _ r vs' S2 h hk h3 (λk hk=>hS k (s2 k hk))
   exact⟨σ',Sg',cg',_,g1,g2,⟨v,vs',rfl,⟨cs,eI _ _ hm _ _ _ _ h1,h2⟩,g3⟩,g4,g5⟩
theorem IL{L:Nat->Option Lab}{U:Nat->Bool}{es:List ar}{ws:List Value}(g3:cC F w L U cg es ws):iu F w L U cg (IJ es) (Cx ws):=by
 cases es with
 |nil=>cases g3;exact⟨[],rfl,rfl⟩
 |cons e1 es1=>
  obtain⟨v1,r1,rfl,h1,h2⟩:=g3
  cases es1 with
  |nil=>cases h2;exact h1
  |cons e2 es2=>
   obtain⟨v2,r2,rfl,h3,h4⟩:=h2
   exact⟨v1::v2::r2,rfl,v1,v2::r2,rfl,h1,v2,r2,rfl,h3,h4⟩
def EFo(σ σ':St)(dst:Option Nat):Prop:=∀ j,dst≠some j->σ'.E j=σ.E j
theorem zU(h:aP B F Sg cg σ a w){R:Type}{f:FuncId}{c:Callee}(hf:fL P f c){es:List ar}{vs:List Value}(he:cC F w σ.L σ.U cg es vs){dst:Option Nat}(hN:∀ d,dst=some d->d<B.N){K:St->Option R}{r:R}(hk:iT σ dst c es K=some r):
 Calls P f vs.toArray w λ
  |.returned v,w'=>∃ σ' F' Sg' cg',K σ'=some r/\aP B F' Sg' cg' σ' (a.put dst v) w'/\EFo σ σ' dst
  |_,_=>False:=by
 unfold iT at hk
 obtain⟨x,L',bs,S,hk,jS,hL',hS,hbs⟩:=zT h c.ps es vs σ.L _ r hk he (λ_=>.inr rfl)
 cases hb:((cz c.rs&&cz c.ms)||bs.isEmpty)&&bs.all λl=>(L' l).isSome
 ·simp_all
 rw[hb]at hk
 simp only[cond_true]at hk
 simp only[ag,cG]at hb
 obtain⟨hcl,fK⟩:=hb
 unfold ah at hk
 cases Gj:c.den x with
 |none=>rw[Gj]at hk;cases hk
 |some o=>
 rw[Gj]at hk
 simp only at hk
 cases hmu:pe σ es c.mi c.ms o.2 L' with
 |none=>rw[hmu]at hk;cases hk
 |some L2=>
 rw[hmu]at hk
 simp only at hk
 have MS:∀ l b,L' l=some b->σ.L l=some b:=λl b hl=>by grind
 have hSl:∀ l b,L' l=some b->Dis (Sg l) S:=λl b hl k h1 h2=>by
  obtain⟨l2,b2,e1,_,e3,e4⟩:=hS k h2
  by_cases e:l2=l
  ·simp_all
  ·exact h.dis l2 l b2 b e e1 (MS l b hl) k e4 h1
 have hSF:Dis S F:=λk h1 hf=>by obtain⟨l2,b2,e1,_,_,e4⟩:=hS k h1;exact h.ek l2 b2 e1 k e4 hf
 have Ww:∀ k,S k->k<w.heap.size:=λk h1=>by obtain⟨l2,b2,e1,_,_,e4⟩:=hS k h1;exact h.lt l2 b2 e1 k e4
 have Ec:∀ k,S k->k<B.w0.heap.size->B.S0 k:=λk h1=>by obtain⟨l2,b2,e1,_,_,e4⟩:=hS k h1;exact h.may l2 b2 e1 k e4
 have hbd:∀ l∈bs,∃ b,L' l=some b:=λl hl=>nV.1 (fK l hl)
 refine(hf x o Gj (λk=>F k\/∃ l∈bs,Sg l k) w S vs (jS _ (λk h=>.inl h) (λl hl k hk=>.inr ⟨l,hl,hk⟩)) ?_ ?_ Ww (B.gh.step (λk h1=>.inl (h.f0 k h1)) (λp hp=>h.fr.block p (B.ghl p hp) (B.ghs p hp)))).mono ?_
 ·rintro k h1 (h2|⟨l,hl,h2⟩)
  ·exact hSF k h1 h2
  ·obtain⟨b,hb⟩:=hbd l hl
   exact hSl l b hb k h2 h1
 ·rintro k (h2|⟨l,hl,h2⟩)
  ·exact h.fl k h2
  ·obtain⟨b,hb⟩:=hbd l hl
   exact h.lt l b (MS l b hb) k h2
 intro e w' hp
 cases e with
 |panicked _=>exact hp
 |outgrown=>exact hp
 |returned v=>
 obtain⟨ws,F',Sr,Sm,hrv,ha1,ha2,hd,fr,hFF,hF1,hF2,hR⟩:=hp
 have TV:∀ k,(F' k/\¬∃ l∈bs,Sg l k)->k<w.heap.size->¬S k->F k:=λk hk hlt hns=>by
  rcases hF2 k hk.1 hlt hns with e|e
  ·exact e
  ·exact absurd e hk.2
 have conv:jj (λk=>F' k/\¬∃ l∈bs,Sg l k) w' c.rs o.1 ws Sr/\jj (λk=>F' k/\¬∃ l∈bs,Sg l k) w' c.ms o.2 (c.mi.map λi=>vs.getD i undef) Sm:=by
  simp only[aJ,ag,List.isEmpty_iff]at hcl
  rcases hcl with hcl|rfl
  ·exact⟨ha1.closed hcl.1,ha2.closed hcl.2⟩
  ·have:(λk=>F' k/\¬∃ l∈([]:List Nat),Sg l k)=F':=by funext k;simp
   rw[this];exact⟨ha1,ha2⟩
 obtain⟨ha1,ha2⟩:=conv
 obtain⟨Sg2,Wx⟩:=IK he c.mi c.ms o.2 L' L2 Sm hmu ha2
 have uu:∀ l b',L2 l=some b'->(L' l=some b'/\σ.L l=some b'/\Sg2 l=af.none)\/(L' l=none/\∃ b,σ.L l=some b/\b.v<b'.v/\b'.t=b.t/\Rep (λk=>F' k/\¬∃ l∈bs,Sg l k) w' b'.t b'.m b'.x (cg l) (Sg2 l)/\Sub (Sg2 l) Sm/\∀ l',l'≠l->Dis (Sg2 l) (Sg2 l')):=λl b' hl=>by
  rcases Wx l with⟨e1,e2⟩|⟨e1,b,b'',f1,f2,f3,f4,f5,f6,f7⟩
  ·rw[e1]at hl;exact .inl ⟨hl,MS l b' hl,e2⟩
  ·rw[f2]at hl;injection hl with hl;subst hl;exact .inr ⟨e1,b,f1,f3,f4,f5,f6,f7⟩
 let Sg3:Nat->af:=λl=>match L' l with|some _=>Sg l|none=>Sg2 l
 have lO:∀ l b,L' l=some b->Sg3 l=Sg l:=λl b hl=>by simp only[Sg3,hl]
 have lP:∀ l,L' l=none->Sg3 l=Sg2 l:=λl hl=>by simp only[Sg3,hl]
 have hSm:∀ k,Sm k->k<w.heap.size->S k:=λk hk hlt=>(hR k (.inr hk)).2.2 hlt
 have i1:aP B (λk=>F' k/\¬∃ l∈bs,Sg l k) Sg3 cg {σ with L:=L2} a w':=by
  refine h.step fr Ec hSF ?_ ?_ ?_ ?_ ?_ ?_ ?_ ?_
  ·intro l b' hl
   rcases uu l b' hl with⟨e1,e2,e3⟩|⟨e1,b,f1,f2,f3,f4,f5,f6⟩
   ·exact .inl ⟨e2,lO l b' e1,hSl l b' e1⟩
   ·exact .inr ⟨b,f1,f2,f3,by rw[lP l e1];exact f4⟩
  ·intro l l' b b' hne hl hl'
   rcases uu l b hl with⟨e1,e2,e3⟩|⟨e1,b0,f1,f2,f3,f4,f5,f6⟩ <;> rcases uu l' b' hl' with⟨g1,g2,g3⟩|⟨g1,b1,q1,q2,q3,q4,q5,q6⟩
   ·rw[lO l b e1,lO l' b' g1];exact h.dis l l' b b' hne e2 g2
   ·rw[lO l b e1,lP l' g1]
    intro k h1 h2
    exact hSl l b e1 k h1 (hSm k (q5 k h2) (h.lt l b e2 k h1))
   ·rw[lP l e1,lO l' b' g1]
    intro k h1 h2
    exact hSl l' b' g1 k h2 (hSm k (f5 k h1) (h.lt l' b' g2 k h2))
   ·rw[lP l e1,lP l' g1];exact f6 l' (Ne.symm hne)
  ·intro l b hl
   rcases uu l b hl with⟨e1,e2,e3⟩|⟨e1,b0,f1,f2,f3,f4,f5,f6⟩
   ·rw[lO l b e1]
    intro k h1 h2
    exact h.ek l b e2 k h1 (TV k h2 (h.lt l b e2 k h1) (λhs=>hSl l b e1 k h1 hs))
   ·rw[lP l e1]
    intro k h1 h2
    exact(hR k (.inr (f5 k h1))).2.1 h2.1
  ·intro l b hl k hk
   rcases uu l b hl with⟨e1,e2,e3⟩|⟨e1,b0,f1,f2,f3,f4,f5,f6⟩
   ·rw[lO l b e1]at hk;exact bz (h.lt l b e2 k hk) fr.size
   ·rw[lP l e1]at hk;exact(hR k (.inr (f5 k hk))).1
  ·intro l b hl k hk hlt
   rcases uu l b hl with⟨e1,e2,e3⟩|⟨e1,b0,f1,f2,f3,f4,f5,f6⟩
   ·rw[lO l b e1]at hk;exact h.may l b e2 k hk hlt
   ·rw[lP l e1]at hk;exact Ec k (hSm k (f5 k hk) (bz hlt h.fr.size)) hlt
  ·intro k hk
   refine⟨hFF k (.inl hk),?_⟩
   rintro⟨l,hl,h2⟩
   obtain⟨b,hb⟩:=hbd l hl
   exact h.ek l b (MS l b hb) k h2 hk
  ·intro k hk;exact hF1 k hk.1
  ·intro k hk hlt hns
   have QU:=bz hlt h.fr.size
   exact h.fs k (TV k hk QU (λhs=>hns (Ec k hs hlt))) hlt hns
 cases dst with
 |none=>exact⟨_,_,_,_,hk,i1,λ_ _=>rfl⟩
 |some d=>
  simp only at hk
  obtain⟨σ',Sg',cg',es',g1,g2,g3,g4,g5⟩:=MR c.rs o.1 (d*8+2) _ Sg3 cg _ r ws Sr i1 hk ha1 (λk hk=>by
   refine⟨λj bj hbj hs=>?_,λhf=>(hR k (.inl hk)).2.1 hf.1,(hR k (.inl hk)).1,λhlt=>Ec k ((hR k (.inl hk)).2.2 (bz hlt h.fr.size)) hlt⟩
   rcases uu j bj hbj with⟨e1,e2,e3⟩|⟨e1,b0,f1,f2,f3,f4,f5,f6⟩
   ·rw[lO j bj e1]at hs
    exact hSl j bj e1 k hs ((hR k (.inl hk)).2.2 (h.lt j bj e2 k hs))
   ·rw[lP j e1]at hs
    exact hd k hk (f5 k hs))
  refine⟨_,_,Sg',cg',g1,g2.vT (hN d rfl) (e:=IJ es') ?_,λj hj=>?_⟩
  ·subst hrv
   exact IL g3
  ·have hne:j≠d:=λe=>hj (by rw[e])
   show upd σ'.E d _ j=σ.E j
   rw[aW _ _ hne,g4]
end
def toBytes(TT:Tab)(s t:TypeId):Bool:=
 match TT s with
 |some ds=>(match ds.kd with
  |.str=>(match TT t with|some dt=>(match dt.kd with|.slice _=>true|_=>false)|none=>false)
  |_=>false)
 |none=>false
def lQ{R:Type}(de:TD)(σ:St)(dst:Nat)(e:ar)(K:St->Option R):Option R:=
 bif σ.U (dst*8)then none else match de.kd with
 |.int .u8=>(match e with
  |.val .str s=>K (σ.mk' σ.L (dst*8) dst ⟨0,.sl (.int .u8),.own .ro,s⟩)
  |_=>none)
 |_=>none
section
variable {P:Program} {B:dD} {F:af} {Sg:Nat->af} {cg:Nat->List Value} {σ:St} {a:Act} {w:World}
theorem xY{F:af}{w:World}(s:ByteArray)(cap:Nat):bm (Rep F w (.int .u8) .ro) (cd s) ((bytesRow s cap).toList.take ((cd s).length*(Ty.int .u8).width)) af.none:=by
 have e:(bytesRow s cap).toList.take ((cd s).length*(Ty.int .u8).width)=s.data.toList.map λb=>Value.int .u8 b.toNat:=by
  simp only[bytesRow,cd,Ty.width,qX,ib,bq,iq]
  simp_all
 rw[e]
 exact wI s.data.toList
theorem Gk(h:aP B F Sg cg σ a w){R:Type}{s t te:TypeId}{de:TD}(hs:P.underlying s=some .string)(ht:P.underlying t=some (.slice te))(hde:TOk P te de){dst:Nat}(hN:dst<B.N){e:ar}{K:St->Option R}{r:R}(hk:lQ de σ dst e K=some r){v:Value}(he:aF F w σ.L σ.U cg e v):
 ∃ σ' z w' Sg' cg',K σ'=some r/\(convert s t v).run P w=.ok z w'/\aP B F Sg' cg' σ' (a.put (some dst) z) w'/\EF σ σ' dst:=by
 unfold lQ at hk
 cases hU:σ.U (dst*8)
 case true=>rw[hU]at hk;cases hk
 rw[hU]at hk
 simp only[cond_false]at hk
 split at hk
 case h_2=>cases hk
 rename_i hkd
 have hd:=hde.desc
 rw[hkd]at hd
 split at hk
 case h_2=>cases hk
 rename_i x
 obtain⟨u,rfl,rfl,hu⟩:=kj he
 have bX:=run_bytes_of_string (P:=P) w s t te u hs ht hd.1
 have xN:=grownCap_ge w u.size 0 te
 have zK:=grownCap_le_maxLen w u.size 0 te hu
 have hw:aP B F Sg cg σ a w.drew:=h.world rfl rfl rfl (aw _) (λ_ _=>rfl)
 have hsz:(bytesRow u (grownCap w u.size 0 te)).size=grownCap w u.size 0 te:=by simp_all [bytesRow]
 obtain⟨Sg',cg',hi⟩:=hw.D9 (t:=.int .u8) (m:=.ro) (x:=cd u) (cs:=bytesRow u (grownCap w u.size 0 te)) (e:=⟨te,(bytesRow u (grownCap w u.size 0 te)).size,(bytesRow u (grownCap w u.size 0 te)).size+1,λj hj hh=>by omega,λh=>absurd rfl h⟩) (cap:=grownCap w u.size 0 te) (S0:=af.none)
  (xY u _) (by rw[et];exact xN) zK (by rw[hsz];simp[Ty.width]) (l:=dst*8) (dst:=dst) hU hN σ.L (λ_ _=>.inr rfl) (λ_ h=>h.elim) rfl
 rw[et]at hi
 exact⟨_,_,_,Sg',cg',hk,bX,hi,λj hj=>aW _ _ hj⟩
end
def fS(TT:Tab)(t:TypeId)(u:Ty):Bool:=
 match TT t with
 |some d=>decide (d.ty=u)&&(match d.kd with|.int _=>true|.bool=>true|.str=>true|_=>false)
 |none=>false
def lR:(u:Ty)->u.T->u.T->Bool
 |.int _,a,b=>decide ((a:Int)=b)
 |.bool,a,b=>(a:Bool) == b
 |.str,a,b=>decide ((a:List Int)=b)
 |_,_,_=>false
def uv(TT:Tab):List (TypeId×Nat)->(u:Ty)->Nat->u.T->u.T->Option Bool
 |[],.unit,_,_,_=>some true
 |[p],u,k,x,y=>bif Nat.beq p.2 k&&fS TT p.1 u then some (lR u x y)else none
 |p::q::fs,.pair a b,k,x,y=>bif Nat.beq p.2 k&&fS TT p.1 a then(match uv TT (q::fs) b (k+a.width) x.2 y.2 with
  |some r=>some (lR a x.1 y.1&&r)
  |none=>none)else none
 |_,_,_,_,_=>none
def MT{R:Type}(TT:Tab)(d:TD)(fs:List (TypeId×Nat))(op:BinOp)(ex ey:ar)(K:ar->Option R):Option R:=
 match d.ty with
 |.st u=>asT ex (.st u) λx=>asT ey (.st u) λy=>(match uv TT fs u 0 x y with
  |some b=>(match op with
   |.eql=>K (.val .bool b)
   |.neq=>K (.val .bool (!b))
   |_=>none)
  |none=>none)
 |_=>none
def MU{R:Type}(TT:Tab)(d:TD)(m:Nat)(e:TypeId)(op:BinOp)(ex ey:ar)(K:ar->Option R):Option R:=
 match d.ty with
 |.arr n (.int k)=>bif Nat.beq m n&&fS TT e (.int k)then asT ex (.arr n (.int k)) λx=>asT ey (.arr n (.int k)) λy=>(match op with
  |.eql=>K (.val .bool (decide ((x:List Int)=y)))
  |.neq=>K (.val .bool (!(decide ((x:List Int)=y))))
  |_=>none)else none
 |_=>none
def MV{R:Type}(σ:St)(op:BinOp)(ex ey:ar)(K:ar->Option R):Option R:=
 match ey with
 |.cst (.pointer none)=>
  let fin:Bool->Option R:=λb=>(match op with
   |.eql=>K (.val .bool b)
   |.neq=>K (.val .bool (!b))
   |_=>none)
  (match ex with
  |.val (.ptr t) x=>fin (x:Option t.T).isNone
  |.val (.box _) _=>fin false
  |.hdr l n π c=>kV σ (.hdr l n π c) λ_ _ _ c=>(match c with
   |⟨.ptr t,x⟩=>fin (x:Option t.T).isNone
   |⟨.box _,_⟩=>fin false
   |_=>none)
  |.cst (.pointer none)=>fin true
  |_=>none)
 |_=>none
structure xZ(P:Program)(t:TypeId):Prop where
 held:P.stoodInHeld t=false
 guard:P.eqGuardType P.depth t=false
 names : ((P.fieldsOf t).toList.all fun f => decide (f.name ≠ "_")) = true
section
variable {P:Program} {B:dD} {F:af} {Sg:Nat->af} {cg:Nat->List Value} {σ:St} {a:Act} {w:World}
theorem x4{TT:Tab}(hT:cK P TT){t:TypeId}{u:Ty}(h:fS TT t u=true){x y:u.T}{cx cy:List Value}{S S':af}(hx:Rep F w u .ro x cx S)(hy:Rep F w u .ro y cy S'):
 ∃ v z,cx=[v]/\cy=[z]/\(∀ (d:Nat),(Op.equalIn (d+1) t v z).run P w=.ok (lR u x y) w)/\(isAgg t).run P w=.ok false w:=by
 unfold fS at h
 cases hd:TT t with
 |none=>rw[hd]at h;cases h
 |some d=>
  rw[hd]at h
  simp only[ag,decide_eq_true_eq]at h
  obtain⟨rfl,h⟩:=h
  have bN:=(hT t d hd).desc
  split at h
  ·rename_i k hk
   rw[hk]at bN
   obtain⟨hu,ht⟩:=bN
   revert x y hx hy
   rw[ht]
   rintro x y ⟨rfl,_⟩ ⟨rfl,_⟩
   exact⟨_,_,rfl,rfl,λd=>by rw[run_equalIn_int w d t k k x y hu];rfl,by simp[isAgg,run_underlying hu]⟩
  ·rename_i hk
   rw[hk]at bN
   obtain⟨hu,ht⟩:=bN
   revert x y hx hy
   rw[ht]
   rintro x y rfl rfl
   exact⟨_,_,rfl,rfl,λd=>by rw[run_equalIn_bool' w d t x y hu];rfl,by simp[isAgg,run_underlying hu]⟩
  ·rename_i hk
   rw[hk]at bN
   obtain⟨hu,ht⟩:=bN
   revert x y hx hy
   rw[ht]
   rintro x y ⟨u1,rfl,rfl,_⟩ ⟨u2,rfl,rfl,_⟩
   refine⟨_,_,rfl,rfl,λd=>?_,by simp[isAgg,run_underlying hu]⟩
   rw[run_equalIn_string w d t u1 u2 hu]
   congr 1
   show _=decide (cd u1=cd u2)
   rw[toList_eq,toList_eq,cI,beq_iff_eq,decide_eq_true_eq,lI]
   constructor
   ·intro e;cases u1;cases u2;simp only at e;rw[Array.ext' e]
   simp_all
  ·cases h
theorem lS{t:TypeId}{cs:List Value}{k:Nat}{v:Value}(h:(isAgg t).run P w=.ok false w)(hv:cs[k]?=some v):(part t cs.toArray k).run P w=.ok v w:=by
 unfold part
 simp_all
theorem Ee{TT : Tab}(hT : cK P TT){cx cy : List Value}(dp : Nat): ∀ (fs : List (TypeId × Nat)) (fields : List Field) (u : Ty) (k : Nat) (x y : u.T) (b : Bool) (S S' : af), fields.map (fun f => (f.type, f.offset)) = fs → (∀ f ∈ fields, f.name ≠ "_") → uv TT fs u k x y = some b →
 Rep F w u .ro x (cx.drop k) S->Rep F w u .ro y (cy.drop k) S'->(Op.eqFields (dp+1) cx.toArray cy.toArray fields).run P w=.ok b w:=by
 intro fs
 induction fs with
 |nil=>
  intro fields u k x y b S S' hf hn h hx hy
  have:fields=[]:=by simpa using hf
  subst this
  cases u <;> simp only[uv,reduceCtorEq,bh]at h
  rw[<-h]
  rfl
 |cons p fs ih=>
  intro fields u k x y b S S' hf hn h hx hy
  cases fields with
  |nil=>simp at hf
  |cons f fields=>
  simp only[fH,e8]at hf
  obtain⟨hp,hf⟩:=hf
  have Qb:=hn f (by simp)
  cases fs with
  |nil=>
   have:fields=[]:=by simpa using hf
   subst this
   simp only[uv]at h
   cases hb:Nat.beq p.2 k&&fS TT p.1 u
   ·rw[hb]at h;cases h
   rw[hb]at h
   simp only[cond_true,bh]at h
   simp only[ag]at hb
   obtain⟨v,z,e1,e2,e3,e4⟩:=x4 hT hb.2 hx hy
   have hk:=bI hb.1
   rw[<-hp]at hk e3 e4
   simp only at hk e3 e4
   have g1:cx[f.offset]?=some v:=by rw[hk];have:=congrArg (·[0]?) e1;simpa using this
   have g2:cy[f.offset]?=some z:=by rw[hk];have:=congrArg (·[0]?) e2;simpa using this
   simp only[Op.eqFields,if_pos Qb,ba,lS e4 g1,lS e4 g2,e3,bw]
   rw[<-h]
   cases lR u x y <;> simp[bP]
  |cons q fs=>
   cases u <;> simp only[uv,reduceCtorEq]at h
   ·rename_i a b'
    cases hb:Nat.beq p.2 k&&fS TT p.1 a
    ·rw[hb]at h;cases h
    rw[hb]at h
    simp only[cond_true]at h
    simp only[ag]at hb
    cases hr:uv TT (q::fs) b' (k+a.width) x.2 y.2 with
    |none=>rw[hr]at h;cases h
    |some r=>
    rw[hr]at h
    simp only[bh]at h
    obtain⟨c1,c2,S1,S2,ex,hx1,hx2,_⟩:=hx
    obtain⟨d1,d2,T1,T2,ey,hy1,hy2,_⟩:=hy
    obtain⟨v,z,e1,e2,e3,e4⟩:=x4 hT hb.2 hx1 hy1
    have hk:=bI hb.1
    have w1:=aQ _ _ _ _ _ _ _ hx1
    have w2:=aQ _ _ _ _ _ _ _ hy1
    rw[<-hp]at hk e3 e4
    simp only at hk e3 e4
    have g1:cx[f.offset]?=some v:=by rw[hk];have:=congrArg (·[0]?) ex;simpa [e1]using this
    have g2:cy[f.offset]?=some z:=by rw[hk];have:=congrArg (·[0]?) ey;simpa [e2]using this
    have r1:cx.drop (k+a.width)=c2:=by rw[<-ij,ex,<-w1,om]
    have r2:cy.drop (k+a.width)=d2:=by rw[<-ij,ey,<-w2,om]
    have:=ih fields b' (k+a.width) x.2 y.2 r S2 T2 hf (λf hf=>hn f (by simp[hf])) hr (by rw[r1];exact hx2) (by rw[r2];exact hy2)
    simp only[Op.eqFields,if_pos Qb,ba,lS e4 g1,lS e4 g2,e3,bw]
    rw[<-h]
    cases lR a x.1 y.1
    ·simp[bP]
    ·simpa using this
theorem MW{R:Type}{TT:Tab}(hT:cK P TT){t:TypeId}{d:TD}(hd:TT t=some d)(hq:xZ P t){fs:List (TypeId×Nat)}(hk:d.kd=.struct fs){op:BinOp}{x y:ar}{ox oy:Operand}{K:ar->Option R}{r:R}(h:MT TT d fs op x y K=some r){u v:Value}(hx:aF F w σ.L σ.U cg x u)(hy:aF F w σ.L σ.U cg y v):
 ∃ e z,K e=some r/\(do eqGuard op t ox oy u v;binOp op t u v:Sem Value).run P w=.ok z w/\aF F w σ.L σ.U cg e z:=by
 unfold MT at h
 split at h
 case h_2=>cases h
 rename_i ut hty
 obtain⟨a,ca,h,ra,va⟩:=gE h hx
 obtain⟨b,cb,h,rb,vb⟩:=gE h hy
 cases he:uv TT fs ut 0 a b with
 |none=>rw[he]at h;cases h
 |some q=>
 rw[he]at h
 simp only at h
 have bN:=(hT t d hd).desc
 rw[hk]at bN
 obtain⟨f,hf1,hf2⟩:=bN
 have hfo:P.fieldsOf t=f:=by simp[Program.fieldsOf,hf1]
 have hva:u=.agg ca.toArray:=by simpa [VR,Ty.agg]using va
 have hvb:v=.agg cb.toArray:=by simpa [VR,Ty.agg]using vb
 subst hva;subst hvb
 have hfs:=Ee (P:=P) (w:=w) hT (cx:=ca) (cy:=cb) 9998 fs (P.fieldsOf t).toList ut 0 a b q af.none af.none (by rw[hfo];exact hf2) (λf hf=>of_decide_eq_true (cG.1 hq.names f hf)) he ra rb
 have hu:P.underlying t=some (.struct (P.fieldsOf t)):=by rw[hfo];exact hf1
 have heq:(Op.equalIn 10000 t (.agg ca.toArray) (.agg cb.toArray)).run P w=.ok q w:=by
  rw[run_equalIn_struct w 9999 t _ _ hu hq.held];exact hfs
 have hg:=run_eqGuard_agg (P:=P) w op t ox oy ca.toArray cb.toArray hq.guard
 grind [dg,Sem.run_bind,Result.andThen_ok,run_eql_struct,run_neq_struct]
theorem uw{k:IntKind}{m:Md}:∀ {x:List Int} {cs:List Value} {S:af},bm (Rep F w (.int k) m) x cs S->cs=x.map (Value.int k):=by
 intro x
 induction x with
 |nil=>intro cs S h;exact h
 |cons y ys ih=>
  rintro cs S ⟨c1,c2,S1,S2,rfl,⟨rfl,_⟩,h2,_⟩
  rw[ih h2];rfl
theorem Cy{e:TypeId}{k:IntKind}(hu:P.underlying e=some (.int k))(dp:Nat):∀ (m j:Nat) (x y:List Int),x.length=j+m->y.length=j+m->
 (Op.eqItems (dp+1) e 1 (x.map (Value.int k)).toArray (y.map (Value.int k)).toArray (List.range' j m)).run P w=.ok (decide (x.drop j=y.drop j)) w:=by
 intro m
 induction m with
 |zero=>grind [Op.eqItems,Sem.run_pure]
 |succ m ih=>
  intro j x y hx hy
  have hj:j<x.length:=by omega
  have hj':j<y.length:=by omega
  have ha:(isAgg e).run P w=.ok false w:=by simp[isAgg,run_underlying hu]
  have g1:(x.map (Value.int k))[j*1]?=some (.int k x[j]):=by simp[List.getElem?_eq_getElem hj]
  have g2:(y.map (Value.int k))[j*1]?=some (.int k y[j]):=by simp[List.getElem?_eq_getElem hj']
  rw[List.range'_succ,cq hj,cq hj']
  simp only[Op.eqItems,ba,lS ha g1,lS ha g2,bw,run_equalIn_int w dp e k k x[j] y[j] hu]
  have:=ih (j+1) x y (by omega) (by omega)
  generalize x[j]=p
  generalize y[j]=q
  generalize x.drop (j+1)=xs at this |-
  generalize y.drop (j+1)=ys at this |-
  by_cases he:p=q
  all_goals simp_all
theorem MX{R:Type}{TT:Tab}(hT:cK P TT){t:TypeId}{d:TD}(hd:TT t=some d)(hq:xZ P t){n:Nat}{e:TypeId}(hk:d.kd=.array n e){op:BinOp}{x y:ar}{ox oy:Operand}{K:ar->Option R}{r:R}(h:MU TT d n e op x y K=some r){u v:Value}(hx:aF F w σ.L σ.U cg x u)(hy:aF F w σ.L σ.U cg y v):
 ∃ e z,K e=some r/\(do eqGuard op t ox oy u v;binOp op t u v:Sem Value).run P w=.ok z w/\aF F w σ.L σ.U cg e z:=by
 unfold MU at h
 split at h
 case h_2=>cases h
 rename_i n' k hty
 cases hl0:Nat.beq n n'&&fS TT e (.int k)
 ·simp_all
 rw[hl0]at h
 simp only[cond_true]at h
 simp only[ag]at hl0
 obtain⟨hn,hl⟩:=hl0
 have hn:=bI hn
 obtain⟨a,ca,h,ra,va⟩:=gE h hx
 obtain⟨b,cb,h,rb,vb⟩:=gE h hy
 have bN:=(hT t d hd).desc
 rw[hk]at bN
 have bN:P.underlying t=some (.array n e):=bN
 unfold fS at hl
 cases hde:TT e with
 |none=>rw[hde]at hl;cases hl
 |some de=>
 rw[hde]at hl
 simp only[ag,decide_eq_true_eq]at hl
 obtain⟨hl1,hl2⟩:=hl
 have hdd:=(hT e de hde).desc
 obtain⟨i,z,hi,hi1,_⟩:=(hT e de hde).vS
 have hue:P.underlying e=some (.int k):=by grind
 have hc:P.cellsOf e=1:=by
  have:i.size=1:=by rw[hi1,hl1];rfl
  grind [Program.cellsOf]
 obtain⟨la,ra⟩:=ra
 obtain⟨lb,rb⟩:=rb
 have ea:=uw ra
 have eb:=uw rb
 subst ea;subst eb
 have hva:u=.agg (List.map (Value.int k) a).toArray:=by simpa [VR,Ty.agg]using va
 have hvb:v=.agg (List.map (Value.int k) b).toArray:=by simpa [VR,Ty.agg]using vb
 subst hva;subst hvb
 have heq:(Op.equalIn 10000 t (.agg (List.map (Value.int k) a).toArray) (.agg (List.map (Value.int k) b).toArray)).run P w=.ok (decide (a=b)) w:=by
  rw[run_equalIn_array w 9999 _ _ bN hi,hc,List.range_eq_range']
  grind [Cy]
 have hg:=run_eqGuard_agg (P:=P) w op t ox oy (List.map (Value.int k) a).toArray (List.map (Value.int k) b).toArray hq.guard
 grind [dg,Sem.run_bind,Result.andThen_ok,run_eql_struct,run_neq_struct]
theorem ux{t:TypeId}{e:TypeId}(hu:P.underlying t=some (.pointer e)){p:Option Addr}{b:Bool}(hb:p.isNone=b){R:Type}{op:BinOp}{ox oy:Operand}{K:ar->Option R}{r:R}(h:(match op with|.eql=>K (.val .bool b)|.neq=>K (.val .bool (!b))|_=>none)=some r):
 ∃ e z,K e=some r/\(do eqGuard op t ox oy (.pointer p) (.pointer none);binOp op t (.pointer p) (.pointer none):Sem Value).run P w=.ok z w/\aF F w σ.L σ.U cg e z:=by
 have hu':P.underlying t=some (.pointer (P.pointee t)):=by simp[Program.pointee,hu]
 have hg:(eqGuard op t ox oy (.pointer p) (.pointer none)).run P w=.ok () w:=by cases op <;> simp[eqGuard]
 split at h
 ·refine⟨_,_,h,?_,dg⟩
  grind [Sem.run_bind,Result.andThen_ok,run_eql_pointer_nil]
 ·refine⟨_,_,h,?_,dg⟩
  grind [Sem.run_bind,Result.andThen_ok,run_neq_pointer_nil]
 ·cases h
theorem wM{t:Ty}{x:Option t.T}{m:Md}{cs:List Value}{S:af}{v:Value}(h:Rep F w (.ptr t) m x cs S)(hv:VR (.ptr t) cs v):∃ p,v=.pointer p/\p.isNone=x.isNone:=by
 simp[VR,Ty.agg]at hv
 cases x with
 |none=>simp only[Rep]at h;rw[h]at hv;simp at hv;exact⟨none,hv.1.symm,rfl⟩
 |some x=>
  cases m with
  |own m=>obtain⟨b,c,e,h1,_⟩:=h;rw[h1]at hv;simp at hv;exact⟨_,hv.1.symm,rfl⟩
  |ro=>obtain⟨b,h1,_⟩:=h;rw[h1]at hv;simp at hv;exact⟨_,hv.1.symm,rfl⟩
  |pr _ _=>obtain⟨b,h1,_⟩:=h;rw[h1]at hv;simp at hv;exact⟨_,hv.1.symm,rfl⟩
theorem wN{t:Ty}{x:t.T}{m:Md}{cs:List Value}{S:af}{v:Value}(h:Rep F w (.box t) m x cs S)(hv:VR (.box t) cs v):∃ p,v=.pointer p/\p.isNone=false:=by
 simp[VR,Ty.agg]at hv
 cases m with
 |own m=>obtain⟨b,c,e,h1,_⟩:=h;rw[h1]at hv;simp at hv;exact⟨_,hv.1.symm,rfl⟩
 |ro=>obtain⟨b,h1,_⟩:=h;rw[h1]at hv;simp at hv;exact⟨_,hv.1.symm,rfl⟩
 |pr _ _=>obtain⟨b,h1,_⟩:=h;rw[h1]at hv;simp at hv;exact⟨_,hv.1.symm,rfl⟩
theorem MY(hI:aP B F Sg cg σ a w){R:Type}{t e:TypeId}(hu:P.underlying t=some (.pointer e)){op:BinOp}{x y:ar}{ox oy:Operand}{K:ar->Option R}{r:R}(h:MV σ op x y K=some r){u v:Value}(hx:aF F w σ.L σ.U cg x u)(hy:aF F w σ.L σ.U cg y v):
 ∃ e z,K e=some r/\(do eqGuard op t ox oy u v;binOp op t u v:Sem Value).run P w=.ok z w/\aF F w σ.L σ.U cg e z:=by
 unfold MV at h
 split at h
 case h_2=>cases h
 have hv:v=.pointer none:=hy
 subst hv
 simp only at h
 split at h
 ·obtain⟨cs,h1,h2⟩:=hx
  obtain⟨p,rfl,hp⟩:=wM h1 h2
  exact ux hu hp h
 ·obtain⟨cs,h1,h2⟩:=hx
  obtain⟨p,rfl,hp⟩:=wN h1 h2
  exact ux hu hp h
 ·obtain⟨l,b,π,c,hl,h,hg,ho,ds,s,S',cf,bF,fy,fY,hv⟩:=fJ hI h hx
  obtain⟨ct,cx⟩:=c
  simp only at h bF hv
  split at h
  ·rename_i heq
   cases heq
   obtain⟨p,rfl,hp⟩:=wM bF hv
   exact ux hu hp h
  ·rename_i heq
   cases heq
   obtain⟨p,rfl,hp⟩:=wN bF hv
   exact ux hu hp h
  ·cases h
 ·have hu2:u=.pointer none:=hx
  subst hu2
  exact ux hu rfl h
 ·cases h
end
def Gl{R:Type}(TT:Tab)(EQ:TypeId->Bool)(σ:St)(t:TypeId)(op:BinOp)(ex ey:ar)(K:ar->Option R):Option R:=
 match TT t with
 |some d=>match d.kd with
  |.struct fs=>bif EQ t then MT TT d fs op ex ey K else none
  |.array n e=>bif EQ t then MU TT d n e op ex ey K else none
  |.pointer _=>MV σ op ex ey K
  |_=>Ck (some d) op ex ey K
 |none=>Ck none op ex ey K
theorem MZ{P:Program}{B:dD}{F:af}{Sg:Nat->af}{cg:Nat->List Value}{σ:St}{a:Act}{w:World}(hI:aP B F Sg cg σ a w){R:Type}{TT:Tab}(hT:cK P TT){EQ:TypeId->Bool}(hE:∀ t,EQ t=true->xZ P t){t:TypeId}{op:BinOp}{x y:ar}{ox oy:Operand}{K:ar->Option R}{r:R}(h:Gl TT EQ σ t op x y K=some r){u v:Value}(hx:aF F w σ.L σ.U cg x u)(hy:aF F w σ.L σ.U cg y v):
 ∃ e z,K e=some r/\(do eqGuard op t ox oy u v;binOp op t u v:Sem Value).run P w=.ok z w/\aF F w σ.L σ.U cg e z:=by
 unfold Gl at h
 split at h
 ·rename_i d hd
  split at h
  ·rename_i fs hk
   cases he:EQ t
   ·simp_all
   rw[he]at h
   exact MW hT hd (hE t he) hk h hx hy
  ·rename_i n e hk
   cases he:EQ t
   ·simp_all
   rw[he]at h
   exact MX hT hd (hE t he) hk h hx hy
  ·rename_i e hk
   have bN:=(hT t d hd).desc
   rw[hk]at bN
   exact MY hI bN h hx hy
  ·exact D2 h (λd' hd'=>by cases hd';exact hT t d hd) hx hy
 ·exact D2 h (λd' hd'=>by cases hd') hx hy
structure Env where
 TT:Tab
 CT:FuncId->Option Callee
 own:Nat->Bool
 eq:TypeId->Bool:=λ_=>false
 vw:Nat->Bool:=λ_=>false
def Env.we(V:Env):Option Nat->Bool
 |some d=>V.own d
 |none=>false
def Plain(P : Program)(f : FuncId): Prop := ∃ fn, P.funcs[f]? = some fn ∧ (fn.name == "runtime.NumGoroutine") = false ∧ fn.body.isNone = false
structure fT(P:Program)(V:Env):Prop where
 tab:cK P V.TT
 fns:∀ f c,V.CT f=some c->fL P f c/\Plain P f
 mix:P.follows .mixedOrders=true
 eqs:∀ t,V.eq t=true->xZ P t
def St.bT(σ:St)(dst:Option Nat)(e:ar):St:=match dst with|some d=>σ.tW d e|none=>σ
def St.j7(σ:St)(dst:Option Nat):St:=match dst with|some d=>{σ with E:=upd σ.E d none}|none=>σ
def jT(σ:St):List Operand->Option (List ar)
 |[]=>some []
 |x::xs=>match opd σ x with
  |some e=>match jT σ xs with
   |some es=>some (e::es)
   |none=>none
  |none=>none
def pW(σ:St):Option Operand->Option (Option ar)
 |none=>some none
 |some x=>match opd σ x with
  |some e=>some (some e)
  |none=>none
def kY{R:Type}(TT:Tab)(t:TypeId)(K:TD->Option R):Option R:=
 match TT t with
 |some d=>match d.kd with
  |.slice e=>match TT e with
   |some de=>K de
   |none=>none
  |_=>none
 |none=>none
def St.toVal(σ:St)(d:Nat):St:=
 match σ.E d with
 |some (.one (.hdr l _ [] _))=>(match σ.L l with
  |some b=>{σ with E:=upd σ.E d (some (.one (.val b.t b.x))),L:=upd σ.L l none}
  |none=>σ)
 |_=>σ
def x5(V:Env)(d:Nat)(σ:St):St:=bif V.own d then σ.toVal d else σ
def kl(σ:St)(ep:ar):Bool:=match plc σ ep λ_ _ _ c=>some (Co c.t)with|some b=>b|none=>false
def M0(TT:Tab)(t:TypeId):Option Bool:=
 match TT t with
 |some d=>match d.kd with
  |.slice _=>some false
  |.str=>some true
  |_=>none
 |none=>none
def fM(σ:St):List (Ty×Md)->List ar->St
 |p::ps,e::es=>match e with
  |.hdr l _ _ _=>bif decide (p.2=.ro)then(match σ.L l with|some b=>fM (σ.frz l b) ps es|none=>fM σ ps es)else fM σ ps es
  |_=>fM σ ps es
 |_,_=>σ
def fZ{R:Type}(V:Env)(σ:St)(b:Builtin)(ts:List TypeId)(xs:List Operand)(dst:Option Nat)(K:St->Option R):Option R:=
 match b,ts,xs with
 |.len,[t],[x]=>(match opd σ x with|some e=>F6 V.TT σ t e λe'=>K (σ.bT dst e')|none=>none)
 |.cap,[t],[x]=>(match opd σ x with|some e=>F7 V.TT σ t e λe'=>K (σ.bT dst e')|none=>none)
 |.append,[t,tx],[x,y]=>(match dst with
  |some d=>kY V.TT t λde=>(match M0 V.TT tx with
   |some str=>(match opd σ x with
    |some e1=>(match opd σ y with
     |some e2=>ji de σ str d e1 e2 K
     |none=>none)
    |none=>none)
   |none=>none)
  |none=>none)
 |.min,[_,_],[x,y]=>(match opd σ x with
  |some e1=>(match opd σ y with
   |some e2=>Gg e1 e2 λe'=>K (σ.bT dst e')
   |none=>none)
  |none=>none)
 |.max,[_,_],[x,y]=>(match opd σ x with
  |some e1=>(match opd σ y with
   |some e2=>Gi e1 e2 λe'=>K (σ.bT dst e')
   |none=>none)
  |none=>none)
 |_,_,_=>none
def Cz(σ:St):Operand->Option (List ar)
 |.tmp t=>match σ.E t with
  |some (.tup es)=>some es
  |_=>none
 |_=>none
def St.mV(σ:St)(dst:Option Nat)(es:List ar):St:=match dst with|some d=>{σ with E:=upd σ.E d (some (.tup es))}|none=>σ
def opK{R:Type}(V:Env)(σ:St)(o:Oper)(K:St->Option R):Option R:=
 match o.op with
 |.move x|.assign x=>(match Cz σ x with
  |some es=>K (σ.mV o.dst es)
  |none=>(match opd σ x with|some e=>K (σ.bT o.dst e)|none=>none))
 |.pick c x y=>(match opd σ c with
  |some (.val .bool t)=>(match(t:Bool)with
   |true=>(match opd σ x with|some e=>K (σ.bT o.dst e)|none=>none)
   |false=>(match opd σ y with|some e=>K (σ.bT o.dst e)|none=>none))
  |_=>none)
 |.alloc t=>(match o.dst with|some d=>(match V.TT t with|some td=>lL td σ d K|none=>none)|none=>none)
 |.box t x=>(match o.dst with|some d=>(match V.TT t with|some td=>(match opd σ x with|some e=>xO td σ d e K|none=>none)|none=>none)|none=>none)
 |.build t ps=>(match o.dst with|some d=>lN V.TT σ t d (V.own d) ps.toList (λe=>K (σ.bT (some d) e)) K|none=>none)
 |.buildSlice t len ps=>(match o.dst with|some d=>kY V.TT t λde=>xV de σ d len ps.toList λσ'=>K (x5 V d σ')|none=>none)
 |.load t x=>(match V.TT t with|some td=>(match opd σ x with|some e=>ub td σ e λe'=>K (σ.bT o.dst e')|none=>none)|none=>none)
 |.store t p x=>(match V.TT t with
  |some td=>(match opd σ p with
   |some ep=>(match opd σ x with
    |some ev=>bif kl σ ep then xK td σ ep ev λσ'=>K (σ'.j7 o.dst)else xSt td σ ep ev λσ'=>K (σ'.j7 o.dst)
    |none=>none)
   |none=>none)
  |none=>none)
 |.nilCheck x=>(match opd σ x with|some e=>F8 σ e λe'=>K (σ.bT o.dst e')|none=>none)
 |.binOp op t x y _=>(match opd σ x with
  |some ex=>(match opd σ y with
   |some ey=>Gl V.TT V.eq σ t op ex ey λe'=>K (σ.bT o.dst e')
   |none=>none)
  |none=>none)
 |.unOp op _ x=>(match opd σ x with|some e=>xUn op e λe'=>K (σ.bT o.dst e')|none=>none)
 |.convert s t x=>bif toBytes V.TT s t then(match o.dst with
  |some d=>kY V.TT t λde=>(match opd σ x with
   |some e=>lQ de σ d e K
   |none=>none)
  |none=>none)
  else(match opd σ x with|some e=>wK V.TT σ s t e λe'=>K (σ.bT o.dst e')|none=>none)
 |.makeSlice t l c=>(match o.dst with
  |some d=>kY V.TT t λde=>(match opd σ l with
   |some el=>(match opd σ c with
    |some ec=>pT de σ d el ec K
    |none=>none)
   |none=>none)
  |none=>none)
 |.slice t x lo hi mx=>(match mx with
  |some _=>none
  |none=>(match o.dst with
   |some d=>(match opd σ x with
    |some ex=>(match pW σ lo with
     |some el=>(match pW σ hi with
      |some eh=>xS V.TT σ t d ex el eh (λe=>K (σ.bT (some d) e)) K
      |none=>none)
     |none=>none)
    |none=>none)
   |none=>none))
 |.fieldAddr s x f=>(match opd σ x with|some e=>jO V.TT σ s e f λe'=>K (σ.bT o.dst e')|none=>none)
 |.field s x f=>(match opd σ x with|some e=>ul V.TT σ s e f λe'=>K (σ.bT o.dst e')|none=>none)
 |.indexAddr t x i=>(match opd σ x with
  |some ex=>(match opd σ i with
   |some ei=>FX V.TT σ t ex ei λe'=>K (σ.bT o.dst e')
   |none=>none)
  |none=>none)
 |.index t x i=>(match opd σ x with
  |some ex=>(match opd σ i with
   |some ei=>rB V.TT t ex ei λe'=>K (σ.bT o.dst e')
   |none=>none)
  |none=>none)
 |.extract (.tmp t) i=>(match σ.E t with
  |some (.tup es)=>(match es[i]? with|some e=>K (σ.bT o.dst e)|none=>none)
  |_=>none)
 |.call c=>(match c.callee with
  |.builtin b=>fZ V σ b c.argTypes.toList c.args.toList o.dst K
  |.value (.func f)=>(match V.CT f with
   |some ce=>(match jT σ c.args.toList with
    |some es=>bif(cz ce.rs&&cz ce.ms)||V.we o.dst then iT σ o.dst ce es K
     else(match jT (fM σ ce.ps es) c.args.toList with
      |some es'=>iT (fM σ ce.ps es) o.dst ce es' K
      |none=>none)
    |none=>none)
   |none=>none)
  |_=>none)
 |_=>none
def pt:Option Ent->Bool
 |some (.one (.hdr ..))=>true
 |_=>false
def ER(a b:Option Ent):Prop:=b=a\/b=none\/(pt a=true/\pt b=false)
theorem ER.refl(a:Option Ent):ER a a:=.inl rfl
theorem ER.trans{a b c:Option Ent}(h:ER a b)(k:ER b c):ER a c:=by
 rcases k with rfl|rfl|⟨k1,k2⟩
 ·exact h
 ·exact .inr (.inl rfl)
 ·rcases h with rfl|rfl|⟨_,h2⟩
  ·exact .inr (.inr ⟨k1,k2⟩)
  ·cases k1
  simp_all
def ESo(σ σ':St)(dst:Option Nat):Prop:=∀ j,dst≠some j->ER (σ.E j) (σ'.E j)
def Nx{R:Type}(B:dD)(σ:St)(dst:Option Nat)(K:St->Option R)(r:R)(a:Act)(w:World):Prop:=∃ σ',K σ'=some r/\Inv B σ' a w/\ESo σ σ' dst
section
variable {P:Program} {B:dD} {F:af} {Sg:Nat->af} {cg:Nat->List Value} {σ:St} {a:Act} {w:World}
theorem aP.M1(h:aP B F Sg cg σ a w){s:Nat}{e:Ent}(he:iu F w σ.L σ.U cg e (a.tmps.getD s undef)):aP B F Sg cg {σ with E:=upd σ.E s (some e)} a w:=
 {h with
  ent:=λt e' he'=>by
   rcases fv he' with⟨rfl,e1⟩|⟨hn,e1⟩
   ·simp_all
   ·exact h.ent t e' e1}
theorem aP.toVal(h:aP B F Sg cg σ a w)(d:Nat):Inv B (σ.toVal d) a w/\EF σ (σ.toVal d) d:=by
 unfold St.toVal
 split
 ·rename_i l n c hE
  cases hl:σ.L l with
  |none=>exact⟨⟨F,Sg,cg,h⟩,λ_ _=>rfl⟩
  |some b=>
   have hv:=((h.ent d _ hE).2 b hl).2.1 rfl
   refine⟨⟨_,_,_,(h.freeze hl).M1 (s:=d) (e:=.one (.val b.t b.x)) ⟨cg l,jL (λk h=>.inl h) _ _ _ _ _ _ (h.lab l b hl) (λk hk=>.inr hk),hv⟩⟩,λj hj=>aW _ _ hj⟩
 ·exact⟨⟨F,Sg,cg,h⟩,λ_ _=>rfl⟩
theorem aP.x5(h:aP B F Sg cg σ a w)(V:Env)(d:Nat):Inv B (Rf.x5 V d σ) a w/\EF σ (Rf.x5 V d σ) d:=by
 unfold Rf.x5
 cases V.own d
 ·exact⟨⟨F,Sg,cg,h⟩,λ_ _=>rfl⟩
 ·exact h.toVal d
theorem aP.bT(h:aP B F Sg cg σ a w){dst:Option Nat}(hN:∀ d,dst=some d->d<B.N){e:ar}{v:Value}(he:aF F w σ.L σ.U cg e v):Inv B (σ.bT dst e) (a.put dst v) w:=by
 cases dst with
 |none=>exact⟨F,Sg,cg,h⟩
 |some d=>exact⟨F,Sg,cg,h.vT (hN d rfl) (e:=.one e) he⟩
theorem aP.j7(h:aP B F Sg cg σ a w){dst:Option Nat}(hN:∀ d,dst=some d->d<B.N){v:Value}:Inv B (σ.j7 dst) (a.put dst v) w:=by
 cases dst with
 |none=>exact⟨F,Sg,cg,h⟩
 |some d=>exact⟨F,Sg,cg,h.Wd (hN d rfl)⟩
theorem Ef(h:aP B F Sg cg σ a w){x:Operand}{es:List ar}(he:Cz σ x=some es):iu F w σ.L σ.U cg (.tup es) (a.eval x):=by
 unfold Cz at he
 split at he
 ·rename_i t
  split at he
  ·rename_i es' h'
   injection he with he
   subst he
   exact h.ent t _ h'
  ·cases he
 ·cases he
theorem aP.mV(h:aP B F Sg cg σ a w){dst:Option Nat}(hN:∀ d,dst=some d->d<B.N){es:List ar}{v:Value}(he:iu F w σ.L σ.U cg (.tup es) v):Inv B (σ.mV dst es) (a.put dst v) w:=by
 cases dst with
 |none=>exact⟨F,Sg,cg,h⟩
 |some d=>exact⟨F,Sg,cg,h.vT (hN d rfl) he⟩
theorem pX{dst:Option Nat}{es:List ar}:ESo σ (σ.mV dst es) dst:=by
 intro j hj
 cases dst with
 |none=>exact .refl _
 |some d=>exact .inl (aW _ _ (λe=>hj (by rw[e])))
theorem bO{dst:Option Nat}{e:ar}:ESo σ (σ.bT dst e) dst:=by
 intro j hj
 cases dst with
 |none=>exact .refl _
 |some d=>exact .inl (aW _ _ (λe=>hj (by rw[e])))
theorem pY{σ':St}{dst:Option Nat}(h:σ'.E=σ.E):ESo σ (σ'.j7 dst) dst:=by
 intro j hj
 cases dst with
 |none=>exact .inl (congrFun h j)
 |some d=>exact .inl ((aW _ _ (λe=>hj (by rw[e]))).trans (congrFun h j))
theorem lT{σ':St}{d:Nat}(h:EF σ σ' d):ESo σ σ' (some d):=λj hj=>.inl (h j (λe=>hj (by rw[e])))
theorem Eg{σ':St}{dst:Option Nat}(h:EFo σ σ' dst):ESo σ σ' dst:=λj hj=>.inl (h j hj)
theorem x6(h:aP B F Sg cg σ a w):∀ {xs:List Operand} {es:List ar},jT σ xs=some es->cC F w σ.L σ.U cg es (xs.map a.eval):=by
 intro xs
 induction xs with
 |nil=>intro es he;simp only[jT,bh]at he;subst he;rfl
 |cons x xs ih=>
  intro es he
  simp only[jT]at he
  cases h1:opd σ x with
  |none=>rw[h1]at he;cases he
  |some e=>
  rw[h1]at he
  simp only at he
  cases h2:jT σ xs with
  |none=>rw[h2]at he;cases he
  |some es'=>
  rw[h2]at he
  simp only[bh]at he
  subst he
  exact⟨_,_,rfl,bA h h1,ih h2⟩
theorem tD(h:aP B F Sg cg σ a w){x:Option Operand}{e:Option ar}(he:pW σ x=some e):zO F w σ.L σ.U cg e (x.map a.eval):=by
 cases x with
 |none=>simp only[pW,bh]at he;subst he;trivial
 |some x=>
  simp only[pW]at he
  cases h1:opd σ x with
  |none=>rw[h1]at he;cases he
  |some e=>
  rw[h1]at he
  simp only[bh]at he
  subst he
  exact bA h h1
theorem iU{R:Type}{TT:Tab}(hT:cK P TT){t:TypeId}{K:TD->Option R}{r:R}(hk:kY TT t K=some r):∃ e de,K de=some r/\P.underlying t=some (.slice e)/\TOk P e de:=by
 unfold kY at hk
 cases h1:TT t with
 |none=>rw[h1]at hk;cases hk
 |some d=>
 rw[h1]at hk
 simp only at hk
 have hd:=(hT t d h1).desc
 split at hk
 ·rename_i e hkd
  rw[hkd]at hd
  simp only at hd
  cases h2:TT e with
  |none=>rw[h2]at hk;cases hk
  |some de=>rw[h2]at hk;exact⟨e,de,hk,hd,hT e de h2⟩
 ·cases hk
theorem M2{TT:Tab}(hT:cK P TT){t:TypeId}{str:Bool}(h:M0 TT t=some str):bif str then P.underlying t=some .string else ∃ e',P.underlying t=some (.slice e'):=by
 unfold M0 at h
 cases h1:TT t with
 |none=>rw[h1]at h;cases h
 |some d=>
 rw[h1]at h
 simp only at h
 have hd:=(hT t d h1).desc
 grind
theorem IN{l:Nat}{b:Lab}(j:Nat):ER (σ.E j) ((σ.frz l b).E j):=by
 simp only[St.frz]
 cases hE:σ.E j with
 |none=>exact .refl _
 |some e0=>
  cases e0 with
  |tup es=>exact .refl _
  |clo f es=>exact .refl _
  |one e0=>
   cases e0 with
   |hdr j' n' π' c'=>
    simp only[dy,Rf.frz,ur]
    cases Nat.beq j' l
    ·exact .refl _
    ·cases Nat.beq n' b.v
     ·cases π'.isEmpty
      ·exact .refl _
      ·exact .inr (.inr ⟨rfl,rfl⟩)
     ·exact .inr (.inr ⟨rfl,rfl⟩)
   |val t x=>exact .refl _
   |cst u=>exact .refl _
   |kT t x=>exact .refl _
   |view j' te lo hi=>exact .refl _
   |adr j' n' π' c'=>exact .refl _
theorem uy:∀ (ps:List (Ty×Md)) (es:List ar) {σ:St} {F:af},aP B F Sg cg σ a w->(∃ F',aP B F' Sg cg (fM σ ps es) a w)/\∀ j,ER (σ.E j) ((fM σ ps es).E j):=by
 intro ps
 induction ps with
 |nil=>intro es σ F h;exact⟨⟨F,h⟩,λ_=>.refl _⟩
 |cons p ps ih=>
  intro es σ F h
  cases es with
  |nil=>exact⟨⟨F,h⟩,λ_=>.refl _⟩
  |cons e es=>
   cases e with
   |hdr l n π c=>
    simp only[fM]
    cases hd:decide (p.2=Md.ro)
    ·simp only[cond_false];exact ih es h
    ·simp only[cond_true]
     cases hl:σ.L l with
     |none=>simp only;exact ih es h
     |some b=>
      simp only
      obtain⟨h1,h2⟩:=ih es (h.frz hl)
      grind [ER.trans,IN]
   |val t x=>exact ih es h
   |cst u=>exact ih es h
   |kT t x=>exact ih es h
   |view j' te lo hi=>exact ih es h
   |adr j' n' π' c'=>exact ih es h
theorem M3{R:Type}{L:Nat->Option Lab}{U:Nat->Bool}{x y:ar}{K:ar->Option R}{r:R}(hk:Gg x y K=some r){vx vy:Value}(hx:aF F w L U cg x vx)(hy:aF F w L U cg y vy){ts:Array TypeId}{ty:TypeId}:
 ∃ e' z,K e'=some r/\(Builtin.min_ ts ty #[vx,vy]).run P w=.ok z w/\aF F w L U cg e' z:=by
 have fin:∀ (k:IntKind) (n m:Int),inK k n->inK k m->(Builtin.min_ ts ty #[Value.int k n,Value.int k m]).run P w=.ok (.int k (if m<n then m else n)) w/\aF F w L U cg (.val (.int k) (if m<n then m else n)) (.int k (if m<n then m else n)):=by
  intro k n m h1 h2
  refine⟨by simp[Builtin.min_,Builtin.min2],cM ?_⟩
  grind
 unfold Gg at hk
 split at hk
 ·grind [gE,iL,pk]
 ·rename_i q1 k m q4
  obtain⟨n,cs,hk,hr,hv⟩:=gE hk hx
  obtain⟨rfl,h1⟩:=iL hy
  obtain⟨rfl,h2⟩:=pk hr hv
  grind
 ·cases hk
theorem M4{R:Type}{L:Nat->Option Lab}{U:Nat->Bool}{x y:ar}{K:ar->Option R}{r:R}(hk:Gi x y K=some r){vx vy:Value}(hx:aF F w L U cg x vx)(hy:aF F w L U cg y vy){ts:Array TypeId}{ty:TypeId}:
 ∃ e' z,K e'=some r/\(Builtin.max_ ts ty #[vx,vy]).run P w=.ok z w/\aF F w L U cg e' z:=by
 have fin:∀ (k:IntKind) (n m:Int),inK k n->inK k m->(Builtin.max_ ts ty #[Value.int k n,Value.int k m]).run P w=.ok (.int k (if n<m then m else n)) w/\aF F w L U cg (.val (.int k) (if n<m then m else n)) (.int k (if n<m then m else n)):=by
  intro k n m h1 h2
  refine⟨by simp[Builtin.max_,Builtin.max2],cM ?_⟩
  grind
 unfold Gi at hk
 split at hk
 ·grind [gE,iL,pk]
 ·rename_i q1 k m q4
  obtain⟨n,cs,hk,hr,hv⟩:=gE hk hx
  obtain⟨rfl,h1⟩:=iL hy
  obtain⟨rfl,h2⟩:=pk hr hv
  grind
 ·cases hk
theorem bQ{R:Type}{o:Oper}{K:St->Option R}{r:R}{Q:Exit->Act->World->Prop}{z:Value}{w':World}(bX:(execOp a.eval o).run P w=.ok (.value z) w')(h:Nx B σ o.dst K r (a.put o.dst z) w'):o.wp P a w (Nx B σ o.dst K r) Q:=by
 unfold Oper.wp
 rw[bX]
 exact h
theorem tG{R:Type}{o:Oper}{K:St->Option R}{r:R}{Q:Exit->Act->World->Prop}{w':World}(bX:(execOp a.eval o).run P w=.ok .skip w')(h:Nx B σ o.dst K r (a.put o.dst undef) w'):o.wp P a w (Nx B σ o.dst K r) Q:=by
 unfold Oper.wp
 rw[bX]
 exact h
end
section
variable {P:Program} {B:dD} {F:af} {Sg:Nat->af} {cg:Nat->List Value} {σ:St} {a:Act} {w:World}
theorem x7{ρ:Operand->Value}{c:Call}{t:TypeId}{f:FuncId}{x:Operand}(h:c.callee=.value x)(hρ:ρ x=.func (.func f) #[] #[]):(Go.resolve ρ c t).run P w=.ok {target:=.fn (.func f) #[],args:=c.args.map ρ} w:=by
 simp[Go.resolve,h,hρ,Deferred.ofValue]
theorem gj{ρ:Operand->Value}{c:Call}{t:TypeId}{b:Builtin}(h:c.callee=.builtin b):∃ cs,(Go.resolve ρ c t).run P w=.ok {target:=.builtin b c.argTypes t cs,args:=c.args.map ρ} w:=by simp_all [Go.resolve]
theorem mW{f:FuncId}{args:Array Value}(h:Plain P f):(callFunc f args).run P w=.ok (.enter f args) w:=by
 obtain⟨fn,h1,h2,h3⟩:=h
 have h2 : ¬ fn.name = "runtime.NumGoroutine" := by simpa using h2
 have h3:¬fn.body=none:=by intro e;simp[e]at h3
 simp_all [callFunc]
theorem zV{R:Type}{V:Env}(hV:fT P V)(h:aP B F Sg cg σ a w){o:Oper}{c:Call}{b:Builtin}(ho:o.op=.call c)(hc:c.callee=.builtin b){K:St->Option R}{r:R}(hN:∀ d,o.dst=some d->d<B.N)(hk:fZ V σ b c.argTypes.toList c.args.toList o.dst K=some r){Q:Exit->Act->World->Prop}:
 o.wp P a w (Nx B σ o.dst K r) Q:=by
 have hts:∀ l,c.argTypes.toList=l->c.argTypes=l.toArray:=λl h=>by rw[<-h]
 have hxs:∀ l,c.args.toList=l->c.args=l.toArray:=λl h=>by rw[<-h]
 obtain⟨cs,hrb⟩:=gj (P:=P) (w:=w) (ρ:=a.eval) (t:=o.type) hc
 unfold fZ at hk
 split at hk
 ·rename_i t x h1 h2
  have h1:=hts _ h1
  have h2:=hxs _ h2
  cases ho1:opd σ x with
  |none=>rw[ho1]at hk;cases hk
  |some e=>
  rw[ho1]at hk
  simp only at hk
  obtain⟨e',z,g1,g2,g3⟩:=MF h hV.tab (ty:=o.type) hk (bA h ho1)
  refine bQ (z:=z) (w':=w) ?_ ⟨_,g1,h.bT hN g3,bO⟩
  simp_all [execOp,invoke,builtin]
 ·rename_i t x h1 h2
  have h1:=hts _ h1
  have h2:=hxs _ h2
  cases ho1:opd σ x with
  |none=>rw[ho1]at hk;cases hk
  |some e=>
  rw[ho1]at hk
  simp only at hk
  obtain⟨e',z,g1,g2,g3⟩:=MG h hV.tab (ty:=o.type) hk (bA h ho1)
  refine bQ (z:=z) (w':=w) ?_ ⟨_,g1,h.bT hN g3,bO⟩
  simp only[execOp,ho,ba,hrb,bw,invoke,builtin,h1,h2]
  simp[g2]
 ·rename_i t tx x y h1 h2
  have h1:=hts _ h1
  have h2:=hxs _ h2
  cases hd:o.dst with
  |none=>rw[hd]at hk;cases hk
  |some d=>
  rw[hd]at hk
  simp only at hk
  obtain⟨e,de,hk,hu,hde⟩:=iU hV.tab hk
  cases hs:M0 V.TT tx with
  |none=>rw[hs]at hk;cases hk
  |some str=>
  rw[hs]at hk
  simp only at hk
  cases ho1:opd σ x with
  |none=>rw[ho1]at hk;cases hk
  |some e1=>
  rw[ho1]at hk
  simp only at hk
  cases ho2:opd σ y with
  |none=>rw[ho2]at hk;cases hk
  |some e2=>
  rw[ho2]at hk
  simp only at hk
  obtain⟨σ',v,w',Sg',cg',g1,g2,g3,g4⟩:=Cs (ty:=o.type) h hde hu (M2 hV.tab hs) (hN d hd) ho1 ho2 hk
  rw[<-hd]at g3
  refine hd ▸ bQ (z:=v) (w':=w') ?_ ⟨σ',g1,⟨F,Sg',cg',g3⟩,by rw[hd];exact lT g4⟩
  simp only[execOp,ho,ba,hrb,bw,invoke,builtin,h1,h2]
  simp[g2]
 ·rename_i t1 t2 x y h1 h2
  have h2:=hxs _ h2
  cases ho1:opd σ x with
  |none=>rw[ho1]at hk;cases hk
  |some e1=>
  rw[ho1]at hk
  simp only at hk
  cases ho2:opd σ y with
  |none=>rw[ho2]at hk;cases hk
  |some e2=>
  rw[ho2]at hk
  simp only at hk
  obtain⟨e',z,g1,g2,g3⟩:=M3 (P:=P) hk (bA h ho1) (bA h ho2) (ts:=c.argTypes) (ty:=o.type)
  refine bQ (z:=z) (w':=w) ?_ ⟨_,g1,h.bT hN g3,bO⟩
  simp only[execOp,ho,ba,hrb,bw,invoke,builtin,h2]
  simp[g2]
 ·rename_i t1 t2 x y h1 h2
  have h2:=hxs _ h2
  cases ho1:opd σ x with
  |none=>rw[ho1]at hk;cases hk
  |some e1=>
  rw[ho1]at hk
  simp only at hk
  cases ho2:opd σ y with
  |none=>rw[ho2]at hk;cases hk
  |some e2=>
  rw[ho2]at hk
  simp only at hk
  obtain⟨e',z,g1,g2,g3⟩:=M4 (P:=P) hk (bA h ho1) (bA h ho2) (ts:=c.argTypes) (ty:=o.type)
  refine bQ (z:=z) (w':=w) ?_ ⟨_,g1,h.bT hN g3,bO⟩
  simp only[execOp,ho,ba,hrb,bw,invoke,builtin,h2]
  simp[g2]
 ·cases hk
theorem oB{R:Type}{V:Env}(hV:fT P V)(h:aP B F Sg cg σ a w){o:Oper}{c:Call}{f:FuncId}{ce:Callee}(ho:o.op=.call c){x:Operand}(hc:c.callee=.value x)(hx:a.eval x=.func (.func f) #[] #[])(hf:V.CT f=some ce){σ0:St}(h0:∀ j,ER (σ0.E j) (σ.E j)){es:List ar}(hes:jT σ c.args.toList=some es){K:St->Option R}{r:R}(hN:∀ d,o.dst=some d->d<B.N)(hk:iT σ o.dst ce es K=some r){Q:Exit->Act->World->Prop}:
 o.wp P a w (Nx B σ0 o.dst K r) Q:=by
 obtain⟨hok,hpl⟩:=hV.fns f ce hf
 have zW:=zU h hok (x6 h hes) hN hk
 have jS:(c.args.toList.map a.eval).toArray=c.args.map a.eval:=by rw[<-ib]
 rw[jS]at zW
 unfold Oper.wp
 have bX:(execOp a.eval o).run P w=.ok (.enter f (c.args.map a.eval)) w:=by grind [execOp,Sem.run_bind,x7,Result.andThen_ok,invoke,mW]
 rw[bX,Oper.upon_enter]
 refine zW.mono λe w' he=>?_
 cases e with
 |panicked _=>exact he.elim
 |outgrown=>exact he.elim
 |returned v=>
  obtain⟨σ',F',Sg',cg',g1,g2,g3⟩:=he
  exact⟨σ',g1,⟨F',Sg',cg',g2⟩,λj hj=>(h0 j).trans (Eg g3 j hj)⟩
theorem CA{R:Type}{V:Env}(hV:fT P V)(h:aP B F Sg cg σ a w){o:Oper}{K:St->Option R}{r:R}(hN:∀ d,o.dst=some d->d<B.N)(hk:opK V σ o K=some r){Q:Exit->Act->World->Prop}:
 o.wp P a w (Nx B σ o.dst K r) Q:=by
 unfold opK at hk
 split at hk
 ·-- move
  rename_i x ho
  split at hk
  ·rename_i es hT
   exact bQ (by simp only[execOp,ho,bP]) ⟨_,hk,h.mV hN (Ef h hT),pX⟩
  ·cases h1:opd σ x with
   |none=>rw[h1]at hk;cases hk
   |some e=>rw[h1]at hk;exact bQ (by simp only[execOp,ho,bP]) ⟨_,hk,h.bT hN (bA h h1),bO⟩
 ·-- assign
  rename_i x ho
  split at hk
  ·rename_i es hT
   exact bQ (by simp only[execOp,ho,bP]) ⟨_,hk,h.mV hN (Ef h hT),pX⟩
  ·cases h1:opd σ x with
   |none=>rw[h1]at hk;cases hk
   |some e=>rw[h1]at hk;exact bQ (by simp only[execOp,ho,bP]) ⟨_,hk,h.bT hN (bA h h1),bO⟩
 ·-- pick
  rename_i c x y ho
  split at hk
  ·rename_i t hc
   have hcv:=jN (bA h hc)
   split at hk
   ·cases h1:opd σ x with
    |none=>rw[h1]at hk;cases hk
    |some e=>rw[h1]at hk;exact bQ (z:=a.eval x) (w':=w) (by simp[execOp,ho,hcv,asBool]) ⟨_,hk,h.bT hN (bA h h1),bO⟩
   ·cases h1:opd σ y with
    |none=>rw[h1]at hk;cases hk
    |some e=>rw[h1]at hk;exact bQ (z:=a.eval y) (w':=w) (by simp[execOp,ho,hcv,asBool]) ⟨_,hk,h.bT hN (bA h h1),bO⟩
  ·cases hk
 ·-- alloc
  rename_i t ho
  cases hd:o.dst with
  |none=>rw[hd]at hk;cases hk
  |some d=>
  rw[hd]at hk
  simp only at hk
  cases ht:V.TT t with
  |none=>rw[ht]at hk;cases hk
  |some td=>
  rw[ht]at hk
  obtain⟨σ',v,w',Sg',cg',g1,g2,g3,g4⟩:=F3 h (hV.tab t td ht) (hN d hd) hk
  rw[<-hd]at g3
  exact hd ▸ bQ (z:=v) (w':=w') (by simp[execOp,ho,g2]) ⟨σ',g1,⟨F,Sg',cg',g3⟩,by rw[hd];exact lT g4⟩
 ·-- box
  rename_i t x ho
  cases hd:o.dst with
  |none=>rw[hd]at hk;cases hk
  |some d=>
  rw[hd]at hk
  simp only at hk
  cases ht:V.TT t with
  |none=>rw[ht]at hk;cases hk
  |some td=>
  rw[ht]at hk
  simp only at hk
  cases h1:opd σ x with
  |none=>rw[h1]at hk;cases hk
  |some e=>
  rw[h1]at hk
  obtain⟨σ',v,w',Sg',cg',g1,g2,g3,g4⟩:=ME h (hV.tab t td ht) (hN d hd) hk (bA h h1)
  rw[<-hd]at g3
  exact hd ▸ bQ (z:=v) (w':=w') (by simp[execOp,ho,g2]) ⟨σ',g1,⟨F,Sg',cg',g3⟩,by rw[hd];exact lT g4⟩
 ·-- build
  rename_i t ps ho
  cases hd:o.dst with
  |none=>rw[hd]at hk;cases hk
  |some d=>
  rw[hd]at hk
  simp only at hk
  obtain⟨z,g1,g2⟩:=Gf h hV.tab (hN d hd) hk
  have bX:(execOp a.eval o).run P w=.ok (.value z) w:=by
   have e:(ps.toList.map λp=>(p.1,a.eval p.2)).toArray=ps.map λp=>(p.1,a.eval p.2):=by rw[<-ib]
   rw[e]at g1
   simp[execOp,ho,g1]
  rcases g2 with⟨e',g2,g3⟩|⟨σ',Sg',cg',g2,g3,g4⟩
  ·rw[<-hd]at g2
   exact hd ▸ bQ bX ⟨_,g2,h.bT hN g3,bO⟩
  ·rw[<-hd]at g3
   exact hd ▸ bQ bX ⟨σ',g2,⟨F,Sg',cg',g3⟩,by rw[hd];exact lT g4⟩
 ·-- buildSlice
  rename_i t len ps ho
  cases hd:o.dst with
  |none=>rw[hd]at hk;cases hk
  |some d=>
  rw[hd]at hk
  simp only at hk
  obtain⟨e,de,hk,hu,hde⟩:=iU hV.tab hk
  obtain⟨σ',v,w',Sg',cg',g1,g2,g3,g4⟩:=MP h hde hu (hN d hd) hk
  rw[<-hd]at g3
  obtain⟨q1,q2⟩:=g3.x5 V d
  refine hd ▸ bQ (z:=v) (w':=w') ?_ ⟨_,g1,q1,by rw[hd];exact lT (λj hj=>(q2 j hj).trans (g4 j hj))⟩
  have e:(ps.toList.map λp=>(p.1,a.eval p.2)).toArray=ps.map λp=>(p.1,a.eval p.2):=by rw[<-ib]
  rw[e]at g2
  simp[execOp,ho,g2]
 ·-- load
  rename_i t x ho
  cases ht:V.TT t with
  |none=>rw[ht]at hk;cases hk
  |some td=>
  rw[ht]at hk
  simp only at hk
  cases h1:opd σ x with
  |none=>rw[h1]at hk;cases hk
  |some e=>
  rw[h1]at hk
  obtain⟨e',z,g1,g2,g3⟩:=zC h (hV.tab t td ht) hk (bA h h1)
  exact bQ (z:=z) (w':=w) (by simp[execOp,ho,g2]) ⟨_,g1,h.bT hN g3,bO⟩
 ·-- store
  rename_i t p x ho
  cases ht:V.TT t with
  |none=>rw[ht]at hk;cases hk
  |some td=>
  rw[ht]at hk
  simp only at hk
  cases h1:opd σ p with
  |none=>rw[h1]at hk;cases hk
  |some ep=>
  rw[h1]at hk
  simp only at hk
  cases h2:opd σ x with
  |none=>rw[h2]at hk;cases hk
  |some ev=>
  rw[h2]at hk
  simp only at hk
  cases hj:kl σ ep
  ·rw[hj]at hk
   simp only[cond_false]at hk
   obtain⟨σ',w',Sg',g1,g2,g3,g4⟩:=QL h (hV.tab t td ht) hk (bA h h1) (bA h h2)
   exact tG (w':=w') (by simp[execOp,ho,g2]) ⟨_,g1,g3.j7 hN,pY g4⟩
  ·rw[hj]at hk
   simp only[cond_true]at hk
   obtain⟨σ',w',Sg',g1,g2,g3,g4⟩:=Mz h (hV.tab t td ht) hk (bA h h1) (bA h h2)
   exact tG (w':=w') (by simp[execOp,ho,g2]) ⟨_,g1,g3.j7 hN,pY g4⟩
 ·-- nilCheck
  rename_i x ho
  cases h1:opd σ x with
  |none=>rw[h1]at hk;cases hk
  |some e=>
  rw[h1]at hk
  obtain⟨g1,ad,g2⟩:=MH h hk (bA h h1)
  exact bQ (z:=a.eval x) (w':=w) (by simp[execOp,ho,g2]) ⟨_,g1,h.bT hN (bA h h1),bO⟩
 ·-- binOp
  rename_i op t x y yt ho
  cases h1:opd σ x with
  |none=>rw[h1]at hk;cases hk
  |some ex=>
  rw[h1]at hk
  simp only at hk
  cases h2:opd σ y with
  |none=>rw[h2]at hk;cases hk
  |some ey=>
  rw[h2]at hk
  obtain⟨e',z,g1,g2,g3⟩:=MZ (t:=t) (ox:=x) (oy:=y) h hV.tab hV.eqs hk (bA h h1) (bA h h2)
  refine bQ (z:=z) (w':=w) ?_ ⟨_,g1,h.bT hN g3,bO⟩
  simp only[execOp,ho,ba]at g2 |-
  rw[g2]
  simp
 ·-- unOp
  rename_i op t x ho
  cases h1:opd σ x with
  |none=>rw[h1]at hk;cases hk
  |some e=>
  rw[h1]at hk
  obtain⟨e',z,g1,g2,g3⟩:=QV (P:=P) hk (bA h h1)
  exact bQ (z:=z) (w':=w) (by simp[execOp,ho,g2]) ⟨_,g1,h.bT hN g3,bO⟩
 ·-- convert
  rename_i s t x ho
  cases hby:toBytes V.TT s t
  case true=>
   rw[hby]at hk
   simp only[cond_true]at hk
   cases hd:o.dst with
   |none=>rw[hd]at hk;cases hk
   |some d=>
   rw[hd]at hk
   simp only at hk
   obtain⟨e,de,hk,hu,hde⟩:=iU hV.tab hk
   cases h1:opd σ x with
   |none=>rw[h1]at hk;cases hk
   |some ex=>
   rw[h1]at hk
   simp only at hk
   have hs:P.underlying s=some .string:=by
    unfold toBytes at hby
    cases hds:V.TT s with
    |none=>rw[hds]at hby;cases hby
    |some ds=>
     rw[hds]at hby
     have bN:=(hV.tab s ds hds).desc
     simp only at hby
     split at hby
     ·rename_i hkd;rw[hkd]at bN;exact bN.1
     ·cases hby
   obtain⟨σ',v,w',Sg',cg',g1,g2,g3,g4⟩:=Gk h hs hu hde (hN d hd) hk (bA h h1)
   rw[<-hd]at g3
   exact hd ▸ bQ (z:=v) (w':=w') (by simp[execOp,ho,g2]) ⟨σ',g1,⟨F,Sg',cg',g3⟩,by rw[hd];exact lT g4⟩
  rw[hby]at hk
  simp only[cond_false]at hk
  cases h1:opd σ x with
  |none=>rw[h1]at hk;cases hk
  |some e=>
  rw[h1]at hk
  obtain⟨e',z,g1,g2,g3⟩:=IF h hV.tab hk (bA h h1)
  exact bQ (z:=z) (w':=w) (by simp[execOp,ho,g2]) ⟨_,g1,h.bT hN g3,bO⟩
 ·-- makeSlice
  rename_i t l c ho
  cases hd:o.dst with
  |none=>rw[hd]at hk;cases hk
  |some d=>
  rw[hd]at hk
  simp only at hk
  obtain⟨e,de,hk,hu,hde⟩:=iU hV.tab hk
  cases h1:opd σ l with
  |none=>rw[h1]at hk;cases hk
  |some el=>
  rw[h1]at hk
  simp only at hk
  cases h2:opd σ c with
  |none=>rw[h2]at hk;cases hk
  |some ec=>
  rw[h2]at hk
  simp only at hk
  obtain⟨σ',v,w',Sg',cg',g1,g2,g3,g4⟩:=IG h hde hu (hN d hd) hk (bA h h1) (bA h h2)
  rw[<-hd]at g3
  exact hd ▸ bQ (z:=v) (w':=w') (by simp[execOp,ho,g2]) ⟨σ',g1,⟨F,Sg',cg',g3⟩,by rw[hd];exact lT g4⟩
 ·-- slice
  rename_i t x lo hi mx ho
  split at hk
  ·cases hk
  cases hd:o.dst with
  |none=>rw[hd]at hk;cases hk
  |some d=>
  rw[hd]at hk
  simp only at hk
  cases h1:opd σ x with
  |none=>rw[h1]at hk;cases hk
  |some ex=>
  rw[h1]at hk
  simp only at hk
  cases h2:pW σ lo with
  |none=>rw[h2]at hk;cases hk
  |some el=>
  rw[h2]at hk
  simp only at hk
  cases h3:pW σ hi with
  |none=>rw[h3]at hk;cases hk
  |some eh=>
  rw[h3]at hk
  simp only at hk
  obtain⟨z,g1,g2⟩:=ML h hV.tab (hN d hd) hk (bA h h1) (tD h h2) (tD h h3)
  have bX:(execOp a.eval o).run P w=.ok (.value z) w:=by simp[execOp,ho,g1]
  rcases g2 with⟨e',g2,g3⟩|⟨σ',Sg',cg',g2,g3,g4⟩
  ·rw[<-hd]at g2
   exact hd ▸ bQ bX ⟨_,g2,h.bT hN g3,bO⟩
  ·rw[<-hd]at g3
   exact hd ▸ bQ bX ⟨σ',g2,⟨F,Sg',cg',g3⟩,by rw[hd];exact lT g4⟩
 ·-- fieldAddr
  rename_i s x f ho
  cases h1:opd σ x with
  |none=>rw[h1]at hk;cases hk
  |some e=>
  rw[h1]at hk
  obtain⟨e',z,g1,g2,g3⟩:=vV h hV.tab hk (bA h h1)
  exact bQ (z:=z) (w':=w) (by simp[execOp,ho,g2]) ⟨_,g1,h.bT hN g3,bO⟩
 ·-- field
  rename_i s x f ho
  cases h1:opd σ x with
  |none=>rw[h1]at hk;cases hk
  |some e=>
  rw[h1]at hk
  obtain⟨e',z,g1,g2,g3⟩:=F4 h hV.tab hk (bA h h1)
  exact bQ (z:=z) (w':=w) (by simp[execOp,ho,g2]) ⟨_,g1,h.bT hN g3,bO⟩
 ·-- indexAddr
  rename_i t x i ho
  cases h1:opd σ x with
  |none=>rw[h1]at hk;cases hk
  |some ex=>
  rw[h1]at hk
  simp only at hk
  cases h2:opd σ i with
  |none=>rw[h2]at hk;cases hk
  |some ei=>
  rw[h2]at hk
  obtain⟨e',z,g1,g2,g3⟩:=MC h hV.tab hk (bA h h1) (bA h h2)
  exact bQ (z:=z) (w':=w) (by simp[execOp,ho,g2]) ⟨_,g1,h.bT hN g3,bO⟩
 ·-- index
  rename_i t x i ho
  cases h1:opd σ x with
  |none=>rw[h1]at hk;cases hk
  |some ex=>
  rw[h1]at hk
  simp only at hk
  cases h2:opd σ i with
  |none=>rw[h2]at hk;cases hk
  |some ei=>
  rw[h2]at hk
  obtain⟨e',z,g1,g2,g3⟩:=F9 hV.tab hk (bA h h1) (bA h h2)
  exact bQ (z:=z) (w':=w) (by simp[execOp,ho,g2]) ⟨_,g1,h.bT hN g3,bO⟩
 ·-- extract
  rename_i t i ho
  split at hk
  ·rename_i es hE
   cases hi:es[i]? with
   |none=>rw[hi]at hk;cases hk
   |some e=>
   rw[hi]at hk
   obtain⟨vs,hv,hes⟩:=h.ent t _ hE
   have hlen:∀ {es:List ar} {vs:List Value} {i:Nat} {e:ar},cC F w σ.L σ.U cg es vs->es[i]?=some e->∃ v,vs[i]?=some v/\aF F w σ.L σ.U cg e v:=by
    intro es
    induction es with
    |nil=>intro vs i e _ h;simp at h
    |cons e0 es ih=>
     rintro vs i e ⟨v,r,rfl,h1,h2⟩ hi
     cases i with
     |zero=>simp at hi;subst hi;exact⟨v,rfl,h1⟩
     |succ i=>simp at hi;simpa using ih h2 hi
   obtain⟨v,hvi,hev⟩:=hlen hes hi
   refine bQ (z:=v) (w':=w) ?_ ⟨_,hk,h.bT hN hev,bO⟩
   have he:a.eval (.tmp t)=.tuple vs.toArray:=hv
   simp[execOp,ho,he,Instr.extract,hvi]
  ·cases hk
 ·-- call
  rename_i c ho
  split at hk
  ·rename_i b hc
   exact zV hV h ho hc hN hk
  ·rename_i f hc
   cases hf:V.CT f with
   |none=>rw[hf]at hk;cases hk
   |some ce=>
   rw[hf]at hk
   simp only at hk
   cases hes:jT σ c.args.toList with
   |none=>rw[hes]at hk;cases hk
   |some es=>
   rw[hes]at hk
   simp only at hk
   cases hcl:(cz ce.rs&&cz ce.ms)||V.we o.dst
   ·rw[hcl]at hk
    simp only[cond_false]at hk
    cases wg:jT (fM σ ce.ps es) c.args.toList with
    |none=>rw[wg]at hk;cases hk
    |some es'=>
    rw[wg]at hk
    obtain⟨⟨F',i1⟩,i2⟩:=uy ce.ps es h
    exact oB hV i1 ho hc rfl hf i2 wg hN hk
   ·rw[hcl]at hk
    exact oB hV h ho hc rfl hf (λ_=>.refl _) hes hN hk
  ·cases hk
 ·cases hk
end
def eqV:(u:Ty)->u.T->u.T->Bool
 |.st u,a,b=>eqV u a b
 |.pair s t,a,b=>eqV s a.1 b.1&&eqV t a.2 b.2
 |.unit,_,_=>true
 |.int k,a,b=>lR (.int k) a b
 |.bool,a,b=>lR .bool a b
 |.str,a,b=>lR .str a b
 |_,_,_=>false
def ff(TT:Tab):List (TypeId×Nat)->Ty->Nat->Bool
 |[],.unit,_=>true
 |[p],u,k=>Nat.beq p.2 k&&fS TT p.1 u
 |p::q::fs,.pair a b,k=>Nat.beq p.2 k&&(fS TT p.1 a&&ff TT (q::fs) b (k+a.width))
 |_,_,_=>false
def M5(TT:Tab)(EQ:TypeId->Bool)(t:TypeId):Option TD:=
 match TT t with
 |some d=>(match d.kd with
  |.int _=>some d
  |.bool=>some d
  |.str=>some d
  |.struct fs=>(match d.ty with
   |.st u=>bif EQ t&&ff TT fs u 0 then some d else none
   |_=>none)
  |_=>none)
 |none=>none
def mIx{α β:Type}(eq:α->α->Bool)(k:α):List (α×β)->Nat
 |[]=>0
 |p::r=>bif eq k p.1 then 0 else mIx eq k r+1
def cR{α:Type}(eq:α->α->Bool)(k:α):List (α×Int)->Int
 |[]=>0
 |p::r=>bif eq k p.1 then p.2 else cR eq k r
def eX{α β:Type}(eq:α->α->Bool)(k:α):List (α×β)->Bool
 |[]=>false
 |p::r=>bif eq k p.1 then true else eX eq k r
def eY{α β:Type}(eq:α->α->Bool)(k:α)(v:β):List (α×β)->List (α×β)
 |[]=>[(k,v)]
 |p::r=>bif eq k p.1 then(k,v)::r else p::eY eq k v r
def CB{α:Type}(eq:α->α->Bool)(k:α):List (α×Int)->List (α×Int)
 |[]=>[(k,0)]
 |p::r=>bif eq k p.1 then(k,p.2)::r else p::CB eq k r
def x8{β:Type}(x:List β):Bool:=Nat.blt x.length maxLen
def CC{β:Type}(x:List β)(s:Int):Bool:=decide (0<=s)&&Nat.blt s.toNat x.length
def Q3{α:Type}(x:List (α×Int))(s v:Int):List (α×Int):=x.modify s.toNat λp=>(p.1,v)
def CD{β:Type}(x:List β):Int:=x.length
def CE{α β:Type}(eq:α->α->Bool)(k:α)(x:List (α×β)):Int:=mIx eq k x
def mX{R:Type}(V:Env)(t:TypeId)(K:Ty->IntKind->Option R):Option R:=
 match V.TT t with
 |some d=>(match d.kd with
  |.map k e=>(match M5 V.TT V.eq k with
   |some dk=>(match V.TT e with
    |some de=>(match de.kd with
     |.int q=>K dk.ty q
     |_=>none)
    |none=>none)
   |none=>none)
  |_=>none)
 |none=>none
def IP{t u:Ty}(h:t=u)(x:t.T):u.T:=h ▸ x
def x9{R:Type}(σ:St)(e:ar)(k v:Ty)(K:List (k.T×v.T)->Option R):Option R:=
 match e with
 |.hdr l n π c=>kV σ (.hdr l n π c) λ_ _ _ c=>if h:c.t=.map k v then K (IP h c.x)else none
 |e=>asT e (.map k v) K
def wi{R:Type}(σ:St)(e:ar)(k v:Ty)(K:Nat->Lab->List Stp->List (k.T×v.T)->Option R):Option R:=
 match e with
 |.hdr l n π c=>kV σ (.hdr l n π c) λl b π c=>bif(atM b.t b.m π).eU then(if h:c.t=.map k v then K l b π (IP h c.x)else none)else none
 |_=>none
def kw{R:Type}(σ:St)(l:Nat)(b:Lab)(π:List Stp)(k v:Ty)(y:List (k.T×v.T))(K:St->Option R):Option R:=
 match gk b.t b.m π (.own .ro)with
 |some mr=>iR b.t b.x π (.map k v) y λx'=>K (σ.jR (upd σ.L l (some ⟨b.v+1,b.t,mr,x'⟩)))
 |none=>none
def IQ(TT:Tab)(t:TypeId):Bool:=match TT t with
 |some d=>(match d.kd with|.map _ _=>true|_=>false)
 |none=>false
def IR(TT:Tab)(c:Call):Option (TypeId×Operand):=
 match c.callee,c.argTypes.toList,c.args.toList with
 |.builtin .len,[t],[x]=>bif IQ TT t then some (t,x)else none
 |_,_,_=>none
def jk(TT:Tab):Op->Bool
 |.makeMap _ none=>true
 |.lookup .. |.mapUpdate .. |.mapEntry .. |.entryStore ..=>true
 |.call c=>(IR TT c).isSome
 |_=>false
def rE{R:Type}(V:Env)(σ:St)(o:Oper)(K:St->Option R):Option R:=
 match o.op with
 |.makeMap t none=>(match o.dst with
  |some d=>mX V t λk q=>bif σ.U (d*8)then none else K (σ.mk' σ.L (d*8) d ⟨0,.map k (.int q),.own .ro,[]⟩)
  |none=>none)
 |.lookup t m x ok=>mX V t λk q=>(match opd σ m with
  |some em=>(match opd σ x with
   |some ex=>x9 σ em k (.int q) λl=>asT ex k λy=>(match ok with
    |false=>K (σ.bT o.dst (.val (.int q) (cR (eqV k) y l)))
    |true=>K (σ.mV o.dst [.val (.int q) (cR (eqV k) y l),.val .bool (eX (eqV k) y l)]))
   |none=>none)
  |none=>none)
 |.mapUpdate t m x y=>mX V t λk q=>(match opd σ m with
  |some em=>(match opd σ x with
   |some ex=>(match opd σ y with
    |some ey=>wi σ em k (.int q) λl b π xs=>asT ex k λy=>asT ey (.int q) λz=>kw σ l b π k (.int q) (eY (eqV k) y z xs) λσ'=>K (σ'.j7 o.dst)
    |none=>none)
   |none=>none)
  |none=>none)
 |.mapEntry t m x=>mX V t λk q=>(match opd σ m with
  |some em=>(match opd σ x with
   |some ex=>wi σ em k (.int q) λl b π xs=>asT ex k λy=>bif x8 xs then kw σ l b π k (.int q) (CB (eqV k) y xs) λσ'=>K (σ'.mV o.dst [.val (.int q) (cR (eqV k) y xs),.val (.int .i64) (CE (eqV k) y xs)])else none
   |none=>none)
  |none=>none)
 |.entryStore t m s y=>mX V t λk q=>(match opd σ m with
  |some em=>(match opd σ s with
   |some es=>(match opd σ y with
    |some ey=>wi σ em k (.int q) λl b π xs=>asT es (.int .i64) λs=>bif CC xs s then asT ey (.int q) λz=>kw σ l b π k (.int q) (Q3 xs s z) λσ'=>K (σ'.j7 o.dst)else none
    |none=>none)
   |none=>none)
  |none=>none)
 |.call c=>(match IR V.TT c with
  |some p=>mX V p.1 λk q=>(match opd σ p.2 with
   |some em=>x9 σ em k (.int q) λl=>bif x8 l then K (σ.bT o.dst (.val (.int .i64) (CD l)))else none
   |none=>none)
  |none=>none)
 |_=>none
section
variable {P:Program} {B:dD} {F:af} {Sg:Nat->af} {cg:Nat->List Value} {σ:St} {a:Act} {w:World}
theorem kZ{TT:Tab}(hT:cK P TT){t:TypeId}{u:Ty}(h:fS TT t u=true):(∃ k,u=.int k/\P.underlying t=some (.int k))\/(u=.bool/\P.underlying t=some .bool)\/(u=.str/\P.underlying t=some .string):=by
 unfold fS at h
 cases hd:TT t with
 |none=>rw[hd]at h;cases h
 |some d=>
  rw[hd]at h
  simp only[ag,decide_eq_true_eq]at h
  obtain⟨rfl,h⟩:=h
  have bN:=(hT t d hd).desc
  grind
theorem uz{TT:Tab}(hT:cK P TT){t:TypeId}{u:Ty}(h:fS TT t u=true)(x y:u.T):lR u x y=eqV u x y:=by
 rcases kZ hT h with⟨k,rfl,_⟩|⟨rfl,_⟩|⟨rfl,_⟩ <;> rfl
theorem Gm{TT:Tab}(hT:cK P TT):∀ (fs:List (TypeId×Nat)) (u:Ty) (k:Nat) (x y:u.T),ff TT fs u k=true->uv TT fs u k x y=some (eqV u x y):=by
 intro fs
 induction fs with
 |nil=>intro u k x y h;cases u <;> simp only[ff,reduceCtorEq]at h;rfl
 |cons p fs ih=>
  intro u k x y h
  cases fs with
  |nil=>
   simp only[ff,ag]at h
   simp only[uv,h.1,h.2,Bool.and_self,cond_true,uz hT h.2]
  |cons q fs=>
   cases u <;> simp only[ff,reduceCtorEq,ag]at h
   rename_i s t
   simp only[uv,h.1,h.2.1,Bool.and_self,cond_true,ih t _ x.2 y.2 h.2.2,uz hT h.2.1]
   rfl
structure KOk(P:Program)(t:TypeId)(u:Ty):Prop where
 check:∀ (F:af) (w:World) (em:Bool) (x:u.T) (v:Value),RV (Rep F w u .ro) x v->(Instr.checkKey em 10000 t v).run P w=.ok () w
 val:∀ (F:af) (w:World) (x y:u.T) (v z:Value),RV (Rep F w u .ro) x v->RV (Rep F w u .ro) y z->eqV u x y=true->v=z
 bits:∀ (F:af) (w:World) (x:u.T) (v:Value),RV (Rep F w u .ro) x v->Instr.sameBits 10000 v v=true
 ask:(∃ kd,P.underlying t=some kd/\∀ (F:af) (w:World) (x y:u.T) (v z:Value),RV (Rep F w u .ro) x v->RV (Rep F w u .ro) y z->Instr.sameNow kd v z=some (eqV u x y))\/
  (∃ fs,P.underlying t=some (.struct fs)/\∀ (F:af) (w:World) (x y:u.T) (v z:Value),RV (Rep F w u .ro) x v->RV (Rep F w u .ro) y z->(Op.equal t v z).run P w=.ok (eqV u x y) w)
theorem rF{k:IntKind}{x:Int}{v:Value}(h:RV (t:=.int k) (Rep F w (.int k) .ro) x v):v=.int k x/\inK k x:=by
 obtain⟨c,h1,h2⟩:=h
 exact pk h1 h2
theorem ya(u v:ByteArray):(u == v)=decide (cd u=cd v):=by
 rw[cI,decide_eq_true_eq,lI]
 exact MapKept.bytes_beq u v
theorem rG{TT:Tab}(hT:cK P TT){t:TypeId}{u:Ty}(h:fS TT t u=true){x:u.T}{c:List Value}{S:af}(hx:Rep F w u .ro x c S)(n:Nat):∃ v,c=[v]/\Instr.sameBits n v v=true:=by
 rcases kZ hT h with⟨k,rfl,_⟩|⟨rfl,_⟩|⟨rfl,_⟩
 ·obtain⟨rfl,_⟩:=hx;exact⟨_,rfl,by simp[Instr.sameBits]⟩
 ·have hx:c=[.bool x]:=hx;subst hx;exact⟨_,rfl,by simp[Instr.sameBits]⟩
 ·obtain⟨u,rfl,_⟩:=hx;exact⟨_,rfl,by simp[Instr.sameBits,MapKept.bytes_beq]⟩
theorem uA{TT:Tab}(hT:cK P TT){t:TypeId}{u:Ty}(h:fS TT t u=true){x y:u.T}{c d:List Value}{S S':af}(hx:Rep F w u .ro x c S)(hy:Rep F w u .ro y d S')(e:eqV u x y=true):c=d:=by
 rcases kZ hT h with⟨k,rfl,_⟩|⟨rfl,_⟩|⟨rfl,_⟩
 ·obtain⟨rfl,_⟩:=hx;obtain⟨rfl,_⟩:=hy
  have e:=of_decide_eq_true e
  subst e;rfl
 ·have hx:c=[.bool x]:=hx;have hy:d=[.bool y]:=hy;subst hx;subst hy
  have e:((x:Bool) == y)=true:=e
  simp_all
 ·obtain⟨u,rfl,rfl,_⟩:=hx;obtain⟨v,rfl,rfl,_⟩:=hy
  have e:=of_decide_eq_true e
  grind [lI]
theorem uB{TT:Tab}(hT:cK P TT){t:TypeId}{u:Ty}(h:fS TT t u=true){x:u.T}{c:List Value}{S:af}(hx:Rep F w u .ro x c S)(em:Bool)(n:Nat):∃ v,c=[v]/\(Instr.checkKey em (n+1) t v).run P w=.ok () w:=by
 rcases kZ hT h with⟨k,rfl,hu⟩|⟨rfl,hu⟩|⟨rfl,hu⟩
 ·obtain⟨rfl,_⟩:=hx;exact⟨_,rfl,by simp[Instr.checkKey,run_underlying hu,Result.andThen]⟩
 ·have hx:c=[.bool x]:=hx;subst hx;exact⟨_,rfl,by simp[Instr.checkKey,run_underlying hu,Result.andThen]⟩
 ·obtain⟨u,rfl,_⟩:=hx;exact⟨_,rfl,by simp[Instr.checkKey,run_underlying hu,Result.andThen]⟩
theorem Q4{TT:Tab}(hT:cK P TT):∀ (fs:List (TypeId×Nat)) (u:Ty) (k:Nat) (x y:u.T) (c d:List Value) (S S':af),ff TT fs u k=true->Rep F w u .ro x c S->Rep F w u .ro y d S'->eqV u x y=true->c=d:=by
 intro fs
 induction fs with
 |nil=>intro u k x y c d S S' h hx hy e;cases u <;> simp only[ff,reduceCtorEq]at h;have hx:c=[]:=hx;have hy:d=[]:=hy;rw[hx,hy]
 |cons p fs ih=>
  intro u k x y c d S S' h hx hy e
  cases fs with
  |nil=>
   simp only[ff,ag]at h
   grind [uA]
  |cons q fs=>
   cases u <;> simp only[ff,reduceCtorEq,ag]at h
   rename_i s t
   obtain⟨c1,c2,S1,S2,rfl,h1,h2,_⟩:=hx
   obtain⟨d1,d2,T1,T2,rfl,g1,g2,_⟩:=hy
   have e:(eqV s x.1 y.1&&eqV t x.2 y.2)=true:=e
   simp only[ag]at e
   rw[uA hT h.2.1 h1 g1 e.1,ih t _ _ _ _ _ _ _ h.2.2 h2 g2 e.2]
theorem M6{TT:Tab}(hT:cK P TT)(n:Nat):∀ (fs:List (TypeId×Nat)) (u:Ty) (k:Nat) (x:u.T) (c:List Value) (S:af),ff TT fs u k=true->Rep F w u .ro x c S->∀ v∈c,Instr.sameBits n v v=true:=by
 intro fs
 induction fs with
 |nil=>intro u k x c S h hx v hv;cases u <;> simp only[ff,reduceCtorEq]at h;have hx:c=[]:=hx;subst hx;simp at hv
 |cons p fs ih=>
  intro u k x c S h hx v hv
  cases fs with
  |nil=>
   simp only[ff,ag]at h
   obtain⟨z,rfl,hz⟩:=rG hT h.2 hx n
   simp_all
  |cons q fs=>
   cases u <;> simp only[ff,reduceCtorEq,ag]at h
   rename_i s t
   obtain⟨c1,c2,S1,S2,rfl,h1,h2,_⟩:=hx
   obtain⟨z,rfl,hz⟩:=rG hT h.2.1 h1 n
   rcases au.1 hv with hv|hv
   ·simp_all
   ·exact ih t _ _ _ _ h.2.2 h2 v hv
theorem IS{TT : Tab}(hT : cK P TT)(em : Bool)(n : Nat){cx : List Value}: ∀ (fs : List (TypeId × Nat)) (fields : List Field) (u : Ty) (k : Nat) (x : u.T) (S : af), fields.map (fun f => (f.type, f.offset)) = fs → (∀ f ∈ fields, f.name ≠ "_") → ff TT fs u k = true → Rep F w u .ro x (cx.drop k) S →
 ∀ f∈fields,∃ v,(part f.type cx.toArray f.offset).run P w=.ok v w/\(Instr.checkKey em (n+1) f.type v).run P w=.ok () w:=by
 intro fs
 induction fs with
 |nil=>
  intro fields u k x S hf hn h hx f hfm;have:fields=[]:=by simpa using hf
  subst this;simp at hfm
 |cons p fs ih=>
  intro fields u k x S hf hn h hx f hfm
  cases fields with
  |nil=>simp at hf
  |cons g fields=>
  simp only[fH,e8]at hf
  obtain⟨hp,hf⟩:=hf
  have one:∀ (s:Ty) (x1:s.T) (c1 c2:List Value) (S1:af),Nat.beq p.2 k=true->fS TT p.1 s=true->cx.drop k=c1++c2->Rep F w s .ro x1 c1 S1->∃ v,(part g.type cx.toArray g.offset).run P w=.ok v w/\(Instr.checkKey em (n+1) g.type v).run P w=.ok () w:=by
   intro s x1 c1 c2 S1 hb hl hd h1
   obtain⟨v,rfl,hv⟩:=uB hT hl h1 em n
   obtain⟨_,_,_,_,_,e4⟩:=x4 hT hl h1 h1
   have hk:=bI hb
   rw[<-hp]at hk hv e4
   simp only at hk hv e4
   refine⟨v,lS e4 ?_,hv⟩
   rw[hk]
   have:=congrArg (·[0]?) hd
   simpa using this
  cases fs with
  |nil=>
   have:fields=[]:=by simpa using hf
   subst this
   simp only[ff,ag]at h
   simp only[aK]at hfm
   subst hfm
   exact one u x (cx.drop k) [] S h.1 h.2 (by simp) hx
  |cons q fs=>
   cases u <;> simp only[ff,reduceCtorEq,ag]at h
   rename_i s t
   obtain⟨c1,c2,S1,S2,ex,h1,h2,_⟩:=hx
   rcases aI.1 hfm with rfl|hfm
   ·exact one s x.1 c1 c2 S1 h.1 h.2.1 ex h1
   ·have w1:=aQ _ _ _ _ _ _ _ h1
    have r1:cx.drop (k+s.width)=c2:=by rw[<-ij,ex,<-w1,om]
    exact ih fields t (k+s.width) x.2 S2 hf (λf hf=>hn f (by simp[hf])) h.2.2 (by rw[r1];exact h2) f hfm
theorem kOk{V:Env}(hV:fT P V){t:TypeId}{d:TD}(h:M5 V.TT V.eq t=some d):KOk P t d.ty:=by
 unfold M5 at h
 cases hd:V.TT t with
 |none=>rw[hd]at h;cases h
 |some d0=>
 rw[hd]at h
 simp only at h
 have bN:=(hV.tab t d0 hd).desc
 have leaf:fS V.TT t d0.ty=true->d0=d->KOk P t d.ty:=by
  rintro hl rfl
  have hk:=kZ hV.tab hl
  refine⟨λF w em x v hx=>?_,λF w x y v z hx hy e=>?_,λF w x v hx=>?_,.inl ?_⟩
  ·obtain⟨c,h1,h2⟩:=hx
   obtain⟨v',rfl,hc⟩:=uB hV.tab hl h1 em 9999
   have:v'=v:=by
    rcases hk with⟨k,e,_⟩|⟨e,_⟩|⟨e,_⟩ <;> (unfold VR at h2;rw[e]at h2;simpa [Ty.agg]using h2.1)
   simp_all
  ·obtain⟨c,h1,h2⟩:=hx
   obtain⟨c',g1,g2⟩:=hy
   have:=uA hV.tab hl h1 g1 e
   subst this
   rcases hk with⟨k,e,_⟩|⟨e,_⟩|⟨e,_⟩ <;> (unfold VR at h2 g2;rw[e]at h2 g2;simp[Ty.agg]at h2 g2;rw[h2.1]at g2;simpa using g2.1)
  ·obtain⟨c,h1,h2⟩:=hx
   obtain⟨v',rfl,hc⟩:=rG hV.tab hl h1 10000
   have:v'=v:=by
    rcases hk with⟨k,e,_⟩|⟨e,_⟩|⟨e,_⟩ <;> (unfold VR at h2;rw[e]at h2;simpa [Ty.agg]using h2.1)
   simp_all
  ·rcases hk with⟨k,e,hu⟩|⟨e,hu⟩|⟨e,hu⟩
   ·refine⟨_,hu,λF w x y v z hx hy=>?_⟩
    revert x y hx hy
    rw[e]
    intro x y hx hy
    obtain⟨rfl,_⟩:=rF hx
    obtain⟨rfl,_⟩:=rF hy
    simp only[Instr.sameNow,if_true,bh]
    rfl
   ·refine⟨_,hu,λF w x y v z hx hy=>?_⟩
    revert x y hx hy
    rw[e]
    rintro x y ⟨c,h1,h2⟩ ⟨c',g1,g2⟩
    have h1:c=[.bool x]:=h1
    have g1:c'=[.bool y]:=g1
    subst h1;subst g1
    simp[VR,Ty.agg]at h2 g2
    rw[<-h2.1,<-g2.1]
    rfl
   ·refine⟨_,hu,λF w x y v z hx hy=>?_⟩
    revert x y hx hy
    rw[e]
    rintro x y ⟨c,⟨u1,rfl,rfl,_⟩,h2⟩ ⟨c',⟨u2,rfl,rfl,_⟩,g2⟩
    simp[VR,Ty.agg]at h2 g2
    rw[<-h2.1,<-g2.1]
    simp only[Instr.sameNow,ya]
    rfl
 split at h
 ·rename_i k hk
  injection h with h
  rw[hk]at bN
  refine leaf ?_ h
  simp[fS,hd,hk]
 ·rename_i hk
  injection h with h
  refine leaf ?_ h
  simp[fS,hd,hk]
 ·rename_i hk
  injection h with h
  refine leaf ?_ h
  simp[fS,hd,hk]
 ·rename_i fs hk
  split at h
  case h_2=>cases h
  rename_i ut hty
  cases hq:V.eq t&&ff V.TT fs ut 0
  ·rw[hq]at h;cases h
  rw[hq]at h
  injection h with h
  subst h
  simp only[ag]at hq
  have hE:=hV.eqs t hq.1
  rw[hk]at bN
  obtain⟨f,hf1,hf2⟩:=bN
  have hfo:P.fieldsOf t=f:=by simp[Program.fieldsOf,hf1]
  have hu:P.underlying t=some (.struct (P.fieldsOf t)):=by rw[hfo];exact hf1
  have hnm : ∀ g ∈ (P.fieldsOf t).toList, g.name ≠ "_" := fun g hg => of_decide_eq_true (cG.1 hE.names g hg)
  rw[hty]
  have rv:∀ (F:af) (w:World) (x:ut.T) (v:Value),RV (t:=.st ut) (Rep F w (.st ut) .ro) x v->∃ c,Rep F w ut .ro x c af.none/\v=.agg c.toArray:=by
   rintro F w x v ⟨c,h1,h2⟩
   exact⟨c,h1,by simpa [VR,Ty.agg]using h2⟩
  refine⟨λF w em x v hx=>?_,λF w x y v z hx hy e=>?_,λF w x v hx=>?_,.inr ⟨_,hu,λF w x y v z hx hy=>?_⟩⟩
  ·obtain⟨c,h1,rfl⟩:=rv F w x v hx
   have hc:=IS (F:=F) (w:=w) hV.tab em 9998 (cx:=c) fs (P.fieldsOf t).toList ut 0 x af.none (by rw[hfo];exact hf2) hnm hq.2 h1
   rw[show(10000:Nat)=9999+1 from rfl,Instr.checkKey]
   simp only[ba,run_underlying hu,bw]
   rw[<-Array.forIn_toList]
   generalize (P.fieldsOf t).toList=L at hc hnm
   induction L with
   |nil=>simp
   |cons g L ih=>
    obtain⟨z,p1,p2⟩:=hc g (by simp)
    have hn:=hnm g (by simp)
    simp only[List.forIn_cons,ba,hn,ne_eq,not_false_eq_true,if_true,bw,p1,p2,bP]
    exact ih (λy hy=>hc y (by simp[hy])) (λy hy=>hnm y (by simp[hy]))
  ·obtain⟨c,h1,rfl⟩:=rv F w x v hx
   obtain⟨c',g1,rfl⟩:=rv F w y z hy
   rw[Q4 hV.tab fs ut 0 x y c c' _ _ hq.2 h1 g1 e]
  ·obtain⟨c,h1,rfl⟩:=rv F w x v hx
   have hb:=M6 (F:=F) (w:=w) hV.tab 9999 fs ut 0 x c _ hq.2 h1
   rw[show(10000:Nat)=9999+1 from rfl]
   simp only[Instr.sameBits,beq_self_eq_true,bG,cG]
   intro p hp
   have:∀ (l:List Value) (q:Value×Value),q∈l.zip l->q.1∈l/\q.1=q.2:=by
    intro l
    induction l with
    |nil=>intro q hq;simp at hq
    |cons y ys ih=>
     intro q hq
     simp only[List.zip_cons_cons,aI]at hq
     rcases hq with rfl|hq
     ·exact⟨by simp,rfl⟩
     ·exact⟨by simp[(ih q hq).1],(ih q hq).2⟩
   obtain⟨q1,q2⟩:=this _ p hp
   obtain⟨p1,p2⟩:=p
   simp only at q1 q2
   subst q2
   exact hb p1 q1
  ·obtain⟨c,h1,rfl⟩:=rv F w x v hx
   obtain⟨c',g1,rfl⟩:=rv F w y z hy
   have hfs:=Ee (P:=P) (w:=w) hV.tab (cx:=c) (cy:=c') 9998 fs (P.fieldsOf t).toList ut 0 x y (eqV ut x y) af.none af.none (by rw[hfo];exact hf2) hnm (Gm hV.tab fs ut 0 x y hq.2) h1 g1
   simp only[Op.equal,Op.maxDepth]
   rw[run_equalIn_struct w 9999 t _ _ hu hE.held]
   exact hfs
 ·cases h
theorem dN.len{α β:Type}{Rk:α->Value->Prop}{Rv:β->Value->Prop}:∀ {xs:List (α×β)} {es:List MapEntry} {i:Nat},dN Rk Rv xs es i->es.length=xs.length:=by
 intro xs
 induction xs with
 |nil=>intro es i h;cases h;rfl
 |cons x xs ih=>rintro es i ⟨e,r,rfl,_,_,_,hr⟩;simp[ih hr]
def km{α β:Type}(eq:α->α->Bool)(k:α):List (α×β)->List MapEntry->Nat->Option (Nat×Value)
 |p::r,e::es,i=>bif eq k p.1 then some (i,e.val)else km eq k r es (i+1)
 |_,_,_=>none
theorem pZ{t:TypeId}{u:Ty}(K:KOk P t u){β:Type}{Rv:β->Value->Prop}{x:u.T}{v:Value}(hx:RV (Rep F w u .ro) x v){xs:List (u.T×β)}{es:List MapEntry}{i:Nat}(h:dN (RV (Rep F w u .ro)) Rv xs es i):
 (Instr.findKey t v es).run P w=.ok (km (eqV u) x xs es 0) w:=by
 rcases K.ask with⟨kd,hu,hs⟩|⟨fs,hu,hs⟩
 ·have main:∀ (xs:List (u.T×β)) (es:List MapEntry) (i j:Nat),dN (RV (Rep F w u .ro)) Rv xs es i->Instr.findNow kd v es j=some (km (eqV u) x xs es j):=by
   intro xs
   induction xs with
   |nil=>intro es i j h;cases h;rfl
   |cons y ys ih=>
    rintro es i j ⟨e,r,rfl,_,hk,_,hr⟩
    simp only[Instr.findNow,hs F w x y.1 v e.key hx hk,km]
    grind
  simp[Instr.findKey,run_underlying hu,main xs es i 0 h]
 ·have main:∀ (xs:List (u.T×β)) (es:List MapEntry) (i j:Nat),dN (RV (Rep F w u .ro)) Rv xs es i->(Instr.findAsking t v es j).run P w=.ok (km (eqV u) x xs es j) w:=by
   intro xs
   induction xs with
   |nil=>intro es i j h;cases h;simp[Instr.findAsking,km]
   |cons y ys ih=>
    rintro es i j ⟨e,r,rfl,_,hk,_,hr⟩
    simp only[Instr.findAsking,ba,hs F w x y.1 v e.key hx hk,bw,km]
    cases eqV u x y.1
    ·grind
    ·simp
  cases es with
  |nil=>simp_all [Instr.findKey,run_underlying,Instr.findNow,km]
  |cons e es=>
   have:Instr.findNow (.struct fs) v (e::es) 0=none:=by simp[Instr.findNow,Instr.sameNow]
   simp only[Instr.findKey,ba,run_underlying hu,bw,this]
   grind
theorem find_spec{α:Type}{eq:α->α->Bool}{k:α}{q:IntKind}{Rk:α->Value->Prop}:∀ {xs:List (α×Int)} {es:List MapEntry} {i:Nat} (j:Nat),dN Rk (RV (t:=.int q) (Rep F w (.int q) .ro)) xs es i->
 (eX eq k xs=false/\km eq k xs es j=none/\cR eq k xs=0/\mIx eq k xs=xs.length/\(∀ v,eY eq k v xs=xs++[(k,v)])/\CB eq k xs=xs++[(k,0)])\/
 (eX eq k xs=true/\km eq k xs es j=some (j+mIx eq k xs,.int q (cR eq k xs))/\inK q (cR eq k xs)/\mIx eq k xs<xs.length/\∃ p e,xs[mIx eq k xs]?=some p/\es[mIx eq k xs]?=some e/\eq k p.1=true/\Rk p.1 e.key/\e.born=i+mIx eq k xs):=by
 intro xs
 induction xs with
 |nil=>intro es i j h;cases h;exact .inl ⟨rfl,rfl,rfl,rfl,λ_=>rfl,rfl⟩
 |cons y ys ih=>
  rintro es i j ⟨e,r,rfl,hb,hk,hv,hr⟩
  obtain⟨Q5,hin⟩:=rF hv
  cases he:eq k y.1
  ·rcases ih (j+1) hr with⟨h1,h2,h3,h4,h5,h6⟩|⟨h1,h2,h3,h4,p,e',h5,h6,h7,h8,h9⟩
   ·simp_all [eX,km,cR,mIx,eY,CB]
   ·right
    refine⟨?_,?_,?_,?_,p,e',?_,?_,h7,h8,?_⟩
    ·simp only[eX,he,cond_false];exact h1
    ·simp only[km,he,cond_false,h2,cR,mIx];congr 2;omega
    ·simp only[cR,he,cond_false];exact h3
    ·simp only[mIx,he,cond_false,aO];omega
    ·simp only[mIx,he,cond_false];simpa using h5
    ·simp only[mIx,he,cond_false];simpa using h6
    ·simp only[mIx,he,cond_false,h9];omega
  ·right
   refine⟨?_,?_,?_,?_,y,e,?_,?_,he,hk,?_⟩
   ·simp only[eX,he,cond_true]
   ·simp only[km,he,cond_true,mIx,cR,Q5,ik]
   ·simp only[cR,he,cond_true];exact hin
   ·simp[mIx,he]
   ·simp[mIx,he]
   ·simp[mIx,he]
   ·simp only[mIx,he,cond_true,hb,ik]
theorem dN.push{α β:Type}{Rk:α->Value->Prop}{Rv:β->Value->Prop}{k:α}{v:β}{e:MapEntry}(hk:Rk k e.key)(hv:Rv v e.val):∀ {xs:List (α×β)} {es:List MapEntry} {i:Nat},dN Rk Rv xs es i->e.born=i+xs.length->dN Rk Rv (xs++[(k,v)]) (es++[e]) i:=by
 intro xs
 induction xs with
 |nil=>intro es i h hb;cases h;exact⟨e,[],rfl,by simpa using hb,hk,hv,rfl⟩
 |cons y ys ih=>
  rintro es i ⟨e',r,rfl,hb',hk',hv',hr⟩ hb
  exact⟨e',r++[e],rfl,hb',hk',hv',ih hr (by rw[hb,aO];omega)⟩
theorem dN.modify{α β:Type}{Rk:α->Value->Prop}{Rv:β->Value->Prop}{f:MapEntry->MapEntry}{g:α×β->α×β}:∀ {xs:List (α×β)} {es:List MapEntry} {i:Nat} (n:Nat),dN Rk Rv xs es i->(∀ x e,xs[n]?=some x->es[n]?=some e->Rk x.1 e.key->Rv x.2 e.val->(f e).born=e.born/\Rk (g x).1 (f e).key/\Rv (g x).2 (f e).val)->dN Rk Rv (xs.modify n g) (es.modify n f) i:=by
 intro xs
 induction xs with
 |nil=>intro es i n h hf;cases h;simp[dN]
 |cons y ys ih=>
  rintro es i n ⟨e,r,rfl,hb,hk,hv,hr⟩ hf
  cases n with
  |zero=>
   obtain⟨h1,h2,h3⟩:=hf y e rfl rfl hk hv
   exact⟨f e,r,rfl,h1.trans hb,h2,h3,hr⟩
  |succ n=>exact⟨e,r.modify n f,rfl,hb,hk,hv,ih n hr (λx e' hx he=>hf x e' (by simpa using hx) (by simpa using he))⟩
theorem zX{α β:Type}{eq:α->α->Bool}{k:α}{v:β}:∀ {xs:List (α×β)},eX eq k xs=true->eY eq k v xs=xs.modify (mIx eq k xs) λ_=>(k,v):=by
 intro xs
 induction xs with
 |nil=>intro h;cases h
 |cons y ys ih=>
  intro h
  cases he:eq k y.1
  all_goals simp_all [eX,eY,mIx]
theorem zY{α:Type}{eq:α->α->Bool}{k:α}:∀ {xs:List (α×Int)},eX eq k xs=true->CB eq k xs=xs.modify (mIx eq k xs) λp=>(k,p.2):=by
 intro xs
 induction xs with
 |nil=>intro h;cases h
 |cons y ys ih=>
  intro h
  cases he:eq k y.1
  all_goals simp_all [eX,CB,mIx]
theorem Gn{α β:Type}{Rk:α->Value->Prop}{Rv:β->Value->Prop}:∀ {xs:List (α×β)} {es:List MapEntry} {i:Nat} (n:Nat),dN Rk Rv xs es i->n<xs.length->es.findIdx? (λe=>(e.born:Int) == ((i+n:Nat):Int))=some n:=by
 intro xs
 induction xs with
 |nil=>intro es i n h hn;simp at hn
 |cons y ys ih=>
  rintro es i n ⟨e,r,rfl,hb,hk,hv,hr⟩ hn
  rw[List.findIdx?_cons]
  cases n with
  |zero=>simp[hb]
  |succ n=>
   have hne:((e.born:Int) == ((i+(n+1):Nat):Int))=false:=by grind
   rw[hne]
   have:=ih n hr (by simpa using hn)
   grind
theorem Eh{k v:Ty}{m:Md}{x:List (k.T×v.T)}{cs:List Value}{S:af}{z:Value}(h:Rep F w (.map k v) m x cs S)(hv:VR (.map k v) cs z):
 (z=.map none/\x=[])\/∃ b es,z=.map (some b)/\w.heap[b]?=some (.map es es.size)/\dN (RV (Rep F w k .ro)) (RV (Rep F w v .ro)) x es.toList 0:=by
 have ro:tU F w (RV (Rep F w k .ro)) (RV (Rep F w v .ro)) x cs->(z=.map none/\x=[])\/∃ b es,z=.map (some b)/\w.heap[b]?=some (.map es es.size)/\dN (RV (Rep F w k .ro)) (RV (Rep F w v .ro)) x es.toList 0:=by
  rintro(⟨rfl,rfl⟩|⟨b,es,rfl,hb,_,hr⟩)
  ·simp[VR,Ty.agg]at hv;exact Or.inl ⟨hv.1.symm,rfl⟩
  ·simp[VR,Ty.agg]at hv;exact Or.inr ⟨b,es,hv.1.symm,hb,hr⟩
 cases m with
 |ro=>exact ro h
 |pr _ _=>exact ro h
 |own m=>
  obtain⟨b,es,rfl,hb,_,hr⟩:=h
  simp[VR,Ty.agg]at hv
  grind
theorem Ei(h:aP B F Sg cg σ a w){R:Type}{e:ar}{k v:Ty}{K:List (k.T×v.T)->Option R}{r:R}(hk:x9 σ e k v K=some r){z:Value}(he:aF F w σ.L σ.U cg e z):
 ∃ x,K x=some r/\((z=.map none/\x=[])\/∃ b es,z=.map (some b)/\w.heap[b]?=some (.map es es.size)/\dN (RV (Rep F w k .ro)) (RV (Rep F w v .ro)) x es.toList 0):=by
 unfold x9 at hk
 split at hk
 ·obtain⟨l,b,π,c,hl,hk,hg,ho,ds,s0,S',cf,bF,fy,fY,hv⟩:=fJ h hk he
  split at hk
  ·rename_i hc
   obtain⟨t,x⟩:=c
   simp only at hc
   subst hc
   exact⟨x,hk,Eh bF hv⟩
  ·cases hk
 grind [gE,Eh]
def fW(w:World)(b:Nat)(es:Array MapEntry):World:={w with heap:=w.heap.setIfInBounds b (.map es es.size)}
theorem yb(h:aP B F Sg cg σ a w){R:Type}{e:ar}{k v:Ty}{K:Nat->Lab->List Stp->List (k.T×v.T)->Option R}{r:R}(hk:wi σ e k v K=some r){z:Value}(he:aF F w σ.L σ.U cg e z):
 ∃ l b π x cb es,K l b π x=some r/\z=.map (some cb)/\w.heap[cb]?=some (.map es es.size)/\dN (RV (Rep F w k .ro)) (RV (Rep F w v .ro)) x es.toList 0/\
  ∀ (y:List (k.T×v.T)) (es':Array MapEntry) (K':St->Option R) (r':R),dN (RV (Rep F w k .ro)) (RV (Rep F w v .ro)) y es'.toList 0->kw σ l b π k v y K'=some r'->
   ∃ σ' Sg',K' σ'=some r'/\σ'.E=σ.E/\aP B F Sg' cg σ' a (fW w cb es'):=by
 unfold wi at hk
 split at hk
 case h_2=>cases hk
 obtain⟨l,b,π,c,hl,hk,hg,ho,ds,s0,S',cf,bF,fy,fY,hv⟩:=fJ h hk he
 cases hm:atM b.t b.m π with
 |ro=>rw[hm]at hk;cases hk
 |pr _ _=>rw[hm]at hk;cases hk
 |own m1=>
 rw[hm]at hk
 simp only[Md.eU,cond_true]at hk
 split at hk
 case isFalse=>cases hk
 rename_i hc
 obtain⟨t,x⟩:=c
 simp only at hc
 subst hc
 simp only[hm]at bF
 obtain⟨cb,es,rfl,hb,hS,hr⟩:=bF
 simp[VR,Ty.agg]at hv
 refine⟨l,b,π,x,cb,es,hk,hv.1.symm,hb,hr,?_⟩
 intro y es' K' r' hyr db
 unfold kw at db
 cases hM:gk b.t b.m π (.own .ro)with
 |none=>rw[hM]at db;cases db
 |some mr=>
 rw[hM]at db
 simp only at db
 rw[iJ]at db
 obtain⟨x',hx',db⟩:=b9.1 db
 have hlt:cb<w.heap.size:=by
  rcases aj cb w.heap.size with h0|h0
  ·exact h0
  ·rw[Array.getElem?_eq_none h0]at hb;cases hb
 have mO:∀ k,k≠cb->(fW w cb es').heap[k]?=w.heap[k]?:=λk hk=>by
  simp only[fW];rw[Array.getElem?_setIfInBounds_ne (by omega)]
 have hFw:∀ k,F k->(fW w cb es').heap[k]?=w.heap[k]?:=λk hk=>mO k (λe=>h.ek l b hl cb (fy cb hS) (e ▸ hk))
 have th:Rep F (fW w cb es') (.map k v) (.own .ro) y [.map (some cb)] S':=by
  refine⟨cb,es',rfl,by simp only[fW];rw[Array.getElem?_setIfInBounds_self_of_lt hlt],hS,hyr.imp ?_ ?_⟩
  ·rintro y u ⟨c,h1,h2⟩;exact⟨c,aU (Sub.refl F) hFw _ _ _ _ _ _ h1 (Sub.refl _) (λ_ h=>h.elim),h2⟩
  ·rintro y u ⟨c,h1,h2⟩;exact⟨c,aU (Sub.refl F) hFw _ _ _ _ _ _ h1 (Sub.refl _) (λ_ h=>h.elim),h2⟩
 have bF:Rep F (fW w cb es') b.t mr x' (cg l) (λk=>(Sg l k/\¬S' k)\/S' k):=by
  rcases fY with⟨pre,post,hc,_,w2⟩|⟨bb,o,_,hSb,hnb,fu,w2⟩
  ·rw[hc]
   exact w2 F _ y _ S' x' (.own .ro) mr (pQ _ _ _ _ _ hM) (Sub.refl _) hx' th rfl (λk a _=>a) (λk _ hn=>mO k (λe=>hn (e ▸ hS))) hFw
  ·obtain⟨c,e,hbb,l1,r1,hcl,hll⟩:=fu
   have hbc:bb≠cb:=λe=>hnb (e ▸ hS)
   exact w2 F _ y _ S' x' (.own .ro) mr (pQ _ _ _ _ _ hM) (Sub.refl _) hx' th rfl (λk a _=>a) (λk _ hn _=>mO k (λe=>hn (e ▸ hS))) ⟨c,c,e,l1,r1,hbb,(mO bb hbc).trans hbb,hcl,hcl,hll⟩ hFw
 exact⟨_,_,db,rfl,h.sJ (w':=fW w cb es') rfl rfl rfl (by simp[fW]) hl (λk _ hn=>mO k (λe=>hn (e ▸ fy cb hS))) (b':=⟨b.v+1,b.t,mr,x'⟩) (λ_ h=>h) (λ_ _ h=>h) (cH _) (Sub.refl _) bF (upd σ.L l (some ⟨b.v+1,b.t,mr,x'⟩)) (aG _ _ _) (λj hj=>by rw[aW _ _ hj];exact .inr rfl) (λk hk=>.inl hk) (λk hk=>.inl (hk.elim (λh=>h.1) (λh=>fy k h)))⟩
theorem oC{R:Type}{V:Env}(hV:fT P V){t:TypeId}{K:Ty->IntKind->Option R}{r:R}(hk:mX V t K=some r):
 ∃ k e u q,K u q=some r/\P.underlying t=some (.map k e)/\KOk P k u/\∀ w:World,(zeroValue e).run P w=.ok (.int q 0) w:=by
 unfold mX at hk
 cases hd:V.TT t with
 |none=>rw[hd]at hk;cases hk
 |some d=>
 rw[hd]at hk
 simp only at hk
 have bN:=(hV.tab t d hd).desc
 split at hk
 case h_2=>cases hk
 rename_i k e hkd
 rw[hkd]at bN
 cases hkk:M5 V.TT V.eq k with
 |none=>rw[hkk]at hk;cases hk
 |some dk=>
 rw[hkk]at hk
 simp only at hk
 cases he:V.TT e with
 |none=>rw[he]at hk;cases hk
 |some de=>
 rw[he]at hk
 simp only at hk
 split at hk
 case h_2=>cases hk
 rename_i q hq
 obtain⟨i,hi,hz⟩:=(hV.tab e de he).zi q hq
 exact⟨k,e,dk.ty,q,hk,bN,kOk hV hkk,λw=>by simp[zeroValue,typeInfo,hi,hz]⟩
theorem rH{R:Type}{e:ar}{want:Ty}{K:want.T->Option R}{r:R}(h:asT e want K=some r){v:Value}(he:aF F w σ.L σ.U cg e v):∃ x,K x=some r/\RV (Rep F w want .ro) x v:=by
 obtain⟨x,cs,h1,h2,h3⟩:=gE h he
 exact⟨x,h1,cs,h2,h3⟩
theorem TW{L:Nat->Option Lab}{U:Nat->Bool}{e1 e2:ar}{v1 v2:Value}(h1:aF F w L U cg e1 v1)(h2:aF F w L U cg e2 v2):iu F w L U cg (.tup [e1,e2]) (.tuple #[v1,v2]):=
 ⟨[v1,v2],rfl,_,_,rfl,h1,_,_,rfl,h2,rfl⟩
theorem jU{b:Nat}{es es':Array MapEntry}{c c':Nat}(hb:w.heap[b]?=some (.map es c))(hc:c'=es'.size):(setObj b (.map es' c')).run P w=.ok () (fW w b es'):=by
 subst hc
 rw[MapKept.run_setObj_map _ hb]
 rfl
theorem run_store{t k e:TypeId}{u:Ty}(K:KOk P k u)(ht:P.underlying t=some (.map k e)){q:IntKind}{x:u.T}{key:Value}(hx:RV (Rep F w u .ro) x key){n:Int}(hn:inK q n){b:Nat}{es:Array MapEntry}(hb:w.heap[b]?=some (.map es es.size)){xs:List (u.T×Int)}(h:dN (RV (Rep F w u .ro)) (RV (t:=.int q) (Rep F w (.int q) .ro)) xs es.toList 0):
 ∃ es',(Instr.mapUpdate t (.map (some b)) key (.int q n)).run P w=.ok () (fW w b es')/\dN (RV (Rep F w u .ro)) (RV (t:=.int q) (Rep F w (.int q) .ro)) (eY (eqV u) x n xs) es'.toList 0:=by
 have hck:=K.check F w false x key hx
 have hfd:=pZ K hx h
 have hrn:RV (t:=.int q) (Rep F w (.int q) .ro) n (.int q n):=⟨[.int q n],⟨rfl,hn⟩,by simp[VR,Ty.agg,Value.oneCell']⟩
 rcases find_spec (eq:=eqV u) (k:=x) 0 h with⟨h1,h2,h3,h4,h5,h6⟩|⟨h1,h2,h3,h4,p,e',h5,h6,h7,h8,h9⟩
 ·rw[h2]at hfd
  refine⟨es.push {key:=key,val:=.int q n,born:=es.size},?_,?_⟩
  ·simp only[Instr.mapUpdate,ba,run_underlying ht,bw,gq hb,hck,hfd]
   grind [jU]
  ·rw[h5,Array.toList_push]
   exact h.push (e:={key:=key,val:=.int q n,born:=es.size}) hx hrn (by rw[<-h.len];simp)
 ·rw[h2,eF]at hfd
  have vZ:e'.key=key:=(K.val F w x p.1 key e'.key hx h8 h7).symm
  have hst:(Instr.keyThatStays (((es[mIx (eqV u) x xs]?).map (·.key)).getD key) key).run P w=.ok key w:=by
   rw[Array.getElem?_toList]at h6
   rw[h6]
   simp only[dy,oc,vZ,Instr.keyThatStays,K.bits F w x key hx,if_true,bP]
  refine⟨es.modify (mIx (eqV u) x xs) λe=>{e with key:=key,val:=.int q n},?_,?_⟩
  ·simp only[Instr.mapUpdate,ba,run_underlying ht,bw,gq hb,hck,hfd,hst]
   grind [jU]
  ·rw[zX h1,qY]
   exact h.modify _ (λ_ _ _ _ _ _=>⟨rfl,hx,hrn⟩)
theorem Gp{t k e:TypeId}{u:Ty}(K:KOk P k u)(ht:P.underlying t=some (.map k e)){q:IntKind}(hz:(zeroValue e).run P w=.ok (.int q 0) w){x:u.T}{key:Value}(hx:RV (Rep F w u .ro) x key){b:Nat}{es:Array MapEntry}(hb:w.heap[b]?=some (.map es es.size)){xs:List (u.T×Int)}(h:dN (RV (Rep F w u .ro)) (RV (t:=.int q) (Rep F w (.int q) .ro)) xs es.toList 0):
 ∃ es',(Instr.mapEntry t (.map (some b)) key).run P w=.ok (.tuple #[.int q (cR (eqV u) x xs),goInt (CE (eqV u) x xs)]) (fW w b es')/\dN (RV (Rep F w u .ro)) (RV (t:=.int q) (Rep F w (.int q) .ro)) (CB (eqV u) x xs) es'.toList 0/\inK q (cR (eqV u) x xs)/\mIx (eqV u) x xs<=xs.length:=by
 have hck:=K.check F w false x key hx
 have hfd:=pZ K hx h
 have h0:inK q 0:=by cases q <;> simp[inK,kLo,kHi]
 have hr0:RV (t:=.int q) (Rep F w (.int q) .ro) (0:Int) (.int q 0):=⟨[.int q 0],⟨rfl,h0⟩,by simp[VR,Ty.agg,Value.oneCell']⟩
 have hlen:es.size=xs.length:=by rw[<-h.len];simp
 rcases find_spec (eq:=eqV u) (k:=x) 0 h with⟨h1,h2,h3,h4,h5,h6⟩|⟨h1,h2,h3,h4,p,e',h5,h6,h7,h8,h9⟩
 ·rw[h2]at hfd
  refine⟨es.push {key:=key,val:=.int q 0,born:=es.size},?_,?_,by rw[h3];exact h0,by omega⟩
  ·simp only[Instr.mapEntry,ba,run_underlying ht,bw,gq hb,hck,hfd,hz]
   grind [jU,Result.andThen_ok,Sem.run_pure,CE]
  ·rw[h6,Array.toList_push]
   exact h.push (e:={key:=key,val:=.int q 0,born:=es.size}) hx hr0 (by rw[<-h.len];simp)
 ·rw[h2,eF]at hfd
  have vZ:e'.key=key:=(K.val F w x p.1 key e'.key hx h8 h7).symm
  rw[Array.getElem?_toList]at h6
  have hst:(Instr.keyThatStays (((es[mIx (eqV u) x xs]?).map (·.key)).getD key) key).run P w=.ok key w:=by
   rw[h6]
   simp only[dy,oc,vZ,Instr.keyThatStays,K.bits F w x key hx,if_true,bP]
  refine⟨es.modify (mIx (eqV u) x xs) λe=>{e with key:=key},?_,?_,h3,by omega⟩
  ·simp only[Instr.mapEntry,ba,run_underlying ht,bw,gq hb,hck,hfd,hst]
   rw[jU hb (by simp)]
   simp_all [CE]
  ·rw[zY h1,qY]
   exact h.modify _ (λ_ _ _ _ _ hv=>⟨rfl,hx,hv⟩)
theorem yc{R:Type}{V:Env}(hV:fT P V)(h:aP B F Sg cg σ a w){o:Oper}{K:St->Option R}{r:R}(hN:∀ d,o.dst=some d->d<B.N)(hk:rE V σ o K=some r){Q:Exit->Act->World->Prop}:
 o.wp P a w (Nx B σ o.dst K r) Q:=by
 unfold rE at hk
 split at hk
 ·-- makeMap
  rename_i t ho
  cases hd:o.dst with
  |none=>rw[hd]at hk;cases hk
  |some d=>
  rw[hd]at hk
  simp only at hk
  obtain⟨k,e,u,q,hk,ht,hK,hz⟩:=oC hV hk
  cases hU:σ.U (d*8)
  ·rw[hU]at hk
   simp only[cond_false]at hk
   have bX:(Instr.makeMap t none).run P w=.ok (.map (some w.heap.size)) (w.alloc (.map #[] 0)):=rfl
   have i1:=h.jQ (w':=w.alloc (.map #[] 0)) rfl rfl rfl (by rw[dO];omega) (l:=d*8) (b:=⟨0,.map u (.int q),.own .ro,[]⟩) hU (upd σ.L (d*8) (some ⟨0,.map u (.int q),.own .ro,[]⟩)) (λk hk _=>eK _ _ hk) (cs:=[.map (some w.heap.size)]) (S2:=λk=>k=w.heap.size)
    ⟨w.heap.size,#[],rfl,kW _ _,rfl,rfl⟩ (aG _ _ _) (λj hj=>by rw[aW _ _ hj];exact .inr rfl) (λk hk=>by
     subst hk
     refine⟨λj bj hj hbj hs=>?_,λhf=>dZ _ (h.fl _ hf),by rw[dO];exact cH _,λhlt=>?_⟩
     ·rw[aW _ _ hj]at hbj
      exact dZ _ (h.lt j bj hbj _ hs)
     ·have:=h.fr.size;omega)
   have i2:=i1.vT (hN d hd) (e:=.one (.hdr (d*8) 0 [] ⟨.map u (.int q),[]⟩)) (v:=.map (some w.heap.size)) (gg i1 (l:=d*8) (b:=⟨0,.map u (.int q),.own .ro,[]⟩) (aG _ _ _) (by simp[VR,Ty.agg,Value.oneCell']))
   exact hd ▸ bQ (z:=.map (some w.heap.size)) (w':=w.alloc (.map #[] 0)) (by simp[execOp,ho,bX]) ⟨_,hk,⟨_,_,_,by rw[hd];exact i2⟩,by rw[hd];exact lT mQ⟩
  simp_all
 ·-- lookup
  rename_i t m x ok ho
  obtain⟨k,e,u,q,hk,ht,hK,hz⟩:=oC hV hk
  cases h1:opd σ m with
  |none=>rw[h1]at hk;cases hk
  |some em=>
  rw[h1]at hk
  simp only at hk
  cases h2:opd σ x with
  |none=>rw[h2]at hk;cases hk
  |some ex=>
  rw[h2]at hk
  simp only at hk
  obtain⟨xs,hk,Q6⟩:=Ei h hk (bA h h1)
  obtain⟨y,hk,hy⟩:=rH hk (bA h h2)
  have hz:=hz w
  have Wy:inK q 0:=by cases q <;> simp[inK,kLo,kHi]
  have main:(∀ ok:Bool,(Instr.lookup t (a.eval m) (a.eval x) ok).run P w=.ok (if ok then .tuple #[.int q (cR (eqV u) y xs),.bool (eX (eqV u) y xs)]else .int q (cR (eqV u) y xs)) w)/\inK q (cR (eqV u) y xs):=by
   rcases Q6 with⟨e1,rfl⟩|⟨b,es,e1,hb,hr⟩
   ·have hck:=λem=>hK.check F w em y _ hy
    have hfd:=pZ hK hy (Rv:=RV (t:=.int q) (Rep F w (.int q) .ro)) (xs:=[]) (es:=[]) (i:=0) rfl
    simp_all [Instr.lookup,run_underlying,km,cR,eX]
   ·have hck:=λem=>hK.check F w em y _ hy
    have hfd:=pZ hK hy hr
    rw[e1]
    rcases find_spec (eq:=eqV u) (k:=y) 0 hr with⟨h1,h2,h3,h4,h5,h6⟩|⟨h1,h2,h3,h4,p,e',h5,h6,h7,h8,h9⟩
    ·rw[h2]at hfd
     refine⟨λok=>?_,by rw[h3];exact Wy⟩
     simp only[Instr.lookup,ba,run_underlying ht,bw,gq hb,bP,hck,hfd,hz,h1,h3]
    ·rw[h2]at hfd
     refine⟨λok=>?_,h3⟩
     simp only[Instr.lookup,ba,run_underlying ht,bw,gq hb,bP,hck,hfd,h1]
  obtain⟨bX,hin⟩:=main
  cases ok
  ·exact bQ (z:=.int q (cR (eqV u) y xs)) (w':=w) (by simp[execOp,ho,bX]) ⟨_,hk,h.bT hN (cM hin),bO⟩
  ·exact bQ (z:=.tuple #[.int q (cR (eqV u) y xs),.bool (eX (eqV u) y xs)]) (w':=w) (by simp[execOp,ho,bX]) ⟨_,hk,h.mV hN (TW (cM hin) dg),pX⟩
 ·-- mapUpdate
  rename_i t m x y ho
  obtain⟨k,e,u,q,hk,ht,hK,hz⟩:=oC hV hk
  cases h1:opd σ m with
  |none=>rw[h1]at hk;cases hk
  |some em=>
  rw[h1]at hk
  simp only at hk
  cases h2:opd σ x with
  |none=>rw[h2]at hk;cases hk
  |some ex=>
  rw[h2]at hk
  simp only at hk
  cases h3:opd σ y with
  |none=>rw[h3]at hk;cases hk
  |some ey=>
  rw[h3]at hk
  simp only at hk
  obtain⟨l,b,π,xs,cb,es,hk,hv,hb,hr,db⟩:=yb h hk (bA h h1)
  obtain⟨kx,hk,hkx⟩:=rH hk (bA h h2)
  obtain⟨n,hk,hn⟩:=rH hk (bA h h3)
  obtain⟨hn1,hn2⟩:=rF hn
  obtain⟨es',bX,hr'⟩:=run_store hK ht hkx hn2 hb hr
  obtain⟨σ',Sg',hk,hE,hi⟩:=db _ es' _ _ hr' hk
  exact tG (w':=fW w cb es') (by simp[execOp,ho,hv,hn1,bX]) ⟨_,hk,hi.j7 hN,pY hE⟩
 ·-- mapEntry
  rename_i t m x ho
  obtain⟨k,e,u,q,hk,ht,hK,hz⟩:=oC hV hk
  cases h1:opd σ m with
  |none=>rw[h1]at hk;cases hk
  |some em=>
  rw[h1]at hk
  simp only at hk
  cases h2:opd σ x with
  |none=>rw[h2]at hk;cases hk
  |some ex=>
  rw[h2]at hk
  simp only at hk
  obtain⟨l,b,π,xs,cb,es,hk,hv,hb,hr,db⟩:=yb h hk (bA h h1)
  obtain⟨kx,hk,hkx⟩:=rH hk (bA h h2)
  cases hf:x8 xs
  ·rw[hf]at hk;cases hk
  rw[hf]at hk
  simp only[cond_true]at hk
  obtain⟨es',bX,hr',hin,hle⟩:=Gp hK ht (hz w) hkx hb hr
  obtain⟨σ',Sg',hk,hE,hi⟩:=db _ es' _ _ hr' hk
  have hix:inK .i64 (CE (eqV u) kx xs):=by
   unfold x8 at hf
   rw[kR]at hf
   exact iN (n:=mIx (eqV u) kx xs) (Nat.le_of_lt (n9 hle hf))
  refine bQ (z:=.tuple #[.int q (cR (eqV u) kx xs),goInt (CE (eqV u) kx xs)]) (w':=fW w cb es') (by simp[execOp,ho,hv,bX]) ⟨_,hk,hi.mV hN (TW (cM hin) (cM hix)),?_⟩
  intro j hj
  have:=pX (σ:=σ') (dst:=o.dst) (es:=[.val (.int q) (cR (eqV u) kx xs),.val (.int .i64) (CE (eqV u) kx xs)]) j hj
  rw[hE]at this
  exact this
 ·-- entryStore
  rename_i t m s y ho
  obtain⟨k,e,u,q,hk,ht,hK,hz⟩:=oC hV hk
  cases h1:opd σ m with
  |none=>rw[h1]at hk;cases hk
  |some em=>
  rw[h1]at hk
  simp only at hk
  cases h2:opd σ s with
  |none=>rw[h2]at hk;cases hk
  |some es0=>
  rw[h2]at hk
  simp only at hk
  cases h3:opd σ y with
  |none=>rw[h3]at hk;cases hk
  |some ey=>
  rw[h3]at hk
  simp only at hk
  obtain⟨l,b,π,xs,cb,es,hk,hv,hb,hr,db⟩:=yb h hk (bA h h1)
  obtain⟨sn,hk,hsn⟩:=rH hk (bA h h2)
  obtain⟨hs1,hs2⟩:=rF hsn
  cases hf:CC xs sn
  ·rw[hf]at hk;cases hk
  rw[hf]at hk
  simp only[cond_true]at hk
  obtain⟨n,hk,hn⟩:=rH hk (bA h h3)
  obtain⟨hn1,hn2⟩:=rF hn
  unfold CC at hf
  rw[ag,decide_eq_true_eq,kR]at hf
  obtain⟨hp,hlt⟩:=hf
  obtain⟨j,rfl⟩:∃ j:Nat,sn=(j:Int):=Int.eq_ofNat_of_zero_le hp
  rw[aa]at hlt
  have hfi:=Gn j hr hlt
  rw[eF]at hfi
  have hr':dN (RV (Rep F w u .ro)) (RV (t:=.int q) (Rep F w (.int q) .ro)) (Q3 xs (j:Int) n) (es.modify j λe=>{e with val:=.int q n}).toList 0:=by
   rw[qY]
   unfold Q3
   rw[aa]
   exact hr.modify j (λ_ _ _ _ hkk _=>⟨rfl,hkk,[.int q n],⟨rfl,hn2⟩,by simp[VR,Ty.agg,Value.oneCell']⟩)
  obtain⟨σ',Sg',hk,hE,hi⟩:=db _ _ _ _ hr' hk
  have bX:(Instr.entryStore t (.map (some cb)) (.int .i64 (j:Int)) (.int q n)).run P w=.ok () (fW w cb (es.modify j λe=>{e with val:=.int q n})):=by
   have hfa:es.findIdx? (λe=>(e.born:Int) == ((j:Nat):Int))=some j:=by
    rw[<-hfi];cases es;simp
   simp only[Instr.entryStore,ba,gq hb,bw,asInt,asIntOf,bP,hfa]
   exact jU hb (by simp)
  exact tG (w':=fW w cb _) (by simp[execOp,ho,hv,hn1,hs1,bX]) ⟨_,hk,hi.j7 hN,pY hE⟩
 ·-- len
  rename_i c ho
  cases hq:IR V.TT c with
  |none=>rw[hq]at hk;cases hk
  |some p=>
  rw[hq]at hk
  simp only at hk
  unfold IR at hq
  split at hq
  case h_2=>cases hq
  rename_i t x hc ha hx
  cases hmt:IQ V.TT t
  ·rw[hmt]at hq;cases hq
  rw[hmt]at hq
  injection hq with hq
  subst hq
  simp only at hk
  obtain⟨k,e,u,q,hk,ht,hK,hz⟩:=oC hV hk
  cases h1:opd σ x with
  |none=>rw[h1]at hk;cases hk
  |some em=>
  rw[h1]at hk
  simp only at hk
  obtain⟨xs,hk,Q6⟩:=Ei h hk (bA h h1)
  cases hf:x8 xs
  ·rw[hf]at hk;cases hk
  rw[hf]at hk
  simp only[cond_true]at hk
  unfold x8 at hf
  rw[kR]at hf
  obtain⟨cs,hrb⟩:=gj (P:=P) (w:=w) (ρ:=a.eval) (t:=o.type) hc
  have hts:c.argTypes=#[t]:=by rw[<-gZ (xs:=c.argTypes),ha]
  have hxs:c.args=#[x]:=by rw[<-gZ (xs:=c.args),hx]
  have bX:(Builtin.len_ #[t] o.type #[a.eval x]).run P w=.ok (.int .i64 (CD xs)) w:=by
   rcases Q6 with⟨e1,rfl⟩|⟨b,es,e1,hb,hr⟩
   ·rw[e1];simp[Builtin.len_,run_underlying ht,goInt,CD]
   ·have hlen:es.size=xs.length:=by rw[<-hr.len];simp
    rw[e1]
    simp[Builtin.len_,run_underlying ht,gq hb,goInt,Result.andThen,CD,hlen]
  refine bQ (z:=.int .i64 (CD xs)) (w':=w) ?_ ⟨_,hk,h.bT hN (cM (iN (by omega))),bO⟩
  simp only[execOp,ho,ba,hrb,bw,invoke,builtin,hts,hxs]
  simp[bX]
 ·cases hk
end
def cpL{α:Type}(d s:List α):List α:=s.take d.length++d.drop s.length
def cpN{α:Type}(d s:List α):Int:=(min s.length d.length:Nat)
def p8(t:Ty):Bool:=match t with
 |.int _=>true
 |.bool=>true
 |_=>false
def eT{R:Type}(σ:St)(e:ar)(te:Ty)(K:List te.T->Option R):Option R:=
 match e with
 |.hdr l n π c=>kV σ (.hdr l n π c) λ_ _ _ c=>if h:c.t=.sl te then K (IP h c.x)else none
 |e=>asT e (.sl te) K
def IT(o:Op):Option (TypeId×Operand×Operand):=
 match o with
 |.call c=>(match c.callee,c.argTypes.toList,c.args.toList with
  |.builtin .copy,[t,_],[x,y]=>some (t,x,y)
  |_,_,_=>none)
 |_=>none
def IU{R:Type}(V:Env)(σ:St)(dst:Option Nat)(t:TypeId)(x y:Operand)(K:St->Option R):Option R:=
 kY V.TT t λde=>bif p8 de.ty then(match opd σ x with
  |some (.hdr l n [] c)=>(match opd σ y with
   |some e2=>eT σ e2 de.ty λs=>(match σ.L l with
    |some ⟨v,.sl t0,.own m,d⟩=>if h:t0=de.ty then K ((σ.jR (upd σ.L l (some ⟨v+1,.sl t0,.own m,cpL (d:List t0.T) (h ▸ s)⟩))).bT dst (.val (.int .i64) (cpN (d:List t0.T) (h ▸ s))))else none
    |_=>none)
   |none=>none)
  |_=>none)else none
section
variable {P:Program} {B:dD} {F:af} {Sg:Nat->af} {cg:Nat->List Value} {σ:St} {a:Act} {w:World}
theorem M7(h:aP B F Sg cg σ a w){R:Type}{e:ar}{te:Ty}(hf:te.flat=true){K:List te.T->Option R}{r:R}(hk:eT σ e te K=some r){v:Value}(he:aF F w σ.L σ.U cg e v):
 ∃ x,K x=some r/\∃ ao cap news,v=.slice ao x.length cap/\bm (Rep F w te .ro) x news af.none/\(0<x.length->∃ ad,ao=some ad/\At w ad news)/\x.length<=maxLen:=by
 unfold eT at hk
 split at hk
 ·obtain⟨l,b,π,c,hl,hk,hg,ho,ds,s0,S',cf,bF,fy,fY,hv⟩:=fJ h hk he
  split at hk
  ·rename_i hc
   obtain⟨t,x⟩:=c
   simp only at hc
   subst hc
   obtain⟨ao,cap,news,h1,h2,h3⟩:=tC hf bF hv
   obtain⟨ao',Y0,h4,h5⟩:=pS bF hv
   exact⟨x,hk,ao,cap,news,h1,h2,h3,h5⟩
  ·cases hk
 grind [gE,tC,pS]
theorem Gq{t:Ty}(h:p8 t=true):t.flat=true/\t.width=1:=by
 cases t <;> simp[p8]at h <;> exact⟨rfl,rfl⟩
theorem Gr{te:Ty}(hs:p8 te=true){m:Md}{x:List te.T}{cs:List Value}{S:af}:bm (Rep F w te m) x cs S->∀ v∈cs,v.oneCell'=true:=
 tZ (λy c S h=>pL te m y c S h)
theorem Gt{α:Type}{R:α->List Value->af->Prop}(hR:∀ y c S,R y c S->c.length=1):∀ (n:Nat) {x:List α} {cs:List Value} {S:af},bm R x cs S->bm R (x.take n) (cs.take n) S:=by
 intro n
 induction n with
 |zero=>intro x cs S h;simp[bm]
 |succ n ih=>
  intro x cs S h
  cases x with
  |nil=>cases h;simp[bm]
  |cons y ys=>
   obtain⟨c1,c2,S1,S2,rfl,h1,h2,s1,s2,d⟩:=h
   have hl:=hR _ _ _ h1
   match c1,hl with
   |[z],_=>exact⟨[z],c2.take n,S1,S2,rfl,h1,ih h2,s1,s2,d⟩
theorem Gu{α:Type}{R:α->List Value->af->Prop}(hR:∀ y c S,R y c S->c.length=1):∀ (n:Nat) {x:List α} {cs:List Value} {S:af},bm R x cs S->bm R (x.drop n) (cs.drop n) S:=by
 intro n
 induction n with
 |zero=>intro x cs S h;simpa using h
 |succ n ih=>
  intro x cs S h
  cases x with
  |nil=>cases h;simp[bm]
  |cons y ys=>
   obtain⟨c1,c2,S1,S2,rfl,h1,h2,s1,s2,d⟩:=h
   have hl:=hR _ _ _ h1
   match c1,hl with
   |[z],_=>exact(ih h2).mono s2
theorem IV{R:Type}{V:Env}(hV:fT P V)(h:aP B F Sg cg σ a w){o:Oper}{t:TypeId}{x y:Operand}(hq:IT o.op=some (t,x,y)){K:St->Option R}{r:R}(hN:∀ d,o.dst=some d->d<B.N)(hk:IU V σ o.dst t x y K=some r){Q:Exit->Act->World->Prop}:
 o.wp P a w (Nx B σ o.dst K r) Q:=by
 unfold IT at hq
 split at hq
 case h_2=>cases hq
 rename_i c ho
 split at hq
 case h_2=>cases hq
 rename_i t' t2 x' y' hc hts hxs
 injection hq with hq
 injection hq with e1 e2
 injection e2 with e2 e3
 subst e1;subst e2;subst e3
 have Q7:c.argTypes=#[t',t2]:=by rw[<-gZ (xs:=c.argTypes),hts]
 have Q8:c.args=#[x',y']:=by rw[<-gZ (xs:=c.args),hxs]
 obtain⟨cs,hrb⟩:=gj (P:=P) (w:=w) (ρ:=a.eval) (t:=o.type) hc
 unfold IU at hk
 obtain⟨te,de,hk,hu,hde⟩:=iU hV.tab hk
 cases hsc:p8 de.ty
 ·simp_all
 rw[hsc]at hk
 simp only[cond_true]at hk
 obtain⟨hfl,hw1⟩:=Gq hsc
 split at hk
 case h_2=>cases hk
 rename_i l n c0 hox
 cases hoy:opd σ y' with
 |none=>rw[hoy]at hk;cases hk
 |some e2=>
 rw[hoy]at hk
 simp only at hk
 obtain⟨s,hk,ao,cap,news,hv,hrl,hat,hsl⟩:=M7 h hfl hk (bA h hoy)
 cases hl:σ.L l with
 |none=>rw[hl]at hk;cases hk
 |some b=>
 rw[hl]at hk
 split at hk
 case h_2=>cases hk
 rename_i v0 t0 m d hb
 injection hb with hb
 subst hb
 split at hk
 case isFalse=>cases hk
 rename_i hte
 subst hte
 have xF:=h.lab l _ hl
 have hvr:=((bA h hox).2 _ hl).2.1 rfl
 obtain⟨ai,i1,hi0,hi1⟩:∃ i z,P.info? te=some i/\i.size=de.ty.width:=by obtain⟨i,z,h1,h2,_⟩:=hde.vS;exact⟨i,z,h1,h2⟩
 have hsz:(P.info? te).map (·.size)=some 1:=by rw[hi0];simp[hi1,hw1]
 have hR1:∀ (m:Md) (y:de.ty.T) (c:List Value) (S:af),Rep F w de.ty m y c S->c.length=1:=λm y c S hr=>by rw[aQ _ _ _ _ _ _ _ hr,hw1]
 obtain⟨ax,cx,hcg,h1,h2,h3⟩:=xF
 simp only at hcg h1 h2 h3 hvr
 rw[hcg]at hvr
 simp[VR,Ty.agg]at hvr
 have hvx:=hvr.1
 have Q9:min s.length d.length<=maxLen:=bE (rn _ _) hsl
 have hnl:news.length=s.length:=by rw[bm.len (λy c S hr=>hR1 .ro y c S hr) hrl];omega
 have mk:∀ (w':World) (Sg':Nat->af),(Builtin.copy_ #[t',t2] o.type #[a.eval x',a.eval y']).run P w=.ok (goInt ((min s.length d.length:Nat):Int)) w'->
  aP B F Sg' cg (σ.jR (upd σ.L l (some ⟨v0+1,.sl de.ty,.own m,cpL (d:List de.ty.T) s⟩))) a w'->o.wp P a w (Nx B σ o.dst K r) Q:=by
  intro w' Sg' bX hi
  refine bQ (z:=goInt ((min s.length d.length:Nat):Int)) (w':=w') ?_ ⟨_,hk,hi.bT hN (cM (iN Q9)),bO (σ:=σ.jR (upd σ.L l (some ⟨v0+1,.sl de.ty,.own m,cpL (d:List de.ty.T) s⟩)))⟩
  simp only[execOp,ho,ba,hrb,bw,invoke,builtin,Q7,Q8]
  simp[bX]
 rcases dI (min s.length d.length)with h0|hp
 ·-- nothing to be copied
  have hcp:cpL (d:List de.ty.T) s=d:=by
   unfold cpL
   rcases dI s.length with q|q
   ·rw[dW q];simp
   ·have:d.length=0:=by
     rcases Nat.le_total s.length d.length with q2|q2
     ·rw[dl q2]at h0;omega
     ·rw[ri q2]at h0;exact h0
    rw[dW this];simp
  refine mk w (λj=>if j=l then Sg l else Sg j) ?_ ?_
  ·rw[h0,<-hvx,hv]
   exact run_copy_none w t' t2 o.type te ax ao d.length cx s.length cap hu hsz h0
  ·refine h.sJ (w':=w) rfl rfl rfl (aw _) hl (λ_ _ _=>rfl) (b':=⟨v0+1,.sl de.ty,.own m,cpL (d:List de.ty.T) s⟩) (λ_ h=>h) (λ_ _ h=>h) (cH _) (Sub.refl _) ?_ _ (aG _ _ _) (λj hj=>by rw[aW _ _ hj];exact .inr rfl) (λk hk=>.inl hk) (λk hk=>.inl hk)
   rw[hcp]
   exact⟨ax,cx,hcg,h1,h2,h3⟩
 ·rcases h3 with rfl|⟨bk,off,cc,e,rfl,hbk,hcc,hS,S1,hr,s1,n1⟩
  ·have:=Nat.min_le_right s.length d.length;omega
  rw[hw1]at hcc hr
  simp only[iq]at hcc hr
  have hsp:0<s.length:=bz hp (rn _ _)
  obtain⟨ad,rfl,QT⟩:=hat hsp
  generalize hvs:news.take (min s.length d.length)=vs
  have hvl:vs.length=min s.length d.length:=by
   rw[<-hvs,aL,hnl]
   exact dl (rn _ _)
  have hvd:vs.length<=d.length:=by rw[hvl];exact Nat.min_le_right _ _
  have eR:=dH bk vs off w cc e.t (e.a,e.b) hbk (by omega)
  obtain⟨q1,⟨c',q2,q3⟩,q4,q5,q6,q7⟩:=eR
  have kh:∀ j,j<vs.length->(w.cell? ⟨bk,off+j,none⟩).isSome=true:=λj hj=>by
   have hlt:off+j<cc.size:=by omega
   simp[World.cell?,hbk,hlt]
  have bX:(Builtin.copy_ #[t',t2] o.type #[a.eval x',a.eval y']).run P w=.ok (goInt ((min s.length d.length:Nat):Int)) (w.setCells bk off vs):=by
   rw[<-hvx,hv,<-hvl]
   refine run_copy_cells w t' t2 o.type te bk off d.length cx ad s.length cap vs hu hsz hvl (λj v hj=>QT j v ?_) kh (λj hj=>e.frz hbk rfl (by show off+j<cc.size;omega)) (λv hv=>Gr hsc hrl v ?_)
   ·rw[<-hvs,List.getElem?_take]at hj
    split at hj
    ·exact hj
    ·cases hj
   ·rw[<-hvs]at hv;exact nY hv
  have TX:c'.toList.length=cc.toList.length:=by
   rw[q3];simp;omega
  have bF:Rep F (w.setCells bk off vs) (.sl de.ty) (.own m) (cpL (d:List de.ty.T) s) (cg l) (Sg l):=by
   have hFw:∀ k,F k->(w.setCells bk off vs).heap[k]?=w.heap[k]?:=λk hk=>q1 k (λe=>h.ek l _ hl bk hS (e ▸ hk))
   have hcl:(cpL (d:List de.ty.T) s).length=d.length:=by
    unfold cpL;rw[ak,aL,bD]
    rcases Nat.le_total s.length d.length with q|q
    ·rw[ri q];omega
    ·rw[dl q];omega
   refine⟨some ⟨bk,off,none⟩,cx,by rw[hcl];exact hcg,by rw[hcl];exact h1,h2,.inr ⟨bk,off,c',e.to (by rw[<-bg,TX,bg];exact aw _),rfl,q2,?_,hS,af.none,?_,λ_ h=>h.elim,λh=>h⟩⟩
   ·rw[hw1,iq,<-bg,TX,bg];exact hcc
   ·rw[hcl,hw1,iq]
    have yd:(c'.toList.drop off).take d.length=vs++((cc.toList.drop off).take d.length).drop vs.length:=by
     rw[q3]
     have ho:(cc.toList.take off).length=off:=by rw[aL,bg];omega
     rw[aT,kF (by omega),kH (by omega),cm]
     rw[List.take_append,bK hvd,oo,ij]
    rw[yd]
    have r1:bm (Rep F w de.ty m) (s.take (min s.length d.length)) vs af.none:=by
     rw[<-hvs]
     exact oz hfl (Gt (λy c S hr=>hR1 .ro y c S hr) _ hrl)
    have r2:bm (Rep F w de.ty m) (d.drop vs.length) (((cc.toList.drop off).take d.length).drop vs.length) af.none:=oz hfl (Gu (λy c S hr=>hR1 m y c S hr) _ hr)
    have r3:=(r1.append r2 (λ_ h=>h.elim)).mono (S':=af.none) (λk hk=>hk.elim id id)
    have e3:s.take (min s.length d.length)++d.drop vs.length=cpL (d:List de.ty.T) s:=by
     unfold cpL
     rw[hvl]
     rcases Nat.le_total s.length d.length with q|q
     ·rw[dl q,bK (aw _),bK q]
     ·rw[ri q,kH (aw _),kH q]
    rw[e3]at r3
    exact bm.imp (λy _ c T hT hr=>kS de.ty hfl _ _ _ _ _ _ hr) r3
  exact mk _ _ bX (h.sJ (w':=w.setCells bk off vs) q5 q6 q7 (by rw[q4];exact aw _) hl (λk _ hn=>q1 k (λe=>hn (e ▸ hS))) (b':=⟨v0+1,.sl de.ty,.own m,cpL (d:List de.ty.T) s⟩) (λ_ h=>h) (λ_ _ h=>h) (cH _) (Sub.refl _) bF _ (aG _ _ _) (λj hj=>by rw[aW _ _ hj];exact .inr rfl) (λk hk=>.inl hk) (λk hk=>.inl hk))
end
def zZ(i lo hi:Int):Bool:=decide (0<=i)&&decide (i<hi-lo)
def mG(lo i:Int):Int:=lo+i
def sN(lo hi:Int):Int:=hi-lo
def IW:Option Ent->Bool
 |some (.one (.view ..))=>true
 |_=>false
def TY(V:Env)(σ:St)(o:Oper):Bool:=
 match o.op with
 |.slice _ _ _ _ none=>(match o.dst with|some d=>V.vw d|none=>false)
 |.indexAddr _ (.tmp t) _=>IW (σ.E t)
 |.call c=>(match c.callee,c.args.toList with
  |.builtin .len,[.tmp t]=>IW (σ.E t)
  |_,_=>false)
 |_=>false
def IX{R:Type}(V:Env)(σ:St)(o:Oper)(K:St->Option R):Option R:=
 match o.op with
 |.slice t x lo hi none=>kY V.TT t λde=>(match opd σ x with
  |some (.hdr l _ [] _)=>(match σ.L l with
   |some ⟨_,.sl t',.own _,xs⟩=>bif decide (t'=de.ty)then(match pW σ lo with
    |some el=>(match pW σ hi with
     |some eh=>vY el eh (List.length xs) λa b=>K (σ.bT o.dst (.view l de.ty a b))
     |none=>none)
    |none=>none)else none
   |_=>none)
  |_=>none)
 |.indexAddr t (.tmp s) i=>kY V.TT t λde=>(match σ.E s with
  |some (.one (.view l te lo hi))=>bif decide (te=de.ty)then(match opd σ i with
   |some ei=>jP ei λi=>bif zZ i lo hi then(match σ.L l with
    |some ⟨v,.sl t',.own m,xs⟩=>bif decide (t'=de.ty)then gl V.TT σ t (.hdr l v [] ⟨.sl t',xs⟩) (.val (.int .i64) (mG lo i)) λe'=>K (σ.bT o.dst e')else none
    |_=>none)else none
   |none=>none)else none
  |_=>none)
 |.call c=>(match c.callee,c.argTypes.toList,c.args.toList with
  |.builtin .len,[t],[.tmp s]=>kY V.TT t λ_=>(match σ.E s with
   |some (.one (.view l te lo hi))=>(match σ.L l with
    |some ⟨_,.sl _,.own _,_⟩=>K (σ.bT o.dst (.val (.int .i64) (sN lo hi)))
    |_=>none)
   |_=>none)
  |_,_,_=>none)
 |_=>none
section
variable {P:Program} {B:dD} {F:af} {Sg:Nat->af} {cg:Nat->List Value} {σ:St} {a:Act} {w:World}
theorem IY{lo iv:Int}(h0:0<=lo)(h1:0<=iv):(mG lo iv).toNat=lo.toNat+iv.toNat:=by unfold mG;omega
theorem IZ{R:Type}{V:Env}(hV:fT P V)(h:aP B F Sg cg σ a w){o:Oper}{K:St->Option R}{r:R}(hN:∀ d,o.dst=some d->d<B.N)(hk:IX V σ o K=some r){Q:Exit->Act->World->Prop}:
 o.wp P a w (Nx B σ o.dst K r) Q:=by
 unfold IX at hk
 split at hk
 ·-- cut
  rename_i t x lo hi ho
  obtain⟨te,de,hk,hu,hde⟩:=iU hV.tab hk
  split at hk
  case h_2=>cases hk
  rename_i l n c0 hox
  split at hk
  case h_2=>cases hk
  rename_i v0 t' m xs hl
  cases hty:decide (t'=de.ty)
  ·simp_all
  rw[hty]at hk
  simp only[cond_true]at hk
  have hty:=of_decide_eq_true hty
  subst hty
  cases hol:pW σ lo with
  |none=>rw[hol]at hk;cases hk
  |some el=>
  rw[hol]at hk
  simp only at hk
  cases hoh:pW σ hi with
  |none=>rw[hoh]at hk;cases hk
  |some eh=>
  rw[hoh]at hk
  simp only at hk
  have xF:=h.lab l _ hl
  have hvr:=((bA h hox).2 _ hl).2.1 rfl
  obtain⟨ax,cx,hcg,h1,h2,h3⟩:=xF
  simp only at hcg h1 h2 h3 hvr
  rw[hcg]at hvr
  simp[VR,Ty.agg]at hvr
  obtain⟨lb,hb,hk,hlh,hhn,hbd⟩:=pU (P:=P) (w:=w) hk (tD h hol) (tD h hoh)
  have bX:=mT (P:=P) (w:=w) hu hde (ao:=ax) (len:=List.length xs) (cap:=cx) (vl:=lo.map a.eval) (vh:=hi.map a.eval) (l:=lb) (h:=hb) (hbd cx h1)
  rw[hvr.1]at bX
  refine bQ (z:=.slice (if cx=lb then ax else ax.map (·.add (lb*de.ty.width))) (hb-lb) (cx-lb)) (w':=w) (by simp[execOp,ho,bX]) ⟨_,hk,h.bT hN (e:=.view l de.ty (lb:Int) (hb:Int)) ⟨h.used l _ hl,λb2 hb2=>?_⟩,bO⟩
  refine⟨ax,List.length xs,cx,hcg,by omega,by omega,by omega,?_⟩
  simp
 ·-- index
  rename_i t s i ho
  obtain⟨te,de,hk,hu,hde⟩:=iU hV.tab hk
  split at hk
  case h_2=>cases hk
  rename_i l te' lo hi hE
  cases hty:decide (te'=de.ty)
  ·rw[hty]at hk;cases hk
  rw[hty]at hk
  simp only[cond_true]at hk
  have hty:=of_decide_eq_true hty
  subst hty
  cases hoi:opd σ i with
  |none=>rw[hoi]at hk;cases hk
  |some ei=>
  rw[hoi]at hk
  simp only at hk
  obtain⟨k,iv,hk,hiv,hik⟩:=gF hk (bA h hoi)
  cases hok:zZ iv lo hi
  ·rw[hok]at hk;cases hk
  rw[hok]at hk
  simp only[cond_true]at hk
  split at hk
  case h_2=>cases hk
  rename_i v0 t' m xs hl
  cases hty:decide (t'=de.ty)
  ·rw[hty]at hk;cases hk
  rw[hty]at hk
  simp only[cond_true]at hk
  have hty:=of_decide_eq_true hty
  subst hty
  have I0:=(h.ent s _ hE).2 _ hl
  obtain⟨ax,ln,cx,hcg,q1,q2,q3,q4⟩:=I0
  have xF:=h.lab l _ hl
  obtain⟨ax',cx',Gv,h1,h2,h3⟩:=xF
  simp only at Gv h1 h2 h3
  rw[Gv]at hcg
  injection hcg with hcg _
  injection hcg with e1 e2 e3
  subst e1;subst e2;subst e3
  unfold zZ at hok
  simp only[ag,decide_eq_true_eq]at hok
  have uh:aF F w σ.L σ.U cg (.hdr l v0 [] ⟨.sl de.ty,xs⟩) (.slice ax' (List.length xs) cx'):=
   gg h (b:=⟨v0,.sl de.ty,.own m,xs⟩) hl (by rw[Gv];simp[VR,Ty.agg,Value.oneCell'])
  have hix:aF F w σ.L σ.U cg (.val (.int .i64) (mG lo iv)) (.int .i64 (mG lo iv)):=by
   refine cM ?_
   have:mG lo iv=((lo+iv).toNat:Nat):=by unfold mG;omega
   rw[this]
   refine iN (bE ?_ (bE h1 h2))
   omega
  obtain⟨e',z,g1,g2,g3⟩:=o9 h hV.tab hk uh hix
  have hlt:(lo+iv).toNat<List.length xs:=by omega
  have Wz:∃ ad,ax'=some ad:=by
   rcases h3 with h0|⟨b,off,c,e,rfl,_⟩
   ·omega
   ·exact⟨_,rfl⟩
  obtain⟨ad,rfl⟩:=Wz
  have hr1:=run_indexAt_slice (P:=P) (w:=w) hu hde (k:=.i64) (i:=mG lo iv) (len:=List.length xs) (cap:=cx') (ad:=ad) (by unfold mG;omega) (by unfold mG;exact hlt)
  rw[hr1]at g2
  injection g2 with g2
  subst g2
  have hcl:cx'≠lo.toNat:=by omega
  have hv:a.eval (.tmp s)=.slice (some (ad.add (lo.toNat*de.ty.width))) (hi.toNat-lo.toNat) (cx' - lo.toNat):=by
   have:a.eval (.tmp s)=.slice (if cx'=lo.toNat then some ad else(some ad:Option Addr).map (·.add (lo.toNat*de.ty.width))) (hi.toNat-lo.toNat) (cx' - lo.toNat):=q4
   rw[this,if_neg hcl];rfl
  have hr2:=run_indexAt_slice (P:=P) (w:=w) hu hde (k:=k) (i:=iv) (len:=hi.toNat-lo.toNat) (cap:=cx' - lo.toNat) (ad:=ad.add (lo.toNat*de.ty.width)) hok.1 (by omega)
  have CF:(ad.add (lo.toNat*de.ty.width)).add (iv.toNat*de.ty.width)=ad.add ((mG lo iv).toNat*de.ty.width):=by
   rw[Addr.add_add]
   congr 1
   rw[IY q1 hok.1,gA]
  rw[CF]at hr2
  exact bQ (z:=.pointer (some (ad.add ((mG lo iv).toNat*de.ty.width)))) (w':=w) (by simp only[execOp,ho,hv,hiv];simp[hr2]) ⟨_,g1,h.bT hN g3,bO⟩
 ·-- len
  rename_i c ho
  split at hk
  case h_2=>cases hk
  rename_i t s hc hts hxs
  have Q7:c.argTypes=#[t]:=by rw[<-gZ (xs:=c.argTypes),hts]
  have Q8:c.args=#[.tmp s]:=by rw[<-gZ (xs:=c.args),hxs]
  obtain⟨te,de,hk,hu,hde⟩:=iU hV.tab hk
  split at hk
  case h_2=>cases hk
  rename_i l te' lo hi hE
  split at hk
  case h_2=>cases hk
  rename_i v0 t' m xs hl
  have I0:=(h.ent s _ hE).2 _ hl
  obtain⟨ax,ln,cx,hcg,q1,q2,q3,q4⟩:=I0
  have xF:=h.lab l _ hl
  obtain⟨ax',cx',Gv,h1,h2,h3⟩:=xF
  simp only at Gv h1 h2 h3
  rw[Gv]at hcg
  injection hcg with hcg _
  injection hcg with e1 e2 e3
  subst e1;subst e2;subst e3
  obtain⟨cs,hrb⟩:=gj (P:=P) (w:=w) (ρ:=a.eval) (t:=o.type) hc
  have hlen:((hi.toNat-lo.toNat:Nat):Int)=sN lo hi:=by unfold sN;omega
  have hv:a.eval (.tmp s)=.slice (if cx'=lo.toNat then ax' else ax'.map (·.add (lo.toNat*te'.width))) (hi.toNat-lo.toNat) (cx' - lo.toNat):=q4
  have bX:(Builtin.len_ #[t] o.type #[a.eval (.tmp s)]).run P w=.ok (.int .i64 (sN lo hi)) w:=by
   rw[hv,<-hlen]
   simp[Builtin.len_,run_underlying hu,goInt]
  refine bQ (z:=.int .i64 (sN lo hi)) (w':=w) ?_ ⟨_,hk,h.bT hN (cM (by rw[<-hlen];exact iN (by have:=bE h1 h2;omega))),bO⟩
  simp only[execOp,ho,ba,hrb,bw,invoke,builtin,Q7,Q8]
  simp[bX]
 ·cases hk
end
def I1:Option Ent->Bool
 |some (.one (.val (.nl _) _))=>true
 |_=>false
def Ra:BinOp->Option Bool
 |.eql=>some false
 |.neq=>some true
 |_=>none
def nlQ(σ:St)(o:Oper):Bool:=
 match o.op with
 |.move (.tmp t)=>I1 (σ.E t)
 |.assign (.tmp t)=>I1 (σ.E t)
 |.binOp _ _ (.tmp t) (.const (.slice none 0 0)) _=>I1 (σ.E t)
 |_=>false
def nlK{R:Type}(V:Env)(σ:St)(o:Oper)(K:St->Option R):Option R:=
 match o.op with
 |.move (.tmp t)|.assign (.tmp t)=>(match σ.E t with
  |some (.one (.val (.nl u) x))=>K (σ.bT o.dst (.val (.nl u) x))
  |_=>none)
 |.binOp op t (.tmp s) (.const (.slice none 0 0)) _=>(match V.TT t with
  |some d=>(match d.kd with
   |.slice _=>(match Ra op with
    |some neq=>(match σ.E s with
     |some (.one (.val (.nl u) xs))=>K (σ.bT o.dst (.val .bool (bif neq then !(List.isEmpty (xs:List u.T))else List.isEmpty (xs:List u.T))))
     |_=>none)
    |none=>none)
   |_=>none)
  |none=>none)
 |_=>none
section
variable {P:Program} {B:dD} {F:af} {Sg:Nat->af} {cg:Nat->List Value} {σ:St} {a:Act} {w:World}
theorem Rb{R:Type}{V:Env}(hV:fT P V)(h:aP B F Sg cg σ a w){o:Oper}{K:St->Option R}{r:R}(hN:∀ d,o.dst=some d->d<B.N)(hk:nlK V σ o K=some r){Q:Exit->Act->World->Prop}:
 o.wp P a w (Nx B σ o.dst K r) Q:=by
 have mv:∀ t,o.op=.move (.tmp t)\/o.op=.assign (.tmp t)->(match σ.E t with
  |some (.one (.val (.nl u) x))=>K (σ.bT o.dst (.val (.nl u) x))
  |_=>none)=some r->o.wp P a w (Nx B σ o.dst K r) Q:=by
  intro t ho hk
  split at hk
  case h_2=>cases hk
  rename_i u x hE
  refine bQ (z:=a.eval (.tmp t)) (w':=w) ?_ ⟨_,hk,h.bT hN (h.ent t _ hE),bO⟩
  grind [execOp,Sem.run_pure]
 unfold nlK at hk
 split at hk
 ·simp_all
 ·simp_all
 ·rename_i op t s yt ho
  cases ht:V.TT t with
  |none=>rw[ht]at hk;cases hk
  |some d=>
  rw[ht]at hk
  simp only at hk
  split at hk
  case h_2=>cases hk
  rename_i te hkd
  have bN:=(hV.tab t d ht).desc
  rw[hkd]at bN
  cases hop:Ra op with
  |none=>rw[hop]at hk;cases hk
  |some neq=>
  rw[hop]at hk
  simp only at hk
  split at hk
  case h_2=>cases hk
  rename_i u xs hE
  obtain⟨cs,⟨⟨ao,cap,rfl,h1,h2,h3⟩,h4⟩,hv⟩:=h.ent s _ hE
  have hv0:[Value.slice ao (List.length xs) cap]=[a.tmps.getD s undef]:=by unfold VR at hv;simpa [Ty.agg]using hv.1
  have hv:a.eval (.tmp s)=.slice ao (List.length xs) cap:=by injection hv0 with e _;exact e.symm
  have hn:ao.isNone=List.isEmpty (xs:List u.T):=by grind
  have bX:(execOp a.eval o).run P w=.ok (.value (.bool (bif neq then !(List.isEmpty (xs:List u.T))else List.isEmpty (xs:List u.T)))) w:=by
   rw[<-hn]
   have e0:a.eval (.const (.slice none 0 0))=.slice none 0 0:=rfl
   cases op <;> simp only[Ra,reduceCtorEq,bh]at hop
   ·subst hop
    simp only[execOp,ho,ba,hv,e0,cond_false]
    simp[eqGuard,Lib.run_eql_slice_nil w t te ao (List.length xs) cap 0 0 bN]
   ·subst hop
    simp only[execOp,ho,ba,hv,e0,cond_true]
    simp[eqGuard,run_neq_slice_nil_any w t te ao (List.length xs) cap 0 0 bN]
  exact bQ (z:=.bool (bif neq then !(List.isEmpty (xs:List u.T))else List.isEmpty (xs:List u.T))) (w':=w) bX ⟨_,hk,h.bT hN dg,bO⟩
 ·cases hk
end
def qa(ops:List Oper)(j:Nat):Option Nat:=match ops[j]? with|some o=>o.dst|none=>none
def rI{R:Type}(σ:St)(ops:List Oper)(o:Oper)(Ky Kn:St->Option R):Option R:=
 match o.guard with
 |none=>Ky σ
 |some (j,want)=>match qa ops j with
  |some s=>(match σ.E s with
   |some (.one (.val .bool b))=>(match(b:Bool)with
    |true=>bif want then Ky (σ.tW s (.val .bool true))else Kn (σ.tW s (.val .bool true))
    |false=>bif want then Kn (σ.tW s (.val .bool false))else Ky (σ.tW s (.val .bool false)))
   |some (.one (.cst v))=>(match v with
    |.bool b=>bif b == want then Ky σ else Kn σ
    |_=>Kn σ)
   |_=>none)
  |none=>none
def Ej{R:Type}(a b:Option R):Option R:=open Classical in if a=b then b else none
theorem I2{R:Type}{a b:Option R}{r:R}(h:Ej a b=some r):a=some r/\b=some r:=by grind [Ej]
theorem I3{R:Type}(a:Option R):Ej a a=a:=if_pos rfl
def M8{R:Type}(e:Bool)(k:Bool->Option R):Option R:=bif e then Ej (k true) (k false)else k false
def Rc:BinOp->Option Bool
 |.eql=>some false
 |.neq=>some true
 |_=>none
def CG(V:Env)(σ:St)(o:Oper):Option (Nat×Bool×Bool):=
 match o.op with
 |.binOp op t x (.const (.slice none 0 0)) _=>(match V.TT t with
  |some d=>(match d.kd with
   |.slice _=>(match o.dst with
    |some dst=>(match Rc op with
     |some neq=>(match opd σ x with
      |some (.val (.sl t) xs)=>some (dst,neq,List.isEmpty (xs:List t.T))
      |some (.hdr l n π c)=>kV σ (.hdr l n π c) λ_ _ _ c=>(match c with
       |⟨.sl t,xs⟩=>some (dst,neq,List.isEmpty (xs:List t.T))
       |_=>none)
      |_=>none)
     |none=>none)
    |none=>none)
   |_=>none)
  |none=>none)
 |_=>none
def fnQ(σ:St)(o:Oper):Option (FuncId×List Operand):=
 match o.op with
 |.call c=>(match c.callee with
  |.value (.tmp t)=>(match σ.E t with
   |some (.one (.val (.fn f) _))=>some (f,c.args.toList)
   |_=>none)
  |_=>none)
 |_=>none
def I4{R:Type}(V:Env)(σ:St)(dst:Option Nat)(f:FuncId)(xs:List Operand)(K:St->Option R):Option R:=
 match V.CT f with
 |some ce=>(match jT σ xs with
  |some es=>bif(cz ce.rs&&cz ce.ms)||V.we dst then iT σ dst ce es K
   else(match jT (fM σ ce.ps es) xs with
    |some es'=>iT (fM σ ce.ps es) dst ce es' K
    |none=>none)
  |none=>none)
 |none=>none
def sO:Option Ent->Bool
 |some (.clo _ _)=>true
 |_=>false
def Gw(σ:St)(o:Oper):Bool:=
 match o.op with
 |.makeFunc ..=>true
 |.move (.tmp t)=>sO (σ.E t)
 |.assign (.tmp t)=>sO (σ.E t)
 |.call c=>(match c.callee with
  |.value (.tmp t)=>sO (σ.E t)
  |_=>false)
 |_=>false
def St.rJ(σ:St)(dst:Option Nat)(f:FuncId)(es:List ar):St:=match dst with|some d=>{σ with E:=upd σ.E d (some (.clo f es))}|none=>σ
def Gx{R:Type}(V:Env)(σ:St)(o:Oper)(K:St->Option R):Option R:=
 match o.op with
 |.makeFunc (.func f) first cap=>bif first.toList.isEmpty then(match jT σ cap.toList with|some es=>K (σ.rJ o.dst f es)|none=>none)else none
 |.move (.tmp t)|.assign (.tmp t)=>(match σ.E t with
  |some (.clo f es)=>K (σ.rJ o.dst f es)
  |_=>none)
 |.call c=>(match c.callee with
  |.value (.tmp t)=>(match σ.E t with
   |some (.clo f es)=>(match V.CT f with
    |some ce=>(match jT σ c.args.toList with
     |some xs1=>bif(cz ce.rs&&cz ce.ms)||V.we o.dst then iT σ o.dst ce (xs1++es) K else none
     |none=>none)
    |none=>none)
   |_=>none)
  |_=>none)
 |_=>none
def opN{R:Type}(V:Env)(σ:St)(o:Oper)(K:St->Option R):Option R:=
 bif nlQ σ o then nlK V σ o K else
 match CG V σ o with
 |some q=>M8 q.2.2 λb=>K (σ.tW q.1 (.val .bool (bif q.2.1 then !b else b)))
 |none=>(match fnQ σ o with
  |some q=>I4 V σ o.dst q.1 q.2 K
  |none=>bif jk V.TT o.op then rE V σ o K else bif Gw σ o then Gx V σ o K else(match IT o.op with
   |some q=>IU V σ o.dst q.1 q.2.1 q.2.2 K
   |none=>bif TY V σ o then IX V σ o K else opK V σ o K))
def Gy{R:Type}(V:Env)(ops:List Oper):List Oper->St->(St->Option R)->Option R
 |[],σ,K=>K σ
 |o::rest,σ,K=>rI σ ops o (λσ1=>opN V σ1 o λσ2=>Gy V ops rest σ2 K) (λσ1=>Gy V ops rest (σ1.bT o.dst (.cst undef)) K)
def mY(N:Nat):List Oper->Bool
 |[]=>true
 |o::rest=>(match o.dst with|some d=>Nat.blt d N|none=>true)&&mY N rest
def lc:List Oper->Nat->Bool
 |[],_=>false
 |o::rest,j=>(match o.dst with|some d=>Nat.beq d j|none=>false)||lc rest j
def ES(σ σ':St)(W:Nat->Bool):Prop:=∀ j,W j=false->ER (σ.E j) (σ'.E j)
theorem ES.refl(σ:St)(W:Nat->Bool):ES σ σ W:=λ_ _=>.refl _
theorem ES.trans{σ σ' rK:St}{W W' W'':Nat->Bool}(h:ES σ σ' W)(k:ES σ' rK W')(h1:∀ j,W'' j=false->W j=false)(h2:∀ j,W'' j=false->W' j=false):ES σ rK W'':=λj hj=>(h j (h1 j hj)).trans (k j (h2 j hj))
theorem ES.mono{σ σ':St}{W W':Nat->Bool}(h:ES σ σ' W)(h1:∀ j,W' j=false->W j=false):ES σ σ' W':=λj hj=>h j (h1 j hj)
section
variable {P:Program} {B:dD} {F:af} {Sg:Nat->af} {cg:Nat->List Value} {σ:St} {a:Act} {w:World}
theorem wO{s:Nat}{e:ar}(h:σ.E s=some (.one e)):σ.tW s e=σ:=by
 have:upd σ.E s (some (.one e))=σ.E:=by grind [aG,aW]
 simp_all [St.tW]
theorem lU{ops:Array Oper}{j s:Nat}(hs:qa ops.toList j=some s){b:Bool}(hv:a.tmps.getD s undef=.bool b):yielded ops a.tmps j=some b:=by
 unfold qa at hs
 unfold yielded
 rw[Array.getElem?_toList]at hs
 cases ho:ops[j]? with
 |none=>rw[ho]at hs;cases hs
 |some o=>
  rw[ho]at hs
  simp only at hs
  simp only[ig,hs]
  cases ht:a.tmps[s]? with
  |none=>grind [undef]
  |some v=>simp_all
theorem sP{ops:Array Oper}{j s:Nat}(hs:qa ops.toList j=some s)(hv:∀ b,a.tmps.getD s undef≠.bool b):yielded ops a.tmps j=none:=by
 unfold qa at hs
 unfold yielded
 rw[Array.getElem?_toList]at hs
 cases ho:ops[j]? with
 |none=>rw[ho]at hs;cases hs
 |some o=>
  rw[ho]at hs
  simp only at hs
  simp only[ig,hs]
  cases ht:a.tmps[s]? with
  |none=>rfl
  |some v=>simp_all
theorem Gz{R:Type}(h:Inv B σ a w){ops:Array Oper}{o:Oper}{Ky Kn:St->Option R}{r:R}(hk:rI σ ops.toList o Ky Kn=some r):
 (Region.wanted o (yielded ops a.tmps)=true/\Ky σ=some r)\/(Region.wanted o (yielded ops a.tmps)=false/\Kn σ=some r):=by
 obtain⟨F,Sg,cg,h⟩:=h
 unfold rI at hk
 unfold Region.wanted
 split at hk
 ·simp_all
 ·rename_i j want hg
  rw[hg]
  simp only
  cases hs:qa ops.toList j with
  |none=>rw[hs]at hk;cases hk
  |some s=>
  rw[hs]at hk
  simp only at hk
  split at hk
  ·rename_i b hE
   have hv:=jN (L:=σ.L) (U:=σ.U) (cg:=cg) (h.ent s _ hE)
   rw[lU hs hv]
   grind [wO]
  ·rename_i v hE
   have hv:a.tmps.getD s undef=v:=h.ent s _ hE
   split at hk
   ·rename_i b
    rw[lU hs hv]
    grind
   grind [sP]
  ·cases hk
theorem Oper.oD{o:Oper}{next next':Act->World->Prop}{Q Q':Exit->Act->World->Prop}(h:o.wp P a w next Q)(hn:∀ a' w',next a' w'->next' a' w')(hQ:∀ e a' w',Q e a' w'->Q' e a' w'):o.wp P a w next' Q':=by
 unfold Oper.wp at *
 generalize (execOp a.eval o).run P w=res at *
 cases res with
 |ok n w'=>
  cases n <;> simp only[Oper.upon]at h |-
  case value u=>exact hn _ _ h
  case skip=>exact hn _ _ h
  case defer d=>exact hn _ _ h
  case enter f args=>
   refine Calls.mono h λe w'' he=>?_
   cases e with
   |returned u=>exact hn _ _ he
   |panicked c=>exact hQ _ _ _ he
   |outgrown=>obtain⟨a1,w1,h1⟩:=he;exact⟨a1,w1,hQ _ _ _ h1⟩
  grind [Rows.mono]
 |halt x w'=>
  cases x <;> simp only[Oper.upon]at h |-
  simp_all
theorem I5{t:Ty}{m:Md}{x:List t.T}{cs:List Value}{S:af}{v:Value}(h:Rep F w (.sl t) m x cs S)(hv:VR (.sl t) cs v):∃ ao cap,v=.slice ao x.length cap/\(0<x.length->ao.isNone=false):=by
 simp[VR,Ty.agg]at hv
 have ro:Cg F w (Rep F w t .ro) x cs->∃ ao cap,v=.slice ao x.length cap/\(0<x.length->ao.isNone=false):=by
  rintro⟨ao,cap,rfl,h1,h2,h3⟩
  grind
 cases m with
 |ro=>exact ro h
 |pr _ _=>exact ro h
 |own m=>
  obtain⟨ao,cap,rfl,h1,h2,h3⟩:=h
  grind
theorem cC.append{L:Nat->Option Lab}{U:Nat->Bool}:∀ {es es':List ar} {vs vs':List Value},cC F w L U cg es vs->cC F w L U cg es' vs'->cC F w L U cg (es++es') (vs++vs'):=by
 intro es
 induction es with
 |nil=>intro es' vs vs' h h';cases h;exact h'
 |cons e es ih=>rintro es' vs vs' ⟨v,r,rfl,h1,h2⟩ h';exact⟨v,r++vs',rfl,h1,ih h2 h'⟩
theorem aP.rJ(h:aP B F Sg cg σ a w){dst:Option Nat}(hN:∀ d,dst=some d->d<B.N){f:FuncId}{es:List ar}{v:Value}(he:iu F w σ.L σ.U cg (.clo f es) v):Inv B (σ.rJ dst f es) (a.put dst v) w:=by
 cases dst with
 |none=>exact⟨F,Sg,cg,h⟩
 |some d=>exact⟨F,Sg,cg,h.vT (hN d rfl) he⟩
theorem z6{dst:Option Nat}{f:FuncId}{es:List ar}:ESo σ (σ.rJ dst f es) dst:=by
 intro j hj
 cases dst with
 |none=>exact .refl _
 |some d=>exact .inl (aW _ _ (λe=>hj (by rw[e])))
theorem M9{R:Type}{V:Env}(hV:fT P V)(h:aP B F Sg cg σ a w){o:Oper}{K:St->Option R}{r:R}(hN:∀ d,o.dst=some d->d<B.N)(hk:Gx V σ o K=some r){Q:Exit->Act->World->Prop}:
 o.wp P a w (Nx B σ o.dst K r) Q:=by
 have mv:∀ t,o.op=.move (.tmp t)\/o.op=.assign (.tmp t)->(match σ.E t with
  |some (.clo f es)=>K (σ.rJ o.dst f es)
  |_=>none)=some r->o.wp P a w (Nx B σ o.dst K r) Q:=by
  intro t ho hk
  split at hk
  case h_2=>cases hk
  rename_i f es hE
  have he:=h.ent t _ hE
  refine bQ (z:=a.eval (.tmp t)) (w':=w) ?_ ⟨_,hk,h.rJ hN he,z6⟩
  grind [execOp,Sem.run_pure]
 unfold Gx at hk
 split at hk
 ·rename_i f first cap ho
  cases hf:first.toList.isEmpty
  ·simp_all
  rw[hf]at hk
  simp only[cond_true]at hk
  cases hes:jT σ cap.toList with
  |none=>rw[hes]at hk;cases hk
  |some es=>
  rw[hes]at hk
  have h0:first=#[]:=by rw[<-gZ (xs:=first),List.isEmpty_iff.1 hf]
  have he:iu F w σ.L σ.U cg (.clo f es) (.func (.func f) #[] (cap.map a.eval)):=⟨cap.toList.map a.eval,by rw[<-ib],x6 h hes⟩
  exact bQ (z:=.func (.func f) #[] (cap.map a.eval)) (w':=w) (by simp[execOp,ho,h0,Instr.makeFunc]) ⟨_,hk,h.rJ hN he,z6⟩
 ·simp_all
 ·simp_all
 ·rename_i c ho
  split at hk
  case h_2=>cases hk
  rename_i t hc
  split at hk
  case h_2=>cases hk
  rename_i f es hE
  cases hf:V.CT f with
  |none=>rw[hf]at hk;cases hk
  |some ce=>
  rw[hf]at hk
  simp only at hk
  cases has:jT σ c.args.toList with
  |none=>rw[has]at hk;cases hk
  |some xs1=>
  rw[has]at hk
  simp only at hk
  cases hb:(cz ce.rs&&cz ce.ms)||V.we o.dst
  ·simp_all
  rw[hb]at hk
  simp only[cond_true]at hk
  obtain⟨vs,hv,hes⟩:=h.ent t _ hE
  obtain⟨hok,hpl⟩:=hV.fns f ce hf
  have zW:=zU h hok ((x6 h has).append hes) hN hk
  have jS:(c.args.toList.map a.eval++vs).toArray=c.args.map a.eval++vs.toArray:=by rw[<-List.append_toArray,<-ib]
  rw[jS]at zW
  unfold Oper.wp
  have hx:a.eval (.tmp t)=.func (.func f) #[] vs.toArray:=hv
  have bX:(execOp a.eval o).run P w=.ok (.enter f (c.args.map a.eval++vs.toArray)) w:=by
   have hrs:(Go.resolve a.eval c o.type).run P w=.ok {target:=.fn (.func f) vs.toArray,args:=c.args.map a.eval} w:=by
    simp[Go.resolve,hc,hx,Deferred.ofValue]
   simp only[execOp,ho,ba,hrs,bw,invoke]
   exact mW hpl
  rw[bX,Oper.upon_enter]
  refine zW.mono λe w' he=>?_
  cases e with
  |panicked _=>exact he.elim
  |outgrown=>exact he.elim
  |returned v=>
   obtain⟨σ',F',Sg',cg',g1,g2,g3⟩:=he
   exact⟨σ',g1,⟨F',Sg',cg',g2⟩,Eg g3⟩
 ·cases hk
theorem I6{R:Type}{V:Env}(hV:fT P V)(h:aP B F Sg cg σ a w){o:Oper}{K:St->Option R}{r:R}(hN:∀ d,o.dst=some d->d<B.N)(hk:opN V σ o K=some r){Q:Exit->Act->World->Prop}:
 o.wp P a w (Nx B σ o.dst K r) Q:=by
 unfold opN at hk
 cases hnl:nlQ σ o
 case true=>rw[hnl]at hk;exact Rb hV h hN hk
 rw[hnl]at hk
 simp only[cond_false]at hk
 cases hq:CG V σ o with
 |none=>
  rw[hq]at hk
  simp only at hk
  cases hf:fnQ σ o with
  |none=>
   rw[hf]at hk
   simp only at hk
   cases hm:jk V.TT o.op
   ·rw[hm]at hk
    simp only[cond_false]at hk
    cases hc:Gw σ o
    ·rw[hc]at hk
     simp only[cond_false]at hk
     grind [CA,IZ,IV]
    grind [M9]
   grind [yc]
  |some q=>
  rw[hf]at hk
  simp only at hk
  unfold fnQ at hf
  split at hf
  case h_2=>cases hf
  rename_i c ho
  split at hf
  case h_2=>cases hf
  rename_i t hc
  split at hf
  case h_2=>cases hf
  rename_i f u hE
  injection hf with hf
  subst hf
  have hx:a.eval (.tmp t)=.func (.func f) #[] #[]:=by
   obtain⟨cs,h1,h2⟩:=h.ent t _ hE
   have h1:cs=[.func (.func f) #[] #[]]:=h1
   subst h1
   have h3:[Value.func (.func f) #[] #[]]=[a.tmps.getD t undef]:=by unfold VR at h2;simpa using h2.1
   injection h3 with h3 _
   exact h3.symm
  unfold I4 at hk
  simp only at hk
  cases hf:V.CT f with
  |none=>rw[hf]at hk;cases hk
  |some ce=>
  rw[hf]at hk
  simp only at hk
  cases hes:jT σ c.args.toList with
  |none=>rw[hes]at hk;cases hk
  |some es=>
  rw[hes]at hk
  simp only at hk
  cases hb:(cz ce.rs&&cz ce.ms)||V.we o.dst
  ·rw[hb]at hk
   simp only[cond_false]at hk
   cases wg:jT (fM σ ce.ps es) c.args.toList with
   |none=>rw[wg]at hk;cases hk
   |some es'=>
    rw[wg]at hk
    obtain⟨⟨F1,i1⟩,i2⟩:=uy ce.ps es h
    grind [oB]
  ·rw[hb]at hk
   exact oB hV h ho hc hx hf (λ_=>.refl _) hes hN hk
 |some q=>
 rw[hq]at hk
 simp only at hk
 unfold CG at hq
 split at hq
 case h_2=>cases hq
 rename_i op t x yt ho
 cases ht:V.TT t with
 |none=>rw[ht]at hq;cases hq
 |some d=>
 rw[ht]at hq
 simp only at hq
 split at hq
 case h_2=>cases hq
 rename_i te hkd
 have bN:=(hV.tab t d ht).desc
 rw[hkd]at bN
 cases hd:o.dst with
 |none=>rw[hd]at hq;cases hq
 |some dst=>
 rw[hd]at hq
 simp only at hq
 cases hop:Rc op with
 |none=>rw[hop]at hq;cases hq
 |some neq=>
 rw[hop]at hq
 simp only at hq
 cases hx:opd σ x with
 |none=>rw[hx]at hq;cases hq
 |some ex=>
 rw[hx]at hq
 have hex:=bA h hx
 -- MM is known of the row
 have main:∃ (n:Nat) (ao:Option Addr) (cap:Nat),a.eval x=.slice ao n cap/\(0<n->ao.isNone=false)/\q=(dst,neq,Nat.beq n 0):=by
  split at hq
  ·rename_i u xs heq
   injection heq with heq
   subst heq
   injection hq with hq
   obtain⟨cs,h1,h2⟩:=hex
   obtain⟨ao,cap,e1,e2⟩:=I5 h1 h2
   refine⟨_,ao,cap,e1,e2,?_⟩
   rw[<-hq]
   cases xs <;> rfl
  ·rename_i l n π c heq
   injection heq with heq
   subst heq
   obtain⟨l,b,π,c,hl,hq,hg,uc,ds,s,S',cf,bF,fy,fY,hv⟩:=fJ h hq hex
   obtain⟨ct,cx⟩:=c
   simp only at hq bF hv
   split at hq
   ·rename_i u xs heq
    cases heq
    injection hq with hq
    obtain⟨ao,cap,e1,e2⟩:=I5 bF hv
    refine⟨_,ao,cap,e1,e2,?_⟩
    rw[<-hq]
    cases xs <;> rfl
   ·cases hq
  ·cases hq
 obtain⟨n,ao,cap,e1,e2,rfl⟩:=main
 simp only at hk
 have hb:K (σ.tW dst (.val .bool (bif neq then !ao.isNone else ao.isNone)))=some r:=by
  unfold M8 at hk
  cases hn:Nat.beq n 0
  ·rw[hn]at hk
   have hp:0<n:=by
    rcases dI n with h0|h0
    ·subst h0;cases hn
    ·exact h0
   rw[e2 hp]
   exact hk
  ·rw[hn]at hk
   obtain⟨k1,k2⟩:=I2 hk
   cases ao.isNone
   ·exact k2
   ·exact k1
 have hdd:∀ d',(some dst:Option Nat)=some d'->d' < B.N:=λd' e=>hN d' (by rw[hd];exact e)
 have bX:(execOp a.eval o).run P w=.ok (.value (.bool (bif neq then !ao.isNone else ao.isNone))) w:=by
  have e0:a.eval (.const (.slice none 0 0))=.slice none 0 0:=rfl
  cases op <;> simp only[Rc,reduceCtorEq,bh]at hop
  ·subst hop
   simp only[execOp,ho,ba,e1,e0,cond_false]
   simp[eqGuard,Lib.run_eql_slice_nil w t te ao n cap 0 0 bN]
  ·subst hop
   simp only[execOp,ho,ba,e1,e0,cond_true]
   simp[eqGuard,run_neq_slice_nil_any w t te ao n cap 0 0 bN]
 exact hd ▸ bQ (z:=.bool (bif neq then !ao.isNone else ao.isNone)) (w':=w) bX ⟨_,hb,by rw[hd];exact h.bT hdd (dst:=some dst) (e:=.val .bool (bif neq then !ao.isNone else ao.isNone)) dg,by rw[hd];exact bO (dst:=some dst)⟩
theorem Na{R:Type}{V:Env}(hV:fT P V){ops:Array Oper}(hN:mY B.N ops.toList=true){K:St->Option R}{r:R}{Q:Exit->Act->World->Prop}:∀ (rest:List Oper) (i:Nat) (σ:St) (a:Act) (w:World),ops.toList.drop i=rest->Inv B σ a w->Gy V ops.toList rest σ K=some r->
 (∀ σ' a' w',K σ'=some r->Inv B σ' a' w'->ES σ σ' (lc rest)->Q .normal a' w')->wpOps P ops Q (List.range' i rest.length) a w:=by
 intro rest
 induction rest with
 |nil=>intro i σ a w hd h hk hQ;exact hQ σ a w hk h (ES.refl _ _)
 |cons o rest ih=>
  intro i σ a w hd h hk hQ
  have hoi:ops[i]?=some o:=by
   rw[<-Array.getElem?_toList]
   have:=congrArg (·[0]?) hd
   simpa using this
  have lV:o∈ops.toList:=List.mem_of_getElem? (by rw[Array.getElem?_toList];exact hoi)
  have I7:∀ d,o.dst=some d->d<B.N:=by
   have:∀ l:List Oper,mY B.N l=true->∀ o∈l,∀ d,o.dst=some d->d<B.N:=by
    intro l
    induction l with
    |nil=>intro _ o ho;simp at ho
    |cons x l ihl=>
     intro hl o ho d hd
     simp only[mY,ag]at hl
     rcases aI.1 ho with rfl|ho
     ·simp_all
     grind
   grind
  have hd':ops.toList.drop (i+1)=rest:=by grind [List.tail_drop]
  simp only[Gy]at hk
  rw[aO,List.range'_succ]
  simp only[wpOps,hoi]
  have wr:∀ j,lc (o::rest) j=false->o.dst≠some j/\lc rest j=false:=λj hj=>by grind [lc,Nat.beq_refl]
  rcases Gz h hk with⟨hw,hk⟩|⟨hw,hk⟩
  ·rw[if_pos hw]
   left
   obtain⟨F,Sg,cg,h⟩:=h
   refine Oper.oD (Q:=λ_ _ _=>False) (I6 hV h I7 hk) (λa' w' hn=>?_) (λ_ _ _ h=>h.elim)
   obtain⟨σ',g1,g2,g3⟩:=hn
   exact ih (i+1) σ' a' w' hd' g2 g1 (λrK a'' w'' q1 q2 q3=>hQ rK a'' w'' q1 q2 (λj hj=>(g3 j (wr j hj).1).trans (q3 j (wr j hj).2)))
  ·rw[if_neg (by rw[hw];simp)]
   obtain⟨F,Sg,cg,h⟩:=h
   exact ih (i+1) _ _ w hd' (h.bT I7 (e:=.cst undef) rfl) hk (λrK a'' w'' q1 q2 q3=>hQ rK a'' w'' q1 q2 (λj hj=>(bO j (wr j hj).1).trans (q3 j (wr j hj).2)))
theorem GA{R:Type}{V:Env}(hV:fT P V){id:Nat}{ops:Array Oper}(hN:mY B.N ops.toList=true)(h:Inv B σ a w){K:St->Option R}{r:R}{Q:Exit->Act->World->Prop}(hk:Gy V ops.toList ops.toList σ K=some r)
 (hQ:∀ σ' a' w',K σ'=some r->Inv B σ' a' w'->ES σ σ' (lc ops.toList)->Q .normal a' w'):(Code.region id ops false).wp P Q a w:=by grind [wp_region,Na,List.range_eq_range',Array.length_toList]
end
end
end Go.Proofs.YtphipehmbefejaaGreat.Rf
