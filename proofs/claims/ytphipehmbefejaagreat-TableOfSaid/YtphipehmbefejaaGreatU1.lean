/- A part of a proof that the given statement of this claim is true of the program. No conditions. Printed by pack2.py. -/
import Derived.Below
import Derived.Calls
import Derived.Orders
import Derived.Laws.IdiomCopy
import Derived.Laws.Cells
import Derived.Laws.Entries
import Derived.Deep.AppendSrc
import Derived.Laws.StructEq
import Derived.Laws.Small
import Derived.Deep.Upon
import Derived.Laws.AppendOwn
import Derived.Laws.Append
import Derived.Conc.LoneSelectN
import Derived.Laws.BytesArg
import Derived.ChangeKeysEq
import Derived.Laws.IdiomStrings
import Derived.Laws.Pointers
import Derived.MapKept
import Derived.Laws.Cover3
import Derived.Lib.SliceRun
import Derived.WalkSpells
import Derived.Conc.LoneSelect
import Derived.Scope
import Derived.Test.YtphipehmbefejaaGreatProg
import Derived.KernelRfl
import Derived.ProofKit
import Derived.OpenShut
import Derived.WalkKit
import Derived.Lib.Hide
import Derived.Lib.AppendZerosOnto
import Derived.Lib.Overlaps
import Derived.Shelf.RegionOpenPlain
import Derived.Laws.Externs
import Derived.Shelf.SlSortCmp.NoneTotal
import Derived.Test.YtphipehmbefejaaGreatRows
set_option linter.unusedVariables false
set_option linter.unusedSimpArgs false
namespace Go.Proofs.YtphipehmbefejaaGreat.Rf
open Go
noncomputable section
abbrev nQ:=@List.take_succ_eq_append_getElem
abbrev qS:=@Nat.testBit_eq_decide_div_mod_eq
abbrev kF:=@List.drop_append_of_le_length
abbrev dW:=@List.eq_nil_of_length_eq_zero
abbrev kG:=@List.take_append_of_le_length
abbrev wA:=@Nat.two_pow_add_eq_or_of_lt
abbrev nT:=@Int.fdiv_eq_ediv_of_nonneg
abbrev ju:=@Classical.byContradiction
abbrev cq:=@List.drop_eq_getElem_cons
abbrev nU:=@List.pairwise_iff_getElem
abbrev nV:=@Option.isSome_iff_exists
abbrev qT:=@List.append_cancel_left
abbrev qU:=@List.length_eq_zero_iff
abbrev nW:=@List.pairwise_singleton
abbrev b9:=@Option.bind_eq_some_iff
abbrev dX:=@List.drop_eq_nil_of_le
abbrev kH:=@List.drop_of_length_le
abbrev qV:=@List.length_pos_of_mem
abbrev bK:=@List.take_of_length_le
abbrev gq:=@MapKept.run_getObj_map
abbrev nX:=@Nat.div_div_eq_div_mul
abbrev qW:=@Nat.testBit_lt_two_pow
abbrev gY:=@Bool.and_eq_false_iff
abbrev fB:=@List.length_filter_le
abbrev jv:=@List.length_replicate
abbrev kI:=@List.length_singleton
abbrev fC:=@List.take_append_drop
abbrev bI:=@Nat.eq_of_beq_eq_true
abbrev kJ:=@Nat.le_of_ble_eq_true
abbrev gZ:=@Array.toArray_toList
abbrev gr:=@Bool.or_eq_false_iff
abbrev bB:=@List.mem_cons_of_mem
abbrev eZ:=@List.mem_iff_getElem
abbrev hC:=@List.mem_of_mem_drop
abbrev nY:=@List.mem_of_mem_take
abbrev gu:=@List.pairwise_append
abbrev fD:=@Nat.eq_of_testBit_eq
abbrev hJ:=@Nat.mul_le_mul_right
abbrev hY:=@Nat.pow_le_pow_right
abbrev nZ:=@Nat.pow_lt_pow_right
abbrev bg:=@Array.length_toList
abbrev qX:=@Array.toList_append
abbrev qY:=@Array.toList_modify
abbrev fF:=@Int.toNat_of_nonneg
abbrev gw:=@List.flatMap_append
abbrev qZ:=@List.map_congr_left
abbrev kK:=@Nat.testBit_two_pow
abbrev n5:=@BitVec.toNat_ofInt
abbrev ap:=@Bool.false_eq_true
abbrev jw:=@Bool.false_ne_true
abbrev aB:=@Int.natCast_nonneg
abbrev jx:=@List.filter_append
abbrev ak:=@List.length_append
abbrev bu:=@List.mem_cons_self
abbrev aK:=@List.mem_singleton
abbrev dx:=@List.pairwise_cons
abbrev dI:=@Nat.eq_zero_or_pos
abbrev n9:=@Nat.lt_of_le_of_lt
abbrev bz:=@Nat.lt_of_lt_of_le
abbrev q8:=@Array.size_append
abbrev bC:=@Bool.not_eq_true'
abbrev aa:=@Int.toNat_natCast
abbrev aT:=@List.append_assoc
abbrev kL:=@List.flatMap_cons
abbrev eD:=@List.foldl_append
abbrev ia:=@List.length_range
abbrev q9:=@List.size_toArray
abbrev jy:=@List.take_add_one
abbrev e7:=@Nat.lt_succ_of_lt
abbrev rc:=@Nat.or_lt_two_pow
abbrev bh:=@Option.some.injEq
abbrev bw:=@Result.andThen_ok
abbrev ib:=@Array.toList_map
abbrev rf:=@BitVec.toNat_and
abbrev ag:=@Bool.and_eq_true
abbrev dJ:=@Bool.cond_eq_ite
abbrev cG:=@List.all_eq_true
abbrev ic:=@List.any_eq_true
abbrev gx:=@List.cons_append
abbrev ie:=@List.drop_length
abbrev rh:=@List.flatMap_nil
abbrev aN:=@List.getElem_mem
abbrev aO:=@List.length_cons
abbrev bD:=@List.length_drop
abbrev aL:=@List.length_take
abbrev dK:=@List.mem_flatMap
abbrev bU:=@List.not_mem_nil
abbrev dj:=@List.take_length
abbrev cH:=@Nat.lt_succ_self
abbrev ri:=@Nat.min_eq_right
abbrev oa:=@Option.bind_none
abbrev ig:=@Option.bind_some
abbrev oc:=@Option.getD_some
abbrev rj:=@BitVec.toNat_or
abbrev cI:=@Bool.eq_iff_iff
abbrev aJ:=@Bool.or_eq_true
abbrev rk:=@Int.natCast_add
abbrev rl:=@List.any_append
abbrev kM:=@List.append_inj
abbrev bV:=@List.append_nil
abbrev e8:=@List.cons.injEq
abbrev kN:=@List.foldl_cons
abbrev bq:=@List.length_map
abbrev bn:=@List.length_nil
abbrev fa:=@List.length_set
abbrev od:=@List.length_zip
abbrev cO:=@List.map_append
abbrev oe:=@List.map_const'
abbrev au:=@List.mem_append
abbrev fG:=@List.mem_filter
abbrev cm:=@List.nil_append
abbrev oh:=@List.nodup_cons
abbrev dY:=@List.range_succ
abbrev oi:=@List.take_left'
abbrev rm:=@Nat.div_le_self
abbrev dl:=@Nat.min_eq_left
abbrev rn:=@Nat.min_le_left
abbrev dy:=@Option.map_some
abbrev dz:=@Option.some.inj
abbrev oj:=@Bool.and_assoc
abbrev dA:=@Bool.false_and
abbrev aH:=@Bool.not_false
abbrev ol:=@Int.ofNat_tdiv
abbrev ij:=@List.drop_drop
abbrev om:=@List.drop_left
abbrev oo:=@List.drop_take
abbrev dm:=@List.drop_zero
abbrev cr:=@List.mem_range
abbrev oq:=@List.take_take
abbrev ot:=@Nat.testBit_or
abbrev cP:=@Bool.false_or
abbrev ay:=@Bool.not_true
abbrev jz:=@Bool.or_false
abbrev bG:=@Bool.true_and
abbrev gy:=@Int.lt_irrefl
abbrev fH:=@List.map_cons
abbrev aI:=@List.mem_cons
abbrev cX:=@Nat.add_assoc
abbrev dZ:=@Nat.lt_irrefl
abbrev cQ:=@Addr.add_lit
abbrev jA:=@Bool.or_true
abbrev gz:=@Bool.true_or
abbrev eE:=@List.mem_map
abbrev ik:=@Nat.add_zero
abbrev fc:=@Nat.beq_refl
abbrev il:=@Nat.le_of_eq
abbrev bE:=@Nat.le_trans
abbrev aj:=@Nat.lt_or_ge
abbrev kO:=@Nat.mul_zero
abbrev jB:=@Nat.pow_succ
abbrev kP:=@Nat.pow_zero
abbrev jC:=@Nat.succ_mul
abbrev eF:=@Nat.zero_add
abbrev ba:=@Sem.run_bind
abbrev bP:=@Sem.run_pure
abbrev im:=@Int.le_refl
abbrev gA:=@Nat.add_mul
abbrev kQ:=@Nat.div_one
abbrev aw:=@Nat.le_refl
abbrev iq:=@Nat.mul_one
abbrev ou:=@Nat.sub_mul
abbrev az:=@Nat.zero_le
abbrev kR:=@Nat.blt_eq
abbrev eG:=@Nat.mod_lt
abbrev jD:=@Iff.rfl
end
noncomputable section
inductive Ty where
 |int (k:IntKind)
 |bool
 |str
 |unit
 |pair (a b:Ty)
 |st (t:Ty)
 |sl (t:Ty)
 |arr (n:Nat) (t:Ty)
 |box (t:Ty)
 |ptr (t:Ty)
 |jI
 |hol (t:Ty)
 |may (t:Ty)
 |chan
 |fn (f:Nat)
 |map (k v:Ty)
 |nl (t:Ty)
 deriving DecidableEq,Inhabited
inductive Md where
 |ro
 |own (e:Md)
 |pr (a b:Md)
 deriving DecidableEq,Inhabited
def Md.fst:Md->Md
 |.pr a _=>a
 |_=>.ro
def Md.snd:Md->Md
 |.pr _ b=>b
 |_=>.ro
def Md.el:Md->Md
 |.own e=>e
 |_=>.ro
abbrev Ty.T:Ty->Type
 |.int _=>Int
 |.bool=>Bool
 |.str=>List Int
 |.unit=>Unit
 |.pair a b=>a.T×b.T
 |.st t=>t.T
 |.sl t=>List t.T
 |.arr _ t=>List t.T
 |.box t=>t.T
 |.ptr t=>Option t.T
 |.jI=>Unit
 |.hol t=>List t.T×Nat
 |.may t=>Option t.T
 |.chan=>Nat×List Int
 |.fn _=>Unit
 |.map k v=>List (k.T×v.T)
 |.nl t=>List t.T
def Ty.width:Ty->Nat
 |.unit=>0
 |.pair a b=>a.width+b.width
 |.st t=>t.width
 |.arr n t=>n*t.width
 |_=>1
def Ty.flat:Ty->Bool
 |.pair a b=>a.flat&&b.flat
 |.st t=>t.flat
 |.arr _ t=>t.flat
 |.sl _|.box _|.ptr _|.hol _|.may _|.chan|.map _ _|.nl _=>false
 |_=>true
def Ty.agg:Ty->Bool
 |.st _|.arr _ _=>true
 |_=>false
def kLo:IntKind->Int
 |.i8=>-128
 |.i16=>-32768
 |.i32=>-2147483648
 |.i64=>-9223372036854775808
 |_=>0
def kHi:IntKind->Int
 |.i8=>127
 |.i16=>32767
 |.i32=>2147483647
 |.i64=>9223372036854775807
 |.u8=>255
 |.u16=>65535
 |.u32=>4294967295
 |.u64=>18446744073709551615
def inK(k:IntKind)(n:Int):Prop:=kLo k<=n/\n<=kHi k
theorem eH(k:IntKind)(n:Int):inK k (k.wrap n):=by
 cases k <;> simp[inK,kLo,kHi,IntKind.wrap,IntKind.bits,IntKind.signed] <;> (try split) <;> omega
theorem jJ{k:IntKind}{n:Int}(h:inK k n):k.wrap n=n:=by
 obtain⟨h1,h2⟩:=h
 cases k <;> simp[kLo,kHi]at h1 h2 <;> simp[IntKind.wrap,IntKind.bits,IntKind.signed] <;> (try split) <;> omega
def cd(u:ByteArray):List Int:=u.data.toList.map λb=>(b.toNat:Int)
abbrev af:=Nat->Prop
def af.none:af:=λ_=>False
def af.or(A B:af):af:=λk=>A k\/B k
def Dis(A B:af):Prop:=∀ k,A k->B k->False
def Sub(A B:af):Prop:=∀ k,A k->B k
theorem Sub.refl(A:af):Sub A A:=λ_ h=>h
theorem Sub.trans{A B C:af}(h:Sub A B)(k:Sub B C):Sub A C:=λx hx=>k x (h x hx)
theorem Dis.symm{A B:af}(h:Dis A B):Dis B A:=λk a b=>h k b a
theorem Dis.mono{A B A' B':af}(h:Dis A B)(ha:Sub A' A)(hb:Sub B' B):Dis A' B':=λk a b=>h k (ha k a) (hb k b)
theorem Dis.none(A:af):Dis A af.none:=λ_ _ h=>h
def At(w:World)(a:Addr)(ds:List Value):Prop:=∀ j v,ds[j]?=some v->w.cell? (a.add j)=some v
def bm{α:Type}(R:α->List Value->af->Prop):List α->List Value->af->Prop
 |[],cs,_=>cs=[]
 |y::ys,cs,S=>∃ c1 c2 S1 S2,cs=c1++c2/\R y c1 S1/\bm R ys c2 S2/\Sub S1 S/\Sub S2 S/\Dis S1 S2
structure Mark(n:Nat)(z:Nat:=1)where
 t:TypeId
 a:Nat
 b:Nat
 ok:∀ j,j<n->¬(a<=j/\j<b)
 en:z≠1->¬(a<=n/\n<b)
def Mark.free(n:Nat){z:Nat}(t:TypeId):Mark n z:=⟨t,0,0,λj _ h=>by omega,λ_ h=>by omega⟩
def Mark.to{n m z:Nat}(e:Mark n z)(h:m<=n):Mark m z:=⟨e.t,e.a,e.b,λj hj=>e.ok j (bz hj h),λhz=>(aj m n).elim (λhl=>e.ok m hl) (λhg=>by rw[Nat.le_antisymm h hg];exact e.en hz)⟩
def Mark.cast{n z z':Nat}(e:Mark n z)(h:z'=z):Mark n z':=⟨e.t,e.a,e.b,e.ok,λhz=>e.en (λh'=>hz (h.trans h'))⟩
def Mark.any{n z:Nat}(e:Mark n z):Mark n:=⟨e.t,e.a,e.b,e.ok,λh=>absurd rfl h⟩
theorem Mark.frz{w:World}{b z:Nat}{c:Array Value}{e:Mark c.size z}(hb:w.heap[b]?=some (.cells c e.t (e.a,e.b))){a:Addr}(ha:a.block=b)(hj:a.off<c.size):w.frozen? a=false:=by
 have h:=e.ok a.off hj
 simp only[World.frozen?,ha,hb]
 simp_all
def DY(w:World)(sz:Nat){α:Type}(R:α->List Value->af->Prop)(x:List α)(cs:List Value)(S:af):Prop:=
 ∃ a cap,cs=[.slice a x.length cap]/\x.length<=cap/\cap<=maxLen/\
  (cap=0\/∃ (b off:Nat) (c:Array Value) (e:Mark c.size sz),a=some ⟨b,off,none⟩/\w.heap[b]?=some (.cells c e.t (e.a,e.b))/\off+cap*sz<=c.size/\S b/\
   ∃ S',bm R x ((c.toList.drop off).take (x.length*sz)) S'/\Sub S' S/\¬S' b)
def Cg(F:af)(w:World){α:Type}(R:α->List Value->af->Prop)(x:List α)(cs:List Value):Prop:=
 ∃ a cap,cs=[.slice a x.length cap]/\x.length<=cap/\cap<=maxLen/\
  (0<x.length->∃ ad,a=some ad/\F ad.block/\∃ ds,At w ad ds/\bm R x ds af.none)
def xE(w:World){α:Type}(R:α->List Value->af->Prop)(x:α)(cs:List Value)(S:af):Prop:=
 ∃ (b:Nat) (c:Array Value) (e:Mark c.size),cs=[.pointer (some ⟨b,0,none⟩)]/\w.heap[b]?=some (.cells c e.t (e.a,e.b))/\S b/\∃ S',R x c.toList S'/\Sub S' S/\¬S' b
def DZ(F:af)(w:World){α:Type}(R:α->List Value->af->Prop)(x:α)(cs:List Value):Prop:=
 ∃ ad,cs=[.pointer (some ad)]/\F ad.block/\∃ ds,At w ad ds/\R x ds af.none
def jK{α:Type}(x:List α)(j:Nat):List (Option α):=(x.map some).set j none
def Mt{α:Type}(R:α->List Value->af->Prop):Option α->List Value->af->Prop
 |some y,c,S=>R y c S/\c.length=1
 |none,c,_=>∃ z:Value,c=[z]/\z.oneCell'=true
def VR(t:Ty)(cs:List Value)(v:Value):Prop:=if t.agg then v=.agg cs.toArray else cs=[v]/\v.oneCell'=true
def dN{α β:Type}(Rk:α->Value->Prop)(Rv:β->Value->Prop):List (α×β)->List MapEntry->Nat->Prop
 |[],es,_=>es=[]
 |x::xs,es,i=>∃ e r,es=e::r/\e.born=i/\Rk x.1 e.key/\Rv x.2 e.val/\dN Rk Rv xs r (i+1)
theorem dN.imp{α β:Type}{Rk Rk':α->Value->Prop}{Rv Rv':β->Value->Prop}(h1:∀ x v,Rk x v->Rk' x v)(h2:∀ x v,Rv x v->Rv' x v):∀ {xs:List (α×β)} {es:List MapEntry} {i:Nat},dN Rk Rv xs es i->dN Rk' Rv' xs es i:=by
 intro xs
 induction xs with
 |nil=>intro es i h;exact h
 |cons x xs ih=>rintro es i ⟨e,r,rfl,hb,hk,hv,hr⟩;exact⟨e,r,rfl,hb,h1 _ _ hk,h2 _ _ hv,ih hr⟩
def RV{t:Ty}(R:t.T->List Value->af->Prop)(x:t.T)(v:Value):Prop:=∃ c,R x c af.none/\VR t c v
def QC(w:World){α β:Type}(Rk:α->Value->Prop)(Rv:β->Value->Prop)(x:List (α×β))(cs:List Value)(S:af):Prop:=
 ∃ (b:Nat) (es:Array MapEntry),cs=[.map (some b)]/\w.heap[b]?=some (.map es es.size)/\S b/\dN Rk Rv x es.toList 0
def tU(F:af)(w:World){α β:Type}(Rk:α->Value->Prop)(Rv:β->Value->Prop)(x:List (α×β))(cs:List Value):Prop:=
 (cs=[.map none]/\x=[])\/∃ (b:Nat) (es:Array MapEntry),cs=[.map (some b)]/\w.heap[b]?=some (.map es es.size)/\F b/\dN Rk Rv x es.toList 0
def Rep(F:af)(w:World):(t:Ty)->Md->t.T->List Value->af->Prop
 |.int k,_,n,cs,_=>cs=[.int k n]/\inK k n
 |.bool,_,b,cs,_=>cs=[.bool b]
 |.str,_,s,cs,_=>∃ u:ByteArray,cs=[.string u]/\s=cd u/\u.size<=maxLen
 |.unit,_,_,cs,_=>cs=[]
 |.pair a b,m,x,cs,S=>∃ c1 c2 S1 S2,cs=c1++c2/\Rep F w a m.fst x.1 c1 S1/\Rep F w b m.snd x.2 c2 S2/\Sub S1 S/\Sub S2 S/\Dis S1 S2
 |.st t,m,x,cs,S=>Rep F w t m x cs S
 |.sl t,.own m,x,cs,S=>DY w t.width (Rep F w t m) x cs S
 |.sl t,.ro,x,cs,_=>Cg F w (Rep F w t .ro) x cs
 |.sl t,.pr _ _,x,cs,_=>Cg F w (Rep F w t .ro) x cs
 |.arr n t,m,x,cs,S=>x.length=n/\bm (Rep F w t m.el) x cs S
 |.box t,.own m,x,cs,S=>xE w (Rep F w t m) x cs S
 |.box t,.ro,x,cs,_=>DZ F w (Rep F w t .ro) x cs
 |.box t,.pr _ _,x,cs,_=>DZ F w (Rep F w t .ro) x cs
 |.ptr _,_,none,cs,_=>cs=[.pointer none]
 |.ptr t,.own m,some x,cs,S=>xE w (Rep F w t m) x cs S
 |.ptr t,.ro,some x,cs,_=>DZ F w (Rep F w t .ro) x cs
 |.ptr t,.pr _ _,some x,cs,_=>DZ F w (Rep F w t .ro) x cs
 |.jI,_,_,cs,_=>∃ z:Value,cs=[z]/\z.oneCell'=true
 |.may t,m,x,cs,S=>Mt (Rep F w t m) x cs S
 |.hol t,.own m,x,cs,S=>x.2<x.1.length/\DY w 1 (Mt (Rep F w t m)) (jK x.1 x.2) cs S
 |.hol _,.ro,_,cs,_=>∃ z:Value,cs=[z]/\z.oneCell'=true
 |.hol _,.pr _ _,_,cs,_=>∃ z:Value,cs=[z]/\z.oneCell'=true
 |.chan,.own _,x,cs,S=>∃ (b:Nat) (buf:Array Value) (s r:Nat),cs=[.chan (some b)]/\w.heap[b]?=some (.chan x.1 buf false s r false)/\buf.toList=x.2.map (λn=>.int .i64 n)/\((∀ n∈x.2,inK .i64 n)/\x.2.length<=x.1/\x.1<=maxLen)/\S b
 |.chan,.ro,_,cs,_=>∃ z:Value,cs=[z]/\z.oneCell'=true
 |.chan,.pr _ _,_,cs,_=>∃ z:Value,cs=[z]/\z.oneCell'=true
 |.fn f,_,_,cs,_=>cs=[.func (.func f) #[] #[]]
 |.nl t,_,x,cs,_=>Cg F w (Rep F w t .ro) x cs/\(x=[]->cs=[.slice none 0 0])
 |.map k v,.own _,x,cs,S=>QC w (RV (Rep F w k .ro)) (RV (Rep F w v .ro)) x cs S
 |.map k v,.ro,x,cs,_=>tU F w (RV (Rep F w k .ro)) (RV (Rep F w v .ro)) x cs
 |.map k v,.pr _ _,x,cs,_=>tU F w (RV (Rep F w k .ro)) (RV (Rep F w v .ro)) x cs
section
variable {α:Type} {R R':α->List Value->af->Prop}
theorem bm.mono{x:List α}:∀ {cs:List Value} {S S':af},bm R x cs S->Sub S S'->bm R x cs S':=by
 induction x with
 |nil=>intro cs S S' h _;exact h
 |cons y ys ih=>
  rintro cs S S' ⟨c1,c2,S1,S2,rfl,h1,h2,s1,s2,d⟩ hs
  exact⟨c1,c2,S1,S2,rfl,h1,h2,s1.trans hs,s2.trans hs,d⟩
theorem bm.imp{x:List α}:∀ {cs:List Value} {S:af},(∀ y∈x,∀ c T,Sub T S->R y c T->R' y c T)->bm R x cs S->bm R' x cs S:=by
 induction x with
 |nil=>intro cs S _ h;exact h
 |cons y ys ih=>
  rintro cs S hi ⟨c1,c2,S1,S2,rfl,h1,h2,s1,s2,d⟩
  exact⟨c1,c2,S1,S2,rfl,hi y (by simp) _ _ s1 h1,ih (λz hz c T hT hr=>hi z (by simp[hz]) c T (hT.trans s2) hr) h2,s1,s2,d⟩
theorem bm.nil{S:af}:bm R [] [] S:=rfl
theorem bm.len{sz:Nat}(hw:∀ y c S,R y c S->c.length=sz):∀ {x:List α} {cs:List Value} {S:af},bm R x cs S->cs.length=x.length*sz:=by
 intro x
 induction x with
 |nil=>intro cs S h;cases h;simp
 |cons y ys ih=>
  rintro cs S ⟨c1,c2,S1,S2,rfl,h1,h2,_,_,_⟩
  grind
theorem bm.append{x y:List α}:∀ {cs ds:List Value} {S T:af},bm R x cs S->bm R y ds T->Dis S T->bm R (x++y) (cs++ds) (S.or T):=by
 induction x with
 |nil=>rintro cs ds S T h hy _;cases h;exact hy.mono (λk h=>.inr h)
 |cons z zs ih=>
  rintro cs ds S T ⟨c1,c2,S1,S2,rfl,h1,h2,s1,s2,d⟩ hy hd
  refine⟨c1,c2++ds,S1,S2.or T,by simp,h1,ih h2 hy (hd.mono s2 (Sub.refl _)),λk h=>.inl (s1 k h),λk h=>h.imp (s2 k) id,λk a b=>?_⟩
  exact b.elim (λb=>d k a b) (λb=>hd k (s1 k a) b)
theorem bm.split{x y:List α}:∀ {cs:List Value} {S:af},bm R (x++y) cs S->∃ c1 c2 S1 S2,cs=c1++c2/\bm R x c1 S1/\bm R y c2 S2/\Sub S1 S/\Sub S2 S/\Dis S1 S2:=by
 induction x with
 |nil=>intro cs S h;exact⟨[],cs,af.none,S,rfl,rfl,h,λ_ h=>h.elim,Sub.refl _,λ_ h=>h.elim⟩
 |cons z zs ih=>
  rintro cs S ⟨c1,c2,S1,S2,rfl,h1,h2,s1,s2,d⟩
  obtain⟨d1,d2,T1,T2,rfl,k1,k2,t1,t2,e⟩:=ih h2
  refine⟨c1++d1,d2,S1.or T1,T2,by simp,⟨c1,d1,S1,T1,rfl,h1,k1,λk h=>.inl h,λk h=>.inr h,d.mono (Sub.refl _) t1⟩,k2,λk h=>h.elim (s1 k) (λh=>s2 k (t1 k h)),t2.trans s2,λk a b=>?_⟩
  exact a.elim (λa=>d k a (t2 k b)) (λa=>e k a b)
end
theorem aQ(F:af)(w:World):∀ (t:Ty) (m:Md) (x:t.T) (cs:List Value) (S:af),Rep F w t m x cs S->cs.length=t.width:=by
 intro t
 induction t with
 |int k=>rintro m x cs S ⟨rfl,_⟩;rfl
 |bool=>rintro m x cs S rfl;rfl
 |str=>rintro m x cs S ⟨u,rfl,_⟩;rfl
 |unit=>rintro m x cs S rfl;rfl
 |jI=>rintro m x cs S ⟨z,rfl,_⟩;rfl
 |fn f=>rintro m x cs S rfl;rfl
 |nl t _=>rintro m x cs S ⟨⟨a,cap,rfl,_⟩,_⟩;rfl
 |map k v _ _=>
  intro m x cs S h
  cases m with
  |own m=>obtain⟨b,es,rfl,_⟩:=h;rfl
  |ro=>rcases h with⟨rfl,_⟩|⟨b,es,rfl,_⟩ <;> rfl
  |pr _ _=>rcases h with⟨rfl,_⟩|⟨b,es,rfl,_⟩ <;> rfl
 |chan=>
  intro m x cs S h
  cases m with
  |own m=>obtain⟨b,buf,s,r,rfl,_⟩:=h;rfl
  |ro=>obtain⟨z,rfl,_⟩:=h;rfl
  |pr _ _=>obtain⟨z,rfl,_⟩:=h;rfl
 |hol t ih=>
  intro m x cs S h
  cases m with
  |own m=>obtain⟨_,a,cap,rfl,_⟩:=h;rfl
  |ro=>obtain⟨z,rfl,_⟩:=h;rfl
  |pr _ _=>obtain⟨z,rfl,_⟩:=h;rfl
 |may t ih=>
  intro m x cs S h
  cases x with
  |none=>obtain⟨z,rfl,_⟩:=h;rfl
  |some x=>exact h.2
 |pair a b iha ihb=>rintro m x cs S ⟨c1,c2,S1,S2,rfl,h1,h2,_⟩;simp[Ty.width,iha _ _ _ _ h1,ihb _ _ _ _ h2]
 |st t ih=>intro m x cs S h;exact ih m x cs S h
 |sl t ih=>
  intro m x cs S h
  cases m with
  |own m=>obtain⟨a,cap,rfl,_⟩:=h;rfl
  |ro=>obtain⟨a,cap,rfl,_⟩:=h;rfl
  |pr _ _=>obtain⟨a,cap,rfl,_⟩:=h;rfl
 |arr n t ih=>
  rintro m x cs S ⟨hn,h⟩
  grind [Ty.width,bm.len]
 |box t ih=>
  intro m x cs S h
  cases m with
  |own m=>obtain⟨b,c,e,rfl,_⟩:=h;rfl
  |ro=>obtain⟨a,rfl,_⟩:=h;rfl
  |pr _ _=>obtain⟨a,rfl,_⟩:=h;rfl
 |ptr t ih=>
  intro m x cs S h
  cases x with
  |none=>simp only[Rep]at h;subst h;rfl
  |some x=>
   cases m with
   |own m=>obtain⟨b,c,e,rfl,_⟩:=h;rfl
   |ro=>obtain⟨a,rfl,_⟩:=h;rfl
   |pr _ _=>obtain⟨a,rfl,_⟩:=h;rfl
theorem tV{w w':World}{a:Addr}(h:w'.heap[a.block]?=w.heap[a.block]?):w'.cell? a=w.cell? a:=by simp[World.cell?,h]
theorem jE(a:Addr)(n:Nat):(a.add n).block=a.block:=by unfold Addr.add;split <;> rfl
theorem At.congr{w w':World}{a:Addr}{ds:List Value}(h:At w a ds)(hb:w'.heap[a.block]?=w.heap[a.block]?):At w' a ds:=by
 intro j v hj
 exact(tV (a:=a.add j) (by rw[jE];exact hb)).trans (h j v hj)
theorem aU{F F':af}{w w':World}(hF:Sub F F')(hFw:∀ k,F k->w'.heap[k]?=w.heap[k]?):
 ∀ (t:Ty) (m:Md) (x:t.T) (cs:List Value) (S S':af),Rep F w t m x cs S->Sub S S'->(∀ k,S k->w'.heap[k]?=w.heap[k]?)->Rep F' w' t m x cs S':=by
 intro t
 induction t with
 |int k=>intro m x cs S S' h _ _;exact h
 |bool=>intro m x cs S S' h _ _;exact h
 |str=>intro m x cs S S' h _ _;exact h
 |unit=>intro m x cs S S' h _ _;exact h
 |jI=>intro m x cs S S' h _ _;exact h
 |fn f=>intro m x cs S S' h _ _;exact h
 |nl t ih=>
  rintro m x cs S S' ⟨⟨a,cap,rfl,h1,h2,h3⟩,h4⟩ hs hw
  refine⟨⟨a,cap,rfl,h1,h2,λhp=>?_⟩,h4⟩
  obtain⟨ad,rfl,hf,ds,hat,hr⟩:=h3 hp
  exact⟨ad,rfl,hF _ hf,ds,hat.congr (hFw _ hf),bm.imp (λy _ c T hT hr=>ih .ro y c T T hr (Sub.refl _) (λk hk=>(hT k hk).elim)) hr⟩
 |map k v ihk ihv=>
  intro m x cs S S' h hs hw
  have hk:∀ y u,RV (Rep F w k .ro) y u->RV (Rep F' w' k .ro) y u:=λy u ⟨c,h1,h2⟩=>⟨c,ihk .ro y c _ _ h1 (Sub.refl _) (λ_ h=>h.elim),h2⟩
  have hv:∀ y u,RV (Rep F w v .ro) y u->RV (Rep F' w' v .ro) y u:=λy u ⟨c,h1,h2⟩=>⟨c,ihv .ro y c _ _ h1 (Sub.refl _) (λ_ h=>h.elim),h2⟩
  have ro:tU F w (RV (Rep F w k .ro)) (RV (Rep F w v .ro)) x cs->tU F' w' (RV (Rep F' w' k .ro)) (RV (Rep F' w' v .ro)) x cs:=by
   rintro(h|⟨b,es,rfl,hb,hf,hr⟩)
   ·exact .inl h
   ·exact .inr ⟨b,es,rfl,(hFw b hf).trans hb,hF b hf,hr.imp hk hv⟩
  cases m with
  |ro=>exact ro h
  |pr _ _=>exact ro h
  |own m=>
   obtain⟨b,es,rfl,hb,hS,hr⟩:=h
   exact⟨b,es,rfl,(hw b hS).trans hb,hs _ hS,hr.imp hk hv⟩
 |chan=>
  intro m x cs S S' h hs hw
  cases m with
  |ro=>exact h
  |pr _ _=>exact h
  |own m=>
   obtain⟨b,buf,s,r,rfl,hb,h1,h2,hS⟩:=h
   exact⟨b,buf,s,r,rfl,(hw b hS).trans hb,h1,h2,hs _ hS⟩
 |hol t ih=>
  intro m x cs S S' h hs hw
  cases m with
  |ro=>exact h
  |pr _ _=>exact h
  |own m=>
   obtain⟨hj,a,cap,rfl,h1,h2,h3⟩:=h
   refine⟨hj,a,cap,rfl,h1,h2,h3.imp id ?_⟩
   rintro⟨b,off,c,e,rfl,hb,hc,hS,S1,hr,s1,n1⟩
   exact⟨b,off,c,e,rfl,(hw b hS).trans hb,hc,hs _ hS,S1,bm.imp (λy _ c T hT hr=>by
    cases y with
    |none=>exact hr
    |some y=>exact⟨ih m y c T T hr.1 (Sub.refl _) (λk hk=>hw k (s1 k (hT k hk))),hr.2⟩) hr,s1.trans hs,n1⟩
 |may t ih=>
  intro m x cs S S' h hs hw
  cases x with
  |none=>exact h
  |some x=>exact⟨ih m x cs S S' h.1 hs hw,h.2⟩
 |pair a b iha ihb=>
  rintro m x cs S S' ⟨c1,c2,S1,S2,rfl,h1,h2,s1,s2,d⟩ hs hw
  exact⟨c1,c2,S1,S2,rfl,iha _ _ _ _ _ h1 (Sub.refl _) (λk h=>hw k (s1 k h)),ihb _ _ _ _ _ h2 (Sub.refl _) (λk h=>hw k (s2 k h)),s1.trans hs,s2.trans hs,d⟩
 |st t ih=>intro m x cs S S' h hs hw;exact ih m x cs S S' h hs hw
 |arr n t ih=>
  rintro m x cs S S' ⟨hn,h⟩ hs hw
  exact⟨hn,(bm.imp (λy _ c T hT hr=>ih m.el y c T T hr (Sub.refl _) (λk hk=>hw k (hT k hk))) h).mono hs⟩
 |sl t ih=>
  have ro:∀ (x:List t.T) (cs:List Value),Cg F w (Rep F w t .ro) x cs->Cg F' w' (Rep F' w' t .ro) x cs:=by
   rintro x cs ⟨a,cap,rfl,h1,h2,h3⟩
   refine⟨a,cap,rfl,h1,h2,λhp=>?_⟩
   obtain⟨ad,rfl,hf,ds,hat,hr⟩:=h3 hp
   exact⟨ad,rfl,hF _ hf,ds,hat.congr (hFw _ hf),bm.imp (λy _ c T hT hr=>ih .ro y c T T hr (Sub.refl _) (λk hk=>(hT k hk).elim)) hr⟩
  intro m x cs S S' h hs hw
  cases m with
  |ro=>exact ro x cs h
  |pr _ _=>exact ro x cs h
  |own m=>
   obtain⟨a,cap,rfl,h1,h2,h3⟩:=h
   refine⟨a,cap,rfl,h1,h2,h3.imp id ?_⟩
   rintro⟨b,off,c,e,rfl,hb,hc,hS,S1,hr,s1,n1⟩
   exact⟨b,off,c,e,rfl,(hw b hS).trans hb,hc,hs _ hS,S1,bm.imp (λy _ c T hT hr=>ih m y c T T hr (Sub.refl _) (λk hk=>hw k (s1 k (hT k hk)))) hr,s1.trans hs,n1⟩
 |box t ih=>
  intro m x cs S S' h hs hw
  cases m with
  |own m=>
   obtain⟨b,c,e,rfl,hb,hS,S1,hr,s1,n1⟩:=h
   exact⟨b,c,e,rfl,(hw b hS).trans hb,hs _ hS,S1,ih m x _ _ _ hr (Sub.refl _) (λk hk=>hw k (s1 k hk)),s1.trans hs,n1⟩
  |ro=>
   obtain⟨ad,rfl,hf,ds,hat,hr⟩:=h
   exact⟨ad,rfl,hF _ hf,ds,hat.congr (hFw _ hf),ih .ro x _ _ _ hr (Sub.refl _) (λk hk=>hk.elim)⟩
  |pr _ _=>
   obtain⟨ad,rfl,hf,ds,hat,hr⟩:=h
   exact⟨ad,rfl,hF _ hf,ds,hat.congr (hFw _ hf),ih .ro x _ _ _ hr (Sub.refl _) (λk hk=>hk.elim)⟩
 |ptr t ih=>
  intro m x cs S S' h hs hw
  cases x with
  |none=>cases m <;> exact h
  |some x=>
  cases m with
  |own m=>
   obtain⟨b,c,e,rfl,hb,hS,S1,hr,s1,n1⟩:=h
   exact⟨b,c,e,rfl,(hw b hS).trans hb,hs _ hS,S1,ih m x _ _ _ hr (Sub.refl _) (λk hk=>hw k (s1 k hk)),s1.trans hs,n1⟩
  |ro=>
   obtain⟨ad,rfl,hf,ds,hat,hr⟩:=h
   exact⟨ad,rfl,hF _ hf,ds,hat.congr (hFw _ hf),ih .ro x _ _ _ hr (Sub.refl _) (λk hk=>hk.elim)⟩
  |pr _ _=>
   obtain⟨ad,rfl,hf,ds,hat,hr⟩:=h
   exact⟨ad,rfl,hF _ hf,ds,hat.congr (hFw _ hf),ih .ro x _ _ _ hr (Sub.refl _) (λk hk=>hk.elim)⟩
theorem zy{F:af}{w:World}{t:Ty}{m:Md}{x:t.T}{cs:List Value}{S S':af}(h:Rep F w t m x cs S)(hs:Sub S S'):Rep F w t m x cs S':=
 aU (Sub.refl F) (λ_ _=>rfl) t m x cs S S' h hs (λ_ _=>rfl)
theorem kS{F F':af}{w w':World}:∀ (t:Ty),t.flat=true->∀ (m m':Md) (x:t.T) (cs:List Value) (S S':af),Rep F w t m x cs S->Rep F' w' t m' x cs S':=by
 intro t
 induction t with
 |int k=>intro _ m m' x cs S S' h;exact h
 |bool=>intro _ m m' x cs S S' h;exact h
 |str=>intro _ m m' x cs S S' h;exact h
 |unit=>intro _ m m' x cs S S' h;exact h
 |jI=>intro _ m m' x cs S S' h;exact h
 |fn f=>intro _ m m' x cs S S' h;exact h
 |chan=>intro hf;simp[Ty.flat]at hf
 |map k v _ _=>intro hf;simp[Ty.flat]at hf
 |nl t _=>intro hf;simp[Ty.flat]at hf
 |pair a b iha ihb=>
  rintro hf m m' x cs S S' ⟨c1,c2,S1,S2,rfl,h1,h2,s1,s2,d⟩
  simp[Ty.flat]at hf
  exact⟨c1,c2,af.none,af.none,rfl,iha hf.1 _ _ _ _ _ _ h1,ihb hf.2 _ _ _ _ _ _ h2,λ_ h=>h.elim,λ_ h=>h.elim,λ_ h=>h.elim⟩
 |st t ih=>intro hf m m' x cs S S' h;exact ih hf m m' x cs S S' h
 |arr n t ih=>
  rintro hf m m' x cs S S' ⟨hn,h⟩
  refine⟨hn,?_⟩
  clear hn
  induction x generalizing cs S S' with
  |nil=>exact h
  |cons y ys ihx=>
   obtain⟨c1,c2,S1,S2,rfl,h1,h2,s1,s2,d⟩:=h
   exact⟨c1,c2,af.none,af.none,rfl,ih hf _ _ _ _ _ _ h1,ihx _ _ _ h2,λ_ h=>h.elim,λ_ h=>h.elim,λ_ h=>h.elim⟩
 |sl t ih=>intro hf;simp[Ty.flat]at hf
 |box t ih=>intro hf;simp[Ty.flat]at hf
 |ptr t ih=>intro hf;simp[Ty.flat]at hf
 |hol t ih=>intro hf;simp[Ty.flat]at hf
 |may t ih=>intro hf;simp[Ty.flat]at hf
theorem jL{F F':af}{w:World}(hF:Sub F F'):∀ (t:Ty) (m:Md) (x:t.T) (cs:List Value) (S S':af),Rep F w t m x cs S->Sub S F'->Rep F' w t .ro x cs S':=by
 intro t
 induction t with
 |int k=>intro m x cs S S' h _;exact h
 |bool=>intro m x cs S S' h _;exact h
 |str=>intro m x cs S S' h _;exact h
 |unit=>intro m x cs S S' h _;exact h
 |jI=>intro m x cs S S' h _;exact h
 |fn f=>intro m x cs S S' h _;exact h
 |nl t ih=>
  rintro m x cs S S' ⟨⟨a,cap,rfl,h1,h2,h3⟩,h4⟩ hs
  refine⟨⟨a,cap,rfl,h1,h2,λhp=>?_⟩,h4⟩
  obtain⟨ad,rfl,hf,ds,hat,hr⟩:=h3 hp
  exact⟨ad,rfl,hF _ hf,ds,hat,bm.imp (λy _ c T hT hr=>zy (ih .ro y c T T hr (λk hk=>(hT k hk).elim)) (Sub.refl _)) hr⟩
 |map k v ihk ihv=>
  intro m x cs S S' h hs
  have hk:∀ y u,RV (Rep F w k .ro) y u->RV (Rep F' w k .ro) y u:=λy u ⟨c,h1,h2⟩=>⟨c,ihk .ro y c _ _ h1 (λ_ h=>h.elim),h2⟩
  have hv:∀ y u,RV (Rep F w v .ro) y u->RV (Rep F' w v .ro) y u:=λy u ⟨c,h1,h2⟩=>⟨c,ihv .ro y c _ _ h1 (λ_ h=>h.elim),h2⟩
  have ro:tU F w (RV (Rep F w k .ro)) (RV (Rep F w v .ro)) x cs->tU F' w (RV (Rep F' w k .ro)) (RV (Rep F' w v .ro)) x cs:=by
   rintro(h|⟨b,es,rfl,hb,hf,hr⟩)
   ·exact .inl h
   ·exact .inr ⟨b,es,rfl,hb,hF b hf,hr.imp hk hv⟩
  cases m with
  |ro=>exact ro h
  |pr _ _=>exact ro h
  |own m=>
   obtain⟨b,es,rfl,hb,hS,hr⟩:=h
   exact .inr ⟨b,es,rfl,hb,hs b hS,hr.imp hk hv⟩
 |chan=>
  intro m x cs S S' h _
  cases m with
  |ro=>exact h
  |pr _ _=>exact h
  |own m=>obtain⟨b,buf,s,r,rfl,_⟩:=h;exact⟨_,rfl,rfl⟩
 |hol t ih=>
  intro m x cs S S' h _
  cases m with
  |ro=>exact h
  |pr _ _=>exact h
  |own m=>obtain⟨_,a,cap,rfl,_⟩:=h;exact⟨_,rfl,rfl⟩
 |may t ih=>
  intro m x cs S S' h hs
  cases x with
  |none=>exact h
  |some x=>exact⟨ih m x cs S S' h.1 hs,h.2⟩
 |pair a b iha ihb=>
  rintro m x cs S S' ⟨c1,c2,S1,S2,rfl,h1,h2,s1,s2,d⟩ hs
  exact⟨c1,c2,af.none,af.none,rfl,iha _ _ _ _ _ h1 (s1.trans hs),ihb _ _ _ _ _ h2 (s2.trans hs),λ_ h=>h.elim,λ_ h=>h.elim,λ_ h=>h.elim⟩
 |st t ih=>intro m x cs S S' h hs;exact ih m x cs S S' h hs
 |arr n t ih=>
  rintro m x cs S S' ⟨hn,h⟩ hs
  refine⟨hn,?_⟩
  clear hn
  induction x generalizing cs S S' with
  |nil=>exact h
  |cons y ys ihx=>
   obtain⟨c1,c2,S1,S2,rfl,h1,h2,s1,s2,d⟩:=h
   exact⟨c1,c2,af.none,af.none,rfl,ih _ _ _ _ _ h1 (s1.trans hs),ihx _ _ _ h2 (s2.trans hs),λ_ h=>h.elim,λ_ h=>h.elim,λ_ h=>h.elim⟩
 |sl t ih=>
  have row:∀ (m:Md) (x:List t.T) (cs:List Value) (S:af),bm (Rep F w t m) x cs S->Sub S F'->bm (Rep F' w t .ro) x cs af.none:=by
   intro m x
   induction x with
   |nil=>intro cs S h _;exact h
   |cons y ys ihx=>
    rintro cs S ⟨c1,c2,S1,S2,rfl,h1,h2,s1,s2,d⟩ hs
    exact⟨c1,c2,af.none,af.none,rfl,ih _ _ _ _ _ h1 (s1.trans hs),ihx _ _ h2 (s2.trans hs),λ_ h=>h.elim,λ_ h=>h.elim,λ_ h=>h.elim⟩
  intro m x cs S S' h hs
  cases m with
  |ro=>
   obtain⟨a,cap,rfl,h1,h2,h3⟩:=h
   refine⟨a,cap,rfl,h1,h2,λhp=>?_⟩
   obtain⟨ad,rfl,hf,ds,hat,hr⟩:=h3 hp
   exact⟨ad,rfl,hF _ hf,ds,hat,row _ _ _ _ hr (λ_ h=>h.elim)⟩
  |pr _ _=>
   obtain⟨a,cap,rfl,h1,h2,h3⟩:=h
   refine⟨a,cap,rfl,h1,h2,λhp=>?_⟩
   obtain⟨ad,rfl,hf,ds,hat,hr⟩:=h3 hp
   exact⟨ad,rfl,hF _ hf,ds,hat,row _ _ _ _ hr (λ_ h=>h.elim)⟩
  |own m=>
   obtain⟨a,cap,rfl,h1,h2,h3⟩:=h
   refine⟨a,cap,rfl,h1,h2,λhp=>?_⟩
   rcases h3 with rfl|⟨b,off,c,e,rfl,hb,hc,hS,S1,hr,s1,n1⟩
   ·omega
   ·refine⟨_,rfl,hs _ hS,_,?_,row _ _ _ _ hr (s1.trans hs)⟩
    intro j v hj
    rw[List.getElem?_take]at hj
    split at hj
    ·rw[List.getElem?_drop]at hj
     rw[cQ]
     simp[World.cell?,hb]
     simpa using hj
    ·cases hj
 |box t ih=>
  intro m x cs S S' h hs
  cases m with
  |ro=>
   obtain⟨ad,rfl,hf,ds,hat,hr⟩:=h
   exact⟨ad,rfl,hF _ hf,ds,hat,ih _ _ _ _ _ hr (λ_ h=>h.elim)⟩
  |pr _ _=>
   obtain⟨ad,rfl,hf,ds,hat,hr⟩:=h
   exact⟨ad,rfl,hF _ hf,ds,hat,ih _ _ _ _ _ hr (λ_ h=>h.elim)⟩
  |own m=>
   obtain⟨b,c,e,rfl,hb,hS,S1,hr,s1,n1⟩:=h
   refine⟨_,rfl,hs _ hS,c.toList,?_,ih _ _ _ _ _ hr (s1.trans hs)⟩
   intro j v hj
   rw[cQ]
   simp[World.cell?,hb]
   simpa using hj
 |ptr t ih=>
  intro m x cs S S' h hs
  cases x with
  |none=>cases m <;> exact h
  |some x=>
  cases m with
  |ro=>
   obtain⟨ad,rfl,hf,ds,hat,hr⟩:=h
   exact⟨ad,rfl,hF _ hf,ds,hat,ih _ _ _ _ _ hr (λ_ h=>h.elim)⟩
  |pr _ _=>
   obtain⟨ad,rfl,hf,ds,hat,hr⟩:=h
   exact⟨ad,rfl,hF _ hf,ds,hat,ih _ _ _ _ _ hr (λ_ h=>h.elim)⟩
  |own m=>
   obtain⟨b,c,e,rfl,hb,hS,S1,hr,s1,n1⟩:=h
   refine⟨_,rfl,hs _ hS,c.toList,?_,ih _ _ _ _ _ hr (s1.trans hs)⟩
   intro j v hj
   rw[cQ]
   simp[World.cell?,hb]
   simpa using hj
def closed:Ty->Md->Bool
 |.pair a b,m=>closed a m.fst&&closed b m.snd
 |.st t,m=>closed t m
 |.arr _ t,m=>closed t m.el
 |.sl t,.own e=>closed t e
 |.sl _,_=>false
 |.box t,.own e=>closed t e
 |.box _,_=>false
 |.ptr t,.own e=>closed t e
 |.ptr _,_=>false
 |.hol t,.own e=>closed t e
 |.may t,m=>closed t m
 |.map k v,.own _=>closed k .ro&&closed v .ro
 |.map _ _,_=>false
 |.nl _,_=>false
 |_,_=>true
theorem Ch{F F':af}{w:World}:∀ (t:Ty) (m:Md),closed t m=true->∀ (x:t.T) (cs:List Value) (S:af),Rep F w t m x cs S->Rep F' w t m x cs S:=by
 intro t
 induction t with
 |int k=>intro m _ x cs S h;exact h
 |bool=>intro m _ x cs S h;exact h
 |str=>intro m _ x cs S h;exact h
 |unit=>intro m _ x cs S h;exact h
 |jI=>intro m _ x cs S h;exact h
 |fn f=>intro m _ x cs S h;exact h
 |nl t ih=>intro m hc x cs S h;simp[closed]at hc
 |map k v ihk ihv=>
  intro m hc x cs S h
  cases m with
  |ro=>simp[closed]at hc
  |pr _ _=>simp[closed]at hc
  |own m=>
   simp only[closed,ag]at hc
   obtain⟨b,es,rfl,hb,hS,hr⟩:=h
   exact⟨b,es,rfl,hb,hS,hr.imp (λy u ⟨c,h1,h2⟩=>⟨c,ihk .ro hc.1 y c _ h1,h2⟩) (λy u ⟨c,h1,h2⟩=>⟨c,ihv .ro hc.2 y c _ h1,h2⟩)⟩
 |chan=>intro m _ x cs S h;cases m <;> exact h
 |hol t ih=>
  intro m hc x cs S h
  cases m with
  |ro=>exact h
  |pr _ _=>exact h
  |own m=>
   obtain⟨hj,a,cap,rfl,h1,h2,h3⟩:=h
   refine⟨hj,a,cap,rfl,h1,h2,h3.imp id ?_⟩
   rintro⟨b,off,c,e,rfl,hb,hc',hS,S1,hr,r⟩
   exact⟨b,off,c,e,rfl,hb,hc',hS,S1,bm.imp (λy _ c T _ hr=>by
    cases y with
    |none=>exact hr
    |some y=>exact⟨ih m hc y c T hr.1,hr.2⟩) hr,r⟩
 |may t ih=>
  intro m hc x cs S h
  cases x with
  |none=>exact h
  |some x=>exact⟨ih m hc x cs S h.1,h.2⟩
 |pair a b iha ihb=>
  rintro m hc x cs S ⟨c1,c2,S1,S2,rfl,h1,h2,r⟩
  simp[closed]at hc
  exact⟨c1,c2,S1,S2,rfl,iha _ hc.1 _ _ _ h1,ihb _ hc.2 _ _ _ h2,r⟩
 |st t ih=>intro m hc x cs S h;exact ih m hc x cs S h
 |arr n t ih=>
  rintro m hc x cs S ⟨hn,h⟩
  exact⟨hn,bm.imp (λy _ c T _ hr=>ih m.el hc y c T hr) h⟩
 |sl t ih=>
  intro m hc x cs S h
  cases m with
  |ro=>simp[closed]at hc
  |pr _ _=>simp[closed]at hc
  |own m=>
   obtain⟨a,cap,rfl,h1,h2,h3⟩:=h
   refine⟨a,cap,rfl,h1,h2,h3.imp id ?_⟩
   rintro⟨b,off,c,e,rfl,hb,hc',hS,S1,hr,r⟩
   exact⟨b,off,c,e,rfl,hb,hc',hS,S1,bm.imp (λy _ c T _ hr=>ih m hc y c T hr) hr,r⟩
 |box t ih=>
  intro m hc x cs S h
  cases m with
  |ro=>simp[closed]at hc
  |pr _ _=>simp[closed]at hc
  |own m=>
   obtain⟨b,c,e,rfl,hb,hS,S1,hr,r⟩:=h
   exact⟨b,c,e,rfl,hb,hS,S1,ih m hc _ _ _ hr,r⟩
 |ptr t ih=>
  intro m hc x cs S h
  cases x with
  |none=>cases m <;> exact h
  |some x=>
  cases m with
  |ro=>simp[closed]at hc
  |pr _ _=>simp[closed]at hc
  |own m=>
   obtain⟨b,c,e,rfl,hb,hS,S1,hr,r⟩:=h
   exact⟨b,c,e,rfl,hb,hS,S1,ih m hc _ _ _ hr,r⟩
structure V where
 t:Ty
 x:t.T
inductive Stp where
 |st|fst|snd
 |idx (i:Int)
 |ai (i:Int)
 |deref
def ft{R:Type}:(t:Ty)->t.T->List Stp->((u:Ty)->u.T->Option R)->Option R
 |t,x,[],K=>K t x
 |.st t,x,.st::π,K=>ft t x π K
 |.pair a _,x,.fst::π,K=>ft a x.1 π K
 |.pair _ b,x,.snd::π,K=>ft b x.2 π K
 |.sl t,x,.idx i::π,K=>if 0<=i then(match(x:List t.T)[i.toNat]? with|some y=>ft t y π K|none=>none)else none
 |.arr _ t,x,.ai i::π,K=>if 0<=i then(match(x:List t.T)[i.toNat]? with|some y=>ft t y π K|none=>none)else none
 |.box t,x,.deref::π,K=>ft t x π K
 |.ptr t,x,.deref::π,K=>match(x:Option t.T)with|some y=>ft t y π K|none=>none
 |_,_,_::_,_=>none
def iR{R:Type}:(t:Ty)->t.T->List Stp->(u:Ty)->u.T->(t.T->Option R)->Option R
 |t,_,[],u,y,K=>if h:u=t then K (h ▸ y)else none
 |.st t,x,.st::π,u,y,K=>iR t x π u y K
 |.pair a _,x,.fst::π,u,y,K=>iR a x.1 π u y λz=>K (z,x.2)
 |.pair _ b,x,.snd::π,u,y,K=>iR b x.2 π u y λz=>K (x.1,z)
 |.sl t,x,.idx i::π,u,y,K=>if 0<=i then(match(x:List t.T)[i.toNat]? with|some z=>iR t z π u y λz'=>K ((x:List t.T).set i.toNat z')|none=>none)else none
 |.arr _ t,x,.ai i::π,u,y,K=>if 0<=i then(match(x:List t.T)[i.toNat]? with|some z=>iR t z π u y λz'=>K ((x:List t.T).set i.toNat z')|none=>none)else none
 |.box t,x,.deref::π,u,y,K=>iR t x π u y K
 |.ptr t,x,.deref::π,u,y,K=>match(x:Option t.T)with|some z=>iR t z π u y λz'=>K (some z')|none=>none
 |_,_,_::_,_,_,_=>none
def atM:Ty->Md->List Stp->Md
 |_,m,[]=>m
 |.st t,m,.st::π=>atM t m π
 |.pair a _,m,.fst::π=>atM a m.fst π
 |.pair _ b,m,.snd::π=>atM b m.snd π
 |.sl t,m,.idx _::π=>atM t m.el π
 |.arr _ t,m,.ai _::π=>atM t m.el π
 |.box t,m,.deref::π=>atM t m.el π
 |.ptr t,m,.deref::π=>atM t m.el π
 |_,_,_::_=>.ro
def atT:Ty->List Stp->Ty
 |t,[]=>t
 |.st t,.st::π=>atT t π
 |.pair a _,.fst::π=>atT a π
 |.pair _ b,.snd::π=>atT b π
 |.sl t,.idx _::π=>atT t π
 |.arr _ t,.ai _::π=>atT t π
 |.box t,.deref::π=>atT t π
 |.ptr t,.deref::π=>atT t π
 |_,_::_=>.unit
def Md.eU:Md->Bool
 |.own _=>true
 |_=>false
def pK:Ty->Md->List Stp->Md->Md->Prop
 |_,_,[],m',r=>r=m'
 |.st t,m,.st::π,m',r=>pK t m π m' r
 |.pair a _,m,.fst::π,m',r=>∃ q,pK a m.fst π m' q/\((r=m/\q=m.fst)\/r=.pr q m.snd)
 |.pair _ b,m,.snd::π,m',r=>∃ q,pK b m.snd π m' q/\((r=m/\q=m.snd)\/r=.pr m.fst q)
 |.sl t,m,.idx _::π,m',r=>∃ e,m=.own e/\pK t e π m' e/\r=m
 |.arr _ t,m,.ai _::π,m',r=>pK t m.el π m' m.el/\r=m
 |.box t,m,.deref::π,m',r=>∃ e q,m=.own e/\pK t e π m' q/\r=.own q
 |.ptr t,m,.deref::π,m',r=>∃ e q,m=.own e/\pK t e π m' q/\r=.own q
 |_,_,_::_,_,_=>False
def gk:Ty->Md->List Stp->Md->Option Md
 |_,_,[],m'=>some m'
 |.st t,m,.st::π,m'=>gk t m π m'
 |.pair a _,m,.fst::π,m'=>match gk a m.fst π m' with
  |some q=>some (if q=m.fst then m else .pr q m.snd)
  |none=>none
 |.pair _ b,m,.snd::π,m'=>match gk b m.snd π m' with
  |some q=>some (if q=m.snd then m else .pr m.fst q)
  |none=>none
 |.sl t,m,.idx _::π,m'=>match m with
  |.own e=>match gk t e π m' with
   |some q=>if q=e then some m else none
   |none=>none
  |_=>none
 |.arr _ t,m,.ai _::π,m'=>match gk t m.el π m' with
  |some q=>if q=m.el then some m else none
  |none=>none
 |.box t,m,.deref::π,m'=>match m with
  |.own e=>match gk t e π m' with
   |some q=>some (.own q)
   |none=>none
  |_=>none
 |.ptr t,m,.deref::π,m'=>match m with
  |.own e=>match gk t e π m' with
   |some q=>some (.own q)
   |none=>none
  |_=>none
 |_,_,_::_,_=>none
def du:Ty->Md->List Stp->Bool
 |_,_,[]=>true
 |.st t,m,.st::π=>du t m π
 |.pair a _,m,.fst::π=>du a m.fst π
 |.pair _ b,m,.snd::π=>du b m.snd π
 |.sl t,m,.idx _::π=>m.eU&&du t m.el π
 |.arr _ t,m,.ai _::π=>du t m.el π
 |.box t,m,.deref::π=>m.eU&&du t m.el π
 |.ptr t,m,.deref::π=>m.eU&&du t m.el π
 |_,_,_::_=>false
def eP(w:World)(b o n:Nat):List Value:=
 match w.heap[b]? with
 |some (.cells c _ _)=>(c.toList.drop o).take n
 |_=>[]
def resolve(w:World):Ty->List Value->Option (Nat×Nat)->List Stp->Option (List Value×Option (Nat×Nat))
 |_,cs,s,[]=>some (cs,s)
 |.st t,cs,s,.st::π=>resolve w t cs s π
 |.pair a _,cs,s,.fst::π=>resolve w a (cs.take a.width) s π
 |.pair a b,cs,s,.snd::π=>resolve w b (cs.drop a.width) (s.map λp=>(p.1,p.2+a.width)) π
 |.sl t,cs,_,.idx i::π=>match cs with
  |[.slice (some ⟨b,off,none⟩) len _]=>if 0<=i/\i.toNat<len then resolve w t (eP w b (off+i.toNat*t.width) t.width) (some (b,off+i.toNat*t.width)) π else none
  |_=>none
 |.arr n t,cs,s,.ai i::π=>if 0<=i/\i.toNat<n then resolve w t ((cs.drop (i.toNat*t.width)).take t.width) (s.map λp=>(p.1,p.2+i.toNat*t.width)) π else none
 |.box t,cs,_,.deref::π=>match cs with
  |[.pointer (some ⟨b,0,none⟩)]=>resolve w t (eP w b 0 t.width) (some (b,0)) π
  |_=>none
 |.ptr t,cs,_,.deref::π=>match cs with
  |[.pointer (some ⟨b,0,none⟩)]=>resolve w t (eP w b 0 t.width) (some (b,0)) π
  |_=>none
 |_,_,_,_::_=>none
def get?(t:Ty)(x:t.T)(π:List Stp):Option V:=ft t x π λu y=>some ⟨u,y⟩
def jM(t:Ty)(x:t.T)(π:List Stp)(u:Ty)(y:u.T):Option t.T:=iR t x π u y some
theorem gD:∀ (π:List Stp) {R:Type} (t:Ty) (x:t.T) (K:(u:Ty)->u.T->Option R),ft t x π K=(get? t x π).bind λv=>K v.t v.x:=by
 intro π
 induction π with
 |nil=>intro R t x K;cases t <;> rfl
 |cons s π ih=>
  intro R t x K
  unfold get?
  cases t <;> cases s <;> simp only[ft,oa] <;> first
   |rfl
   |exact ih _ _ K
   |(
    split
    ·split
     ·exact ih _ _ K
     ·rfl
    ·rfl)
   |(
    split
    ·exact ih _ _ K
    ·rfl)
theorem iJ:∀ (π:List Stp) {R:Type} (t:Ty) (x:t.T) (u:Ty) (y:u.T) (K:t.T->Option R),iR t x π u y K=(jM t x π u y).bind K:=by
 intro π
 induction π with
 |nil=>intro R t x u y K;unfold jM;cases t <;> (simp only[iR];split <;> rfl)
 |cons s π ih=>
  intro R t x u y K
  have up:∀ {β:Type} (a:Ty) (z:a.T) (f:a.T->β) (K:β->Option R),(iR a z π u y λw=>K (f w))=(iR a z π u y λw=>some (f w)).bind K:=by
   intro β a z f K
   rw[ih]
   grind
  unfold jM
  cases t <;> cases s <;> simp only[iR,oa]
  case st.st=>exact ih _ _ _ _ _
  case box.deref=>exact ih _ _ _ _ _
  case pair.fst=>exact up _ _ (λz=>(z,x.2)) K
  case pair.snd=>exact up _ _ (λz=>(x.1,z)) K
  case sl.idx i=>
   split
   ·cases hx:(x:List _)[i.toNat]? with
    |none=>rfl
    |some z=>exact up _ z (λz'=>(x:List _).set i.toNat z') K
   ·rfl
  case arr.ai i=>
   split
   ·cases hx:(x:List _)[i.toNat]? with
    |none=>rfl
    |some z=>exact up _ z (λz'=>(x:List _).set i.toNat z') K
   ·rfl
  case ptr.deref=>
   cases x with
   |none=>rfl
   |some z=>exact up _ z some K
section
variable {α:Type} {R:α->List Value->af->Prop} {sz:Nat}
theorem bm.focus(hw:∀ y c S,R y c S->c.length=sz):∀ {x:List α} {i:Nat} {y:α} {cs:List Value} {S:af},x[i]?=some y->bm R x cs S->
 ∃ c S1 pre post,R y c S1/\Sub S1 S/\cs=pre++c++post/\pre.length=i*sz/\
  ∀ (R':α->List Value->af->Prop) (y':α) (c':List Value) (Q:af),(∀ z c T,Sub T S->(∀ k,T k->¬S1 k)->R z c T->R' z c T)->R' y' c' Q->(∀ k,Q k->S k->S1 k)->
   bm R' (x.set i y') (pre++c'++post) (λk=>(S k/\¬S1 k)\/Q k):=by
 intro x
 induction x with
 |nil=>intro i y cs S hy;simp at hy
 |cons z zs ih=>
  rintro i y cs S hy ⟨c1,c2,S1,S2,rfl,h1,h2,s1,s2,d⟩
  cases i with
  |zero=>
   simp only[List.getElem?_cons_zero,bh]at hy
   subst hy
   refine⟨c1,S1,[],c2,h1,s1,by simp,by simp,λR' y' c' Q hR hy' hQ=>?_⟩
   refine⟨c',c2,Q,S2,by simp,hy',bm.imp (λz _ c T hT hr=>hR z c T (hT.trans s2) (λk hk hk1=>d k hk1 (hT k hk)) hr) h2,λk h=>.inr h,λk h=>.inl ⟨s2 k h,λh1=>d k h1 h⟩,λk a b=>d k (hQ k a (s2 k b)) b⟩
  |succ i=>
   simp only[List.getElem?_cons_succ]at hy
   obtain⟨c,T1,pre,post,hr,t1,rfl,hp,TE⟩:=ih hy h2
   refine⟨c,T1,c1++pre,post,hr,t1.trans s2,by simp,by rw[ak,hw _ _ _ h1,hp,gA,Nat.one_mul,Nat.add_comm],λR' y' c' Q hR hy' hQ=>?_⟩
   refine⟨c1,pre++c'++post,S1,λk=>(S2 k/\¬T1 k)\/Q k,by simp,hR _ _ _ s1 (λk a b=>d k a (t1 k b)) h1,TE R' y' c' Q (λz c T hT hn hr=>hR z c T (hT.trans s2) hn hr) hy' (λk a b=>hQ k a (s2 k b)),λk h=>.inl ⟨s1 k h,λh1=>d k h (t1 k h1)⟩,λk h=>h.imp (λh=>⟨s2 k h.1,h.2⟩) id,λk a b=>?_⟩
   exact b.elim (λb=>d k a b.1) (λb=>d k a (t1 k (hQ k b (s1 k a))))
end
def rq(w:World)(b o:Nat)(cs:List Value):Prop:=∃ (c:Array Value) (e:Mark c.size),w.heap[b]?=some (.cells c e.t (e.a,e.b))/\(∃ l r,c.toList=l++cs++r/\l.length=o)
def Upd(w w':World)(b o:Nat)(ds es:List Value):Prop:=∃ (c c':Array Value) (e:Mark c.size) (l r:List Value),w.heap[b]?=some (.cells c e.t (e.a,e.b))/\w'.heap[b]?=some (.cells c' e.t (e.a,e.b))/\c.toList=l++ds++r/\c'.toList=l++es++r/\l.length=o
def Foc(F:af)(w:World)(t:Ty)(m:Md)(x:t.T)(cs:List Value)(S:af)(s:Option (Nat×Nat))(π:List Stp)(u:Ty)(ds:List Value)(s':Option (Nat×Nat))(S':af):Prop:=
 (∃ pre post,cs=pre++ds++post/\s'=s.map (λp=>(p.1,p.2+pre.length))/\
  ∀ F' w' y' es R x' m' mr,pK t m π m' mr->Sub F F'->jM t x π u y'=some x'->Rep F' w' u m' y' es R->es.length=ds.length->(∀ k,R k->S k->S' k)->
   (∀ k,S k->¬S' k->w'.heap[k]?=w.heap[k]?)->(∀ k,F k->w'.heap[k]?=w.heap[k]?)->
   Rep F' w' t mr x' (pre++es++post) (λk=>(S k/\¬S' k)\/R k))\/
 (∃ b o,s'=some (b,o)/\S b/\¬S' b/\rq w b o ds/\
  ∀ F' w' y' es R x' m' mr,pK t m π m' mr->Sub F F'->jM t x π u y'=some x'->Rep F' w' u m' y' es R->es.length=ds.length->(∀ k,R k->S k->S' k)->
   (∀ k,S k->¬S' k->k≠b->w'.heap[k]?=w.heap[k]?)->Upd w w' b o ds es->(∀ k,F k->w'.heap[k]?=w.heap[k]?)->
   Rep F' w' t mr x' cs (λk=>(S k/\¬S' k)\/R k))
theorem eQ{a b:List Value}{n:Nat}(h:a.length=n):(a++b).take n=a:=by rw[<-h];simp
theorem ir{a b:List Value}{n:Nat}(h:a.length=n):(a++b).drop n=b:=by rw[<-h];simp
theorem fI{w:World}{b o:Nat}{cs:List Value}(h:rq w b o cs):eP w b o cs.length=cs:=by
 obtain⟨c,e,hb,l,r,hc,hl⟩:=h
 unfold eP
 simp_all
theorem Ci{c c' l ds r:List Value}{off n:Nat}{pre d post:List Value}(eR:(c.drop off).take n=pre++d++post)(hn:off+n<=c.length)(hc:c=l++ds++r)
 {eO dv es:List Value} (hd:d=eO++ds++dv) (hl:l.length=off+pre.length+eO.length) (hc':c'=l++es++r) (he:es.length=ds.length):
 (c'.drop off).take n=pre++(eO++es++dv)++post:=by
 subst hd
 have hlen:n=(pre++(eO++ds++dv)++post).length:=by grind
 have e1:c=c.take off++((pre++(eO++ds++dv)++post)++(c.drop off).drop n):=by grind [List.take_append_drop]
 have e2:c=(c.take off++pre++eO)++ds++(dv++post++(c.drop off).drop n):=by grind
 have ht:(c.take off).length=off:=by rw[aL];omega
 have hl2:l.length=(c.take off++pre++eO).length:=by simp only[ak,ht];omega
 have e3:l++(ds++r)=(c.take off++pre++eO)++(ds++(dv++post++(c.drop off).drop n)):=by
  rw[<-aT,<-hc,<-aT];exact e2
 obtain⟨k1,k2⟩:=kM e3 hl2
 have k3:=qT k2
 rw[hc',k1,k3]
 rw[aT,aT,aT (c.take off),kF (by omega)]
 rw[show(c.take off).drop off=[]from dX (by omega),cm]
 rw[show pre++(eO++(es++(dv++post++(c.drop off).drop n)))=(pre++(eO++es++dv)++post)++(c.drop off).drop n by simp]
 have hn2:n=(pre++(eO++es++dv)++post).length:=by rw[hlen];simp only[ak];omega
 conv=>lhs;rw[hn2]
 rw[kG (aw _),dj]
theorem eV(t:Ty)(x:t.T):get? t x []=some ⟨t,x⟩:=by unfold get?;cases t <;> rfl
theorem Io{F:af}{w:World}{n:Nat}{t:Ty}{m:Md}{x:List t.T}{cs:List Value}{S:af}{s:Option (Nat×Nat)}{π:List Stp}{u:Ty}{y:u.T}{z:t.T}{i:Int}
 (ih:∀ (m:Md) (x:t.T) (cs:List Value) (S:af) (s:Option (Nat×Nat)),Rep F w t m x cs S->get? t x π=some ⟨u,y⟩->du t m π=true->∃ ds s' S',resolve w t cs s π=some (ds,s')/\Rep F w u (atM t m π) y ds S'/\Sub S' S/\Foc F w t m x cs S s π u ds s' S')
 (h0:0<=i) (hz:x[i.toNat]?=some z) (hg:get? t z π=some ⟨u,y⟩) (ho:du t m.el π=true) (hn:x.length=n) (h:bm (Rep F w t m.el) x cs S):
 ∃ ds s' S',resolve w (.arr n t) cs s (.ai i::π)=some (ds,s')/\Rep F w u (atM t m.el π) y ds S'/\Sub S' S/\Foc F w (.arr n t) m x cs S s (.ai i::π) u ds s' S':=by
 obtain⟨c,S1,pre,post,hr,s1,rfl,hp,lH⟩:=bm.focus (λy c S h=>aQ F w t m.el y c S h) hz h
 have hcl:=aQ F w t _ _ _ _ hr
 have hi:i.toNat<n:=by rw[<-hn];exact(List.getElem?_eq_some_iff.1 hz).1
 have hc:((pre++c++post).drop (i.toNat*t.width)).take t.width=c:=by rw[aT,ir hp,eQ hcl]
 obtain⟨ds,s',S',cf,bF,s2,fY⟩:=ih m.el z c S1 (s.map λp=>(p.1,p.2+i.toNat*t.width)) hr hg ho
 refine⟨ds,s',S',?_,bF,s2.trans s1,?_⟩
 ·simp_all [resolve]
 ·have db:∀ (y':u.T) (x':List t.T),jM (.arr n t) x (.ai i::π) u y'=some x'->∃ z',jM t z π u y'=some z'/\x'=x.set i.toNat z':=by
   intro y' x' hs
   unfold jM at hs
   simp only[iR]at hs
   rw[if_pos h0,hz]at hs
   simp only at hs
   rw[iJ]at hs
   obtain⟨z',h1,h2⟩:=b9.1 hs
   exact⟨z',h1,(dz h2).symm⟩
  rcases fY with⟨eO,dv,rfl,rfl,w2⟩|⟨b,o,rfl,hb,hnb,hl,w2⟩
  ·refine .inl ⟨pre++eO,dv++post,by simp,?_,?_⟩
   ·cases s with
    |none=>rfl
    |some p=>simp[hp,cX]
   ·intro F' w' y' es R x' m' mr hM hF hs hy he hR hS hFw
    obtain⟨z',hz',rfl⟩:=db _ _ hs
    obtain⟨hM,rfl⟩:=hM
    refine⟨by rw[fa];exact hn,?_⟩
    have:=lH (Rep F' w' t mr.el) z' (eO++es++dv) (λk=>(S1 k/\¬S' k)\/R k)
     (λq c T hT hn hr=>aU hF hFw t _ _ _ _ _ hr (Sub.refl _) (λk hk=>hS k (hT k hk) (λh'=>hn k hk (s2 k h'))))
     (w2 F' w' y' es R z' m' _ hM hF hz' hy he (λk a b=>hR k a (s1 k b)) (λk a b=>hS k (s1 k a) b) hFw)
     (λk a b=>a.elim (λa=>a.1) (λa=>s2 k (hR k a b)))
    have e:pre++eO++es++(dv++post)=pre++(eO++es++dv)++post:=by simp
    rw[e]
    refine this.mono (λk hk=>?_)
    rcases hk with⟨a,b⟩|(⟨a,b⟩|a)
    ·exact .inl ⟨a,λh'=>b (s2 k h')⟩
    ·exact .inl ⟨s1 k a,b⟩
    ·exact .inr a
  ·refine .inr ⟨b,o,rfl,s1 b hb,hnb,hl,?_⟩
   intro F' w' y' es R x' m' mr hM hF hs hy he hR hS hU hFw
   obtain⟨z',hz',rfl⟩:=db _ _ hs
   obtain⟨hM,rfl⟩:=hM
   refine⟨by rw[fa];exact hn,?_⟩
   have:=lH (Rep F' w' t mr.el) z' c (λk=>(S1 k/\¬S' k)\/R k)
    (λq c T hT hn hr=>aU hF hFw t _ _ _ _ _ hr (Sub.refl _) (λk hk=>hS k (hT k hk) (λh'=>hn k hk (s2 k h')) (λe=>hn k hk (e ▸ hb))))
    (w2 F' w' y' es R z' m' _ hM hF hz' hy he (λk a b=>hR k a (s1 k b)) (λk a b c=>hS k (s1 k a) b c) hU hFw)
    (λk a b=>a.elim (λa=>a.1) (λa=>s2 k (hR k a b)))
   refine this.mono (λk hk=>?_)
   rcases hk with⟨a,b⟩|(⟨a,b⟩|a)
   ·exact .inl ⟨a,λh'=>b (s2 k h')⟩
   ·exact .inl ⟨s1 k a,b⟩
   ·exact .inr a
theorem FP{F:af}{w:World}{t:Ty}{m:Md}{x:List t.T}{cs:List Value}{S:af}{s:Option (Nat×Nat)}{π:List Stp}{u:Ty}{y:u.T}{z:t.T}{i:Int}
 (ih:∀ (m:Md) (x:t.T) (cs:List Value) (S:af) (s:Option (Nat×Nat)),Rep F w t m x cs S->get? t x π=some ⟨u,y⟩->du t m π=true->∃ ds s' S',resolve w t cs s π=some (ds,s')/\Rep F w u (atM t m π) y ds S'/\Sub S' S/\Foc F w t m x cs S s π u ds s' S')
 (h0:0<=i) (hz:x[i.toNat]?=some z) (hg:get? t z π=some ⟨u,y⟩) (ho:du t m π=true) (h:DY w t.width (Rep F w t m) x cs S):
 ∃ ds s' S',resolve w (.sl t) cs s (.idx i::π)=some (ds,s')/\Rep F w u (atM t m π) y ds S'/\Sub S' S/\Foc F w (.sl t) (.own m) x cs S s (.idx i::π) u ds s' S':=by
 obtain⟨a,cap,rfl,h1,h2,h3⟩:=h
 have hi:i.toNat<x.length:=(List.getElem?_eq_some_iff.1 hz).1
 rcases h3 with rfl|⟨b,off,c,e,rfl,hb,hc,hS,S1,hr,s1,n1⟩
 ·omega
 have hw:=λy c S (h:Rep F w t m y c S)=>aQ F w t m y c S h
 obtain⟨d,T,pre,post,hd,t1,eR,hp,lH⟩:=bm.focus hw hz hr
 have hdl:=hw _ _ _ hd
 have hrl:=bm.len hw hr
 have hcl:off+x.length*t.width<=c.toList.length:=by grind
 have fu:rq w b (off+i.toNat*t.width) d:=by
  refine⟨c,e.any,hb,c.toList.take off++pre,post++(c.toList.drop off).drop (x.length*t.width),?_,?_⟩
  ·rw[show c.toList.take off++pre++d++(post++(c.toList.drop off).drop (x.length*t.width))=c.toList.take off++((pre++d++post)++(c.toList.drop off).drop (x.length*t.width)) by simp]
   rw[<-eR,fC,fC]
  ·rw[ak,aL,hp];omega
 obtain⟨ds,s',S',cf,bF,s2,fY⟩:=ih m z d T (some (b,off+i.toNat*t.width)) hd hg ho
 refine⟨ds,s',S',?_,bF,(s2.trans t1).trans s1,?_⟩
 ·simp only[resolve]
  rw[if_pos ⟨h0,hi⟩]
  have:=fI fu
  rw[hdl]at this
  rw[this]
  exact cf
 ·have nb:¬S' b:=λh'=>n1 (t1 b (s2 b h'))
  have db:∀ (y':u.T) (x':List t.T),jM (.sl t) x (.idx i::π) u y'=some x'->∃ z',jM t z π u y'=some z'/\x'=x.set i.toNat z':=by
   intro y' x' hs
   unfold jM at hs
   simp only[iR]at hs
   rw[if_pos h0,hz]at hs
   simp only at hs
   rw[iJ]at hs
   obtain⟨z',h1,h2⟩:=b9.1 hs
   exact⟨z',h1,(dz h2).symm⟩
  rcases fY with⟨eO,dv,rfl,rfl,w2⟩|⟨b2,o2,rfl,hb2,ru,hl2,w2⟩
  ·refine .inr ⟨b,off+i.toNat*t.width+eO.length,rfl,hS,nb,?_,?_⟩
   ·obtain⟨c0,e0,hb0,l,r,hc0,hl⟩:=fu
    exact⟨c0,e0,hb0,l++eO,dv++r,by rw[hc0];simp,by rw[ak,hl]⟩
   ·intro F' w' y' es R x' m' mr hM hF hs hy he hR hk hU hFw
    obtain⟨z',hz',rfl⟩:=db _ _ hs
    obtain⟨e',hme,hM,rfl⟩:=hM
    injection hme with hme
    subst hme
    obtain⟨c1,c',e1,l,r,hb1,hb',hc1,hc',hl⟩:=hU
    obtain⟨hcc,q2,q3,q4⟩:c1=c/\e1.t=e.t/\e1.a=e.a/\e1.b=e.b:=by rw[hb]at hb1;injection hb1 with hb1;injection hb1 with q1 q2 q3;injection q3 with q3 q4;exact⟨q1.symm,q2.symm,q3.symm,q4.symm⟩
    subst hcc
    have hsz:c'.size=c1.size:=by
     rw[<-bg,<-bg,hc1,hc'];simp[he]
    refine⟨some ⟨b,off,none⟩,cap,by rw[fa],by rw[fa];exact h1,h2,.inr ⟨b,off,c',e.to (il hsz),rfl,by rw[hb',q2,q3,q4];rfl,by rw[hsz];exact hc,.inl ⟨hS,nb⟩,?_⟩⟩
    have D1:=Ci eR hcl hc1 rfl (by rw[hp];exact hl) hc' he
    have:=lH (Rep F' w' t m) z' (eO++es++dv) (λk=>(T k/\¬S' k)\/R k)
     (λq c T' hT hn hr=>aU hF hFw t _ _ _ _ _ hr (Sub.refl _) (λk hk'=>hk k (s1 k (hT k hk')) (λh'=>hn k hk' (s2 k h')) (λe=>n1 (e ▸ hT k hk'))))
     (w2 F' w' y' es R z' m' _ hM hF hz' hy he (λk a b=>hR k a (s1 k (t1 k b))) (λk a b'=>hk k (s1 k (t1 k a)) b' (λe=>n1 (t1 _ (e ▸ a)))) hFw)
     (λk a b=>a.elim (λa=>a.1) (λa=>s2 k (hR k a (s1 k b))))
    refine⟨_,by rw[fa,D1];exact this,λk hk=>?_,?_⟩
    ·rcases hk with⟨a,b⟩|(⟨a,b⟩|a)
     ·exact .inl ⟨s1 k a,λh'=>b (s2 k h')⟩
     ·exact .inl ⟨s1 k (t1 k a),b⟩
     ·exact .inr a
    ·rintro(⟨a,_⟩|(⟨a,_⟩|a))
     ·exact n1 a
     ·exact n1 (t1 b a)
     ·exact nb (hR b a hS)
  ·refine .inr ⟨b2,o2,rfl,s1 _ (t1 _ hb2),ru,hl2,?_⟩
   intro F' w' y' es R x' m' mr hM hF hs hy he hR hk hU hFw
   obtain⟨z',hz',rfl⟩:=db _ _ hs
   obtain⟨e',hme,hM,rfl⟩:=hM
   injection hme with hme
   subst hme
   have hne:b≠b2:=λe=>n1 (t1 b (e ▸ hb2))
   refine⟨some ⟨b,off,none⟩,cap,by rw[fa],by rw[fa];exact h1,h2,.inr ⟨b,off,c,e,rfl,(hk b hS nb hne).trans hb,hc,.inl ⟨hS,nb⟩,?_⟩⟩
   have:=lH (Rep F' w' t m) z' d (λk=>(T k/\¬S' k)\/R k)
    (λq c T' hT hn hr=>aU hF hFw t _ _ _ _ _ hr (Sub.refl _) (λk hk'=>hk k (s1 k (hT k hk')) (λh'=>hn k hk' (s2 k h')) (λe=>hn k hk' (e ▸ hb2))))
    (w2 F' w' y' es R z' m' _ hM hF hz' hy he (λk a b=>hR k a (s1 k (t1 k b))) (λk a b c=>hk k (s1 k (t1 k a)) b c) hU hFw)
    (λk a b=>a.elim (λa=>a.1) (λa=>s2 k (hR k a (s1 k b))))
   refine⟨_,by rw[fa,eR];exact this,λk hk=>?_,?_⟩
   ·rcases hk with⟨a,b⟩|(⟨a,b⟩|a)
    ·exact .inl ⟨s1 k a,λh'=>b (s2 k h')⟩
    ·exact .inl ⟨s1 k (t1 k a),b⟩
    ·exact .inr a
   ·rintro(⟨a,_⟩|(⟨a,_⟩|a))
    ·exact n1 a
    ·exact n1 (t1 b a)
    ·exact nb (hR b a hS)
theorem wB{F:af}{w:World}{t:Ty}{m:Md}{z:t.T}{cs:List Value}{S:af}{π:List Stp}{u:Ty}{y:u.T}
 (ih:∀ (m:Md) (x:t.T) (cs:List Value) (S:af) (s:Option (Nat×Nat)),Rep F w t m x cs S->get? t x π=some ⟨u,y⟩->du t m π=true->∃ ds s' S',resolve w t cs s π=some (ds,s')/\Rep F w u (atM t m π) y ds S'/\Sub S' S/\Foc F w t m x cs S s π u ds s' S')
 (hg:get? t z π=some ⟨u,y⟩) (ho:du t m π=true) (h:xE w (Rep F w t m) z cs S):
 ∃ p ds s' S',cs=[.pointer (some ⟨p,0,none⟩)]/\resolve w t (eP w p 0 t.width) (some (p,0)) π=some (ds,s')/\Rep F w u (atM t m π) y ds S'/\Sub S' S/\
  ∃ b o,s'=some (b,o)/\S b/\¬S' b/\rq w b o ds/\
 ∀ F' w' y' es R z' m' mr,pK t m π m' mr->Sub F F'->jM t z π u y'=some z'->Rep F' w' u m' y' es R->es.length=ds.length->(∀ k,R k->S k->S' k)->
  (∀ k,S k->¬S' k->k≠b->w'.heap[k]?=w.heap[k]?)->Upd w w' b o ds es->(∀ k,F k->w'.heap[k]?=w.heap[k]?)->
  xE w' (Rep F' w' t mr) z' cs (λk=>(S k/\¬S' k)\/R k):=by
 obtain⟨p,c,e,rfl,hb,hS,S1,hr,s1,n1⟩:=h
 have hcl:=aQ F w t m z _ _ hr
 have fu:rq w p 0 c.toList:=⟨c,e,hb,[],[],by simp,rfl⟩
 obtain⟨ds,s',S',cf,bF,s2,fY⟩:=ih m z c.toList S1 (some (p,0)) hr hg ho
 have hcc:=fI fu
 rw[hcl]at hcc
 have np:¬S' p:=λh'=>n1 (s2 p h')
 refine⟨p,ds,s',S',rfl,by rw[hcc];exact cf,bF,s2.trans s1,?_⟩
 rcases fY with⟨eO,dv,hc2,rfl,w2⟩|⟨b2,o2,rfl,hb2,ru,hl2,w2⟩
 ·refine⟨p,0+eO.length,rfl,hS,np,⟨c,e,hb,eO,dv,hc2,by simp⟩,?_⟩
  intro F' w' y' es R z' m' mr hM hF hs hy he hR hk hU hFw
  obtain⟨c1,c',e1,l,r,hb1,hb',hc1,hc',hl⟩:=hU
  have hcc:c1=c:=by rw[hb]at hb1;injection hb1 with hb1;injection hb1 with hb1 _ _;exact hb1.symm
  subst hcc
  have hsz:c'.size=c1.size:=by
   rw[<-bg,<-bg,hc1,hc'];simp[he]
  refine⟨p,c',e1.to (il hsz),rfl,hb',.inl ⟨hS,np⟩,λk=>(S1 k/\¬S' k)\/R k,?_,λk hk=>hk.imp (λh=>⟨s1 k h.1,h.2⟩) id,?_⟩
  ·have:=w2 F' w' y' es R z' m' mr hM hF hs hy he (λk a b=>hR k a (s1 k b)) (λk a b=>hk k (s1 k a) b (λe=>n1 (e ▸ a))) hFw
   have e3:l++(ds++r)=eO++(ds++dv):=by rw[<-aT,<-hc1,<-aT];exact hc2
   obtain⟨k1,k2⟩:=kM e3 (by omega)
   have k3:=qT k2
   rw[hc',k1,k3]
   exact this
  ·rintro(⟨a,_⟩|a)
   ·exact n1 a
   ·exact np (hR p a hS)
 ·refine⟨b2,o2,rfl,s1 _ hb2,ru,hl2,?_⟩
  intro F' w' y' es R z' m' mr hM hF hs hy he hR hk hU hFw
  have hne:p≠b2:=λe=>n1 (e ▸ hb2)
  refine⟨p,c,e,rfl,(hk p hS np hne).trans hb,.inl ⟨hS,np⟩,λk=>(S1 k/\¬S' k)\/R k,?_,λk hk=>hk.imp (λh=>⟨s1 k h.1,h.2⟩) id,?_⟩
  ·exact w2 F' w' y' es R z' m' mr hM hF hs hy he (λk a b=>hR k a (s1 k b)) (λk a b c=>hk k (s1 k a) b c) hU hFw
  ·rintro(⟨a,_⟩|a)
   ·exact n1 a
   ·exact np (hR p a hS)
theorem iK{t:Ty}{x:t.T}{π:List Stp}{u:Ty}{y:u.T}{β:Type}{f:t.T->β}{r:β}(h:iR t x π u y (λz=>some (f z))=some r):∃ z,jM t x π u y=some z/\r=f z:=by
 rw[iJ]at h
 obtain⟨z,h1,h2⟩:=b9.1 h
 simp_all
theorem focus(F:af)(w:World):∀ (π:List Stp) (t:Ty) (m:Md) (x:t.T) (cs:List Value) (S:af) (s:Option (Nat×Nat)) (u:Ty) (y:u.T),
 Rep F w t m x cs S->get? t x π=some ⟨u,y⟩->du t m π=true->
 ∃ ds s' S',resolve w t cs s π=some (ds,s')/\Rep F w u (atM t m π) y ds S'/\Sub S' S/\Foc F w t m x cs S s π u ds s' S':=by
 intro π
 induction π with
 |nil=>
  intro t m x cs S s u y h hg _
  rw[eV]at hg
  injection hg with hg
  injection hg with h1 h2
  subst h1
  cases h2
  refine⟨cs,s,S,?_,?_,Sub.refl _,.inl ⟨[],[],by simp,?_,?_⟩⟩
  ·cases t <;> rfl
  ·cases t <;> exact h
  ·cases s <;> rfl
  ·intro F' w' y' es R x' m' mr hM _ hs hy _ _ _ _
   have hx:x'=y':=by
    unfold jM at hs
    cases t <;> (simp only[iR]at hs;first|exact(dz ((dif_pos trivial).symm.trans hs)).symm|(rw[dif_pos trivial]at hs;done))
   subst hx
   have hm:mr=m':=by cases t <;> exact hM
   subst hm
   simp only[cm,bV]
   exact zy hy (λk h=>Or.inr h)
 |cons p0 π ih=>
  intro t m x cs S s u y h hg ho
  unfold get? at hg
  cases t <;> cases p0 <;> simp only[ft,reduceCtorEq]at hg
  case st.st t=>
   simp only[du]at ho
   obtain⟨ds,s',S',h1,h2,h3,h4⟩:=ih t m x cs S s u y h hg ho
   exact⟨ds,s',S',h1,h2,h3,h4⟩
  case pair.fst a b=>
   obtain⟨c1,c2,S1,S2,rfl,h1,h2,s1,s2,d⟩:=h
   simp only[du]at ho
   have hcl:=aQ _ _ _ _ _ _ _ h1
   obtain⟨ds,s',S',cf,bF,s3,fY⟩:=ih a m.fst x.1 c1 S1 s u y h1 hg ho
   refine⟨ds,s',S',?_,bF,s3.trans s1,?_⟩
   ·simp only[resolve];rw[eQ hcl];exact cf
   ·rcases fY with⟨eO,dv,rfl,rfl,w2⟩|⟨b2,o2,rfl,hb2,ru,hl2,w2⟩
    ·refine .inl ⟨eO,dv++c2,by simp,rfl,?_⟩
     intro F' w' y' es R x' m' mr hM hF hs hy he hR hS hFw
     obtain⟨q,hM,hq⟩:=hM
     obtain⟨z,hz,rfl⟩:=iK (f:=λz=>(z,x.2)) hs
     have e1:mr.fst=q/\mr.snd=m.snd:=by rcases hq with⟨rfl,rfl⟩|rfl <;> exact⟨rfl,rfl⟩
     refine⟨eO++es++dv,c2,λk=>(S1 k/\¬S' k)\/R k,S2,by simp,?_,?_,?_,?_,?_⟩
     ·rw[e1.1];exact w2 F' w' y' es R z m' q hM hF hz hy he (λk a b=>hR k a (s1 k b)) (λk a b=>hS k (s1 k a) b) hFw
     ·rw[e1.2];exact aU hF hFw _ _ _ _ _ _ h2 (Sub.refl _) (λk hk=>hS k (s2 k hk) (λh'=>d k (s3 k h') hk))
     ·exact λk hk=>hk.imp (λh=>⟨s1 k h.1,h.2⟩) id
     ·exact λk hk=>.inl ⟨s2 k hk,λh'=>d k (s3 k h') hk⟩
     ·exact λk a b=>a.elim (λa=>d k a.1 b) (λa=>d k (s3 k (hR k a (s2 k b))) b)
    ·refine .inr ⟨b2,o2,rfl,s1 _ hb2,ru,hl2,?_⟩
     intro F' w' y' es R x' m' mr hM hF hs hy he hR hS hU hFw
     obtain⟨q,hM,hq⟩:=hM
     obtain⟨z,hz,rfl⟩:=iK (f:=λz=>(z,x.2)) hs
     have e1:mr.fst=q/\mr.snd=m.snd:=by rcases hq with⟨rfl,rfl⟩|rfl <;> exact⟨rfl,rfl⟩
     refine⟨c1,c2,λk=>(S1 k/\¬S' k)\/R k,S2,rfl,?_,?_,?_,?_,?_⟩
     ·rw[e1.1];exact w2 F' w' y' es R z m' q hM hF hz hy he (λk a b=>hR k a (s1 k b)) (λk a b c=>hS k (s1 k a) b c) hU hFw
     ·rw[e1.2];exact aU hF hFw _ _ _ _ _ _ h2 (Sub.refl _) (λk hk=>hS k (s2 k hk) (λh'=>d k (s3 k h') hk) (λe=>d k (e ▸ hb2) hk))
     ·exact λk hk=>hk.imp (λh=>⟨s1 k h.1,h.2⟩) id
     ·exact λk hk=>.inl ⟨s2 k hk,λh'=>d k (s3 k h') hk⟩
     ·exact λk a b=>a.elim (λa=>d k a.1 b) (λa=>d k (s3 k (hR k a (s2 k b))) b)
  case pair.snd a b=>
   obtain⟨c1,c2,S1,S2,rfl,h1,h2,s1,s2,d⟩:=h
   simp only[du]at ho
   have hcl:=aQ _ _ _ _ _ _ _ h1
   obtain⟨ds,s',S',cf,bF,s3,fY⟩:=ih b m.snd x.2 c2 S2 (s.map λp=>(p.1,p.2+a.width)) u y h2 hg ho
   refine⟨ds,s',S',?_,bF,s3.trans s2,?_⟩
   ·simp only[resolve];rw[ir hcl];exact cf
   ·rcases fY with⟨eO,dv,rfl,rfl,w2⟩|⟨b2,o2,rfl,hb2,ru,hl2,w2⟩
    ·refine .inl ⟨c1++eO,dv,by simp,?_,?_⟩
     ·cases s with
      |none=>rfl
      |some p=>simp[hcl,cX]
     intro F' w' y' es R x' m' mr hM hF hs hy he hR hS hFw
     obtain⟨q,hM,hq⟩:=hM
     obtain⟨z,hz,rfl⟩:=iK (f:=λz=>(x.1,z)) hs
     have e1:mr.fst=m.fst/\mr.snd=q:=by rcases hq with⟨rfl,rfl⟩|rfl <;> exact⟨rfl,rfl⟩
     refine⟨c1,eO++es++dv,S1,λk=>(S2 k/\¬S' k)\/R k,by simp,?_,?_,?_,?_,?_⟩
     ·rw[e1.1];exact aU hF hFw _ _ _ _ _ _ h1 (Sub.refl _) (λk hk=>hS k (s1 k hk) (λh'=>d k hk (s3 k h')))
     ·rw[e1.2];exact w2 F' w' y' es R z m' q hM hF hz hy he (λk a b=>hR k a (s2 k b)) (λk a b=>hS k (s2 k a) b) hFw
     ·exact λk hk=>.inl ⟨s1 k hk,λh'=>d k hk (s3 k h')⟩
     ·exact λk hk=>hk.imp (λh=>⟨s2 k h.1,h.2⟩) id
     ·exact λk a b=>b.elim (λb=>d k a b.1) (λb=>d k a (s3 k (hR k b (s1 k a))))
    ·refine .inr ⟨b2,o2,rfl,s2 _ hb2,ru,hl2,?_⟩
     intro F' w' y' es R x' m' mr hM hF hs hy he hR hS hU hFw
     obtain⟨q,hM,hq⟩:=hM
     obtain⟨z,hz,rfl⟩:=iK (f:=λz=>(x.1,z)) hs
     have e1:mr.fst=m.fst/\mr.snd=q:=by rcases hq with⟨rfl,rfl⟩|rfl <;> exact⟨rfl,rfl⟩
     refine⟨c1,c2,S1,λk=>(S2 k/\¬S' k)\/R k,rfl,?_,?_,?_,?_,?_⟩
     ·rw[e1.1];exact aU hF hFw _ _ _ _ _ _ h1 (Sub.refl _) (λk hk=>hS k (s1 k hk) (λh'=>d k hk (s3 k h')) (λe=>d k hk (e ▸ hb2)))
     ·rw[e1.2];exact w2 F' w' y' es R z m' q hM hF hz hy he (λk a b=>hR k a (s2 k b)) (λk a b c=>hS k (s2 k a) b c) hU hFw
     ·exact λk hk=>.inl ⟨s1 k hk,λh'=>d k hk (s3 k h')⟩
     ·exact λk hk=>hk.imp (λh=>⟨s2 k h.1,h.2⟩) id
     ·exact λk a b=>b.elim (λb=>d k a b.1) (λb=>d k a (s3 k (hR k b (s1 k a))))
  case sl.idx t i=>
   split at hg
   ·rename_i h0
    cases hz:(x:List t.T)[i.toNat]? with
    |none=>rw[hz]at hg;simp at hg
    |some z=>
     rw[hz]at hg
     simp only[du,ag]at ho
     cases m with
     |ro=>simp[Md.eU]at ho
     |pr _ _=>simp[Md.eU]at ho
     |own m=>exact FP (λm x cs S s h1 h2 h3=>ih t m x cs S s u y h1 h2 h3) h0 hz hg ho.2 h
   ·cases hg
  case arr.ai n t i=>
   split at hg
   ·rename_i h0
    cases hz:(x:List t.T)[i.toNat]? with
    |none=>rw[hz]at hg;simp at hg
    |some z=>
     rw[hz]at hg
     simp only[du]at ho
     exact Io (λm x cs S s h1 h2 h3=>ih t m x cs S s u y h1 h2 h3) h0 hz hg ho h.1 h.2
   ·cases hg
  case box.deref t=>
   simp only[du,ag]at ho
   cases m with
   |ro=>simp[Md.eU]at ho
   |pr _ _=>simp[Md.eU]at ho
   |own m=>
    obtain⟨p,ds,s',S',rfl,cf,bF,s1,b,o,h1,h2,h3,h4,h5⟩:=wB (λm x cs S s h1 h2 h3=>ih t m x cs S s u y h1 h2 h3) hg ho.2 h
    refine⟨ds,s',S',by simp only[resolve];exact cf,bF,s1,.inr ⟨b,o,h1,h2,h3,h4,?_⟩⟩
    intro F' w' y' es R x' m' mr hM hF hs hy he hR hS hU hFw
    obtain⟨e',q,hme,hM,rfl⟩:=hM
    injection hme with hme
    subst hme
    exact h5 F' w' y' es R x' m' q hM hF hs hy he hR hS hU hFw
  case ptr.deref t=>
   simp only[du,ag]at ho
   cases x with
   |none=>simp at hg
   |some z=>
   cases m with
   |ro=>simp[Md.eU]at ho
   |pr _ _=>simp[Md.eU]at ho
   |own m=>
    obtain⟨p,ds,s',S',rfl,cf,bF,s1,b,o,h1,h2,h3,h4,h5⟩:=wB (λm x cs S s h1 h2 h3=>ih t m x cs S s u y h1 h2 h3) hg ho.2 h
    refine⟨ds,s',S',by simp only[resolve];exact cf,bF,s1,.inr ⟨b,o,h1,h2,h3,h4,?_⟩⟩
    intro F' w' y' es R x' m' mr hM hF hs hy he hR hS hU hFw
    obtain⟨e',q,hme,hM,rfl⟩:=hM
    injection hme with hme
    subst hme
    obtain⟨z',hz',rfl⟩:=iK (f:=λz=>some z) hs
    exact h5 F' w' y' es R z' m' q hM hF hz' hy he hR hS hU hFw
inductive TK where
 |int (k:IntKind)|bool|str
 |slice (e:TypeId)|array (n:Nat) (e:TypeId)
 |struct (fs:List (TypeId×Nat))
 |pointer (e:TypeId)
 |chan (e:TypeId)
 |map (k e:TypeId)
 |other
structure TD where
 kd:TK
 bytes:Nat
 ty:Ty
 zero:List Value
def TK.agg:TK->Bool
 |.struct _|.array _ _=>true
 |_=>false
structure TOk(P:Program)(t:TypeId)(d:TD):Prop where
 vS:∃ i z,P.info? t=some i/\i.size=d.ty.width/\i.bytes=d.bytes/\i.zero=some z/\z.cells.toList=d.zero
 desc:match d.kd with
  |.int k=>P.underlying t=some (.int k)/\d.ty=.int k
  |.bool=>P.underlying t=some .bool/\d.ty=.bool
  |.str=>P.underlying t=some .string/\d.ty=.str
  |.slice e=>P.underlying t=some (.slice e)
  |.array n e=>P.underlying t=some (.array n e)
  |.struct fs=>∃ f:Array Field,P.underlying t=some (.struct f)/\f.toList.map (λx=>(x.type,x.offset))=fs
  |.pointer e=>P.underlying t=some (.pointer e)
  |.chan e=>∃ dir,P.underlying t=some (.chan dir e)
  |.map k e=>P.underlying t=some (.map k e)
  |.other=>∃ q,P.underlying t=some q/\(∀ fs,q≠.struct fs)/\(∀ n e,q≠.array n e)
 agg:d.ty.agg=d.kd.agg
 TF:d.zero.length=d.ty.width
 zi:∀ k,d.kd=.int k->∃ i,P.info? t=some i/\i.zero=some (.int k 0)
structure Lab where
 v:Nat
 t:Ty
 m:Md
 x:t.T
inductive ar where
 |val (t:Ty) (x:t.T)
 |cst (v:Value)
 |hdr (l v:Nat) (π:List Stp) (c:V)
 |adr (l v:Nat) (π:List Stp) (c:V)
 |kT (t:Ty) (x:t.T)
 |view (l:Nat) (te:Ty) (lo hi:Int)
inductive Ent where
 |one (e:ar)
 |tup (es:List ar)
 |clo (f:FuncId) (es:List ar)
structure St where
 E:Nat->Option Ent
 L:Nat->Option Lab
 U:Nat->Bool
def upd{α:Type}(f:Nat->Option α)(k:Nat)(v:Option α):Nat->Option α:=λj=>bif Nat.beq j k then v else f j
theorem aG{α:Type}(f:Nat->Option α)(k:Nat)(v:Option α):upd f k v k=v:=by simp[upd]
theorem aW{α:Type}(f:Nat->Option α){k j:Nat}(v:Option α)(h:j≠k):upd f k v j=f j:=by grind [upd,Nat.eq_of_beq_eq_true]
theorem fv{α:Type}{f:Nat->Option α}{k j:Nat}{v:Option α}{r:α}(h:upd f k v j=some r):(j=k/\v=some r)\/(j≠k/\f j=some r):=by grind [aG,aW]
def St.tW(σ:St)(d:Nat)(e:ar):St:={σ with E:=upd σ.E d (some (.one e))}
def St.TG(σ:St)(l:Nat)(b:Lab):St:={σ with L:=upd σ.L l (some b),U:=λj=>Nat.beq j l||σ.U j}
theorem VR.cells{t:Ty}{cs:List Value}{v:Value}(h:VR t cs v):v.cells.toList=cs:=by
 unfold VR at h
 split at h
 ·subst h;rfl
 ·obtain⟨rfl,h1⟩:=h
  cases v <;> first|rfl|(simp[Value.oneCell']at h1)
def bc:Ty->List Value->Option (Nat×Nat)->List Stp->Option (Nat×Nat)
 |_,_,s,[]=>s
 |.st t,cs,s,.st::π=>bc t cs s π
 |.pair a _,cs,s,.fst::π=>bc a (cs.take a.width) s π
 |.pair a b,cs,s,.snd::π=>bc b (cs.drop a.width) (s.map λp=>(p.1,p.2+a.width)) π
 |.sl t,cs,s,.idx i::π=>match s,cs with
  |none,[.slice (some ⟨b,off,none⟩) len _]=>if 0<=i/\i.toNat<len then bc t [] (some (b,off+i.toNat*t.width)) π else none
  |_,_=>none
 |.hol t,cs,s,.idx i::π=>match s,cs with
  |none,[.slice (some ⟨b,off,none⟩) len _]=>if 0<=i/\i.toNat<len then bc t [] (some (b,off+i.toNat*t.width)) π else none
  |_,_=>none
 |.arr n t,cs,s,.ai i::π=>if 0<=i/\i.toNat<n then bc t ((cs.drop (i.toNat*t.width)).take t.width) (s.map λp=>(p.1,p.2+i.toNat*t.width)) π else none
 |.box t,cs,s,.deref::π=>match s,cs with
  |none,[.pointer (some ⟨b,0,none⟩)]=>bc t [] (some (b,0)) π
  |_,_=>none
 |.ptr t,cs,s,.deref::π=>match s,cs with
  |none,[.pointer (some ⟨b,0,none⟩)]=>bc t [] (some (b,0)) π
  |_,_=>none
 |_,_,_,_::_=>none
def short:Nat->List Stp->Bool
 |_,[]=>true
 |n,.idx _::π=>match n with|0=>short 1 π|_=>false
 |n,.deref::π=>match n with|0=>short 1 π|_=>false
 |n,_::π=>short n π
def QD(cs:List Value)(sz:Nat)(lo hi:Int)(v:Value):Prop:=
 ∃ a len cap,cs=[.slice a len cap]/\0<=lo/\lo<=hi/\hi<=(len:Int)/\v=.slice (if cap=lo.toNat then a else a.map (·.add (lo.toNat*sz))) (hi.toNat-lo.toNat) (cap-lo.toNat)
def aF(F:af)(w:World)(L:Nat->Option Lab)(U:Nat->Bool)(cg:Nat->List Value):ar->Value->Prop
 |.val t x,v=>∃ cs,Rep F w t .ro x cs af.none/\VR t cs v
 |.cst u,v=>v=u
 |.hdr l n π c,v=>U l=true/\∀ b,L l=some b->n<=b.v/\(π=[]->VR b.t (cg l) v)/\(n=b.v->du b.t b.m π=true/\get? b.t b.x π=some c/\∀ ds s,resolve w b.t (cg l) none π=some (ds,s)->VR (atT b.t π) ds v)
 |.adr l n π c,v=>U l=true/\∀ b,L l=some b->n<=b.v/\(short 0 π=true->∀ p o,bc b.t (cg l) none π=some (p,o)->v=.pointer (some ⟨p,o,none⟩))/\
  (n=b.v->du b.t b.m π=true/\get? b.t b.x π=some c/\∀ ds p o,resolve w b.t (cg l) none π=some (ds,some (p,o))->v=.pointer (some ⟨p,o,none⟩))
 |.view l te lo hi,v=>U l=true/\∀ b,L l=some b->QD (cg l) te.width lo hi v
 |.kT t x,v=>∃ a ds,v=.pointer (some a)/\F a.block/\At w a ds/\Rep F w t .ro x ds af.none
def cC(F:af)(w:World)(L:Nat->Option Lab)(U:Nat->Bool)(cg:Nat->List Value):List ar->List Value->Prop
 |[],vs=>vs=[]
 |e::es,vs=>∃ v r,vs=v::r/\aF F w L U cg e v/\cC F w L U cg es r
def iu(F:af)(w:World)(L:Nat->Option Lab)(U:Nat->Bool)(cg:Nat->List Value):Ent->Value->Prop
 |.one e,v=>aF F w L U cg e v
 |.tup es,v=>∃ vs:List Value,v=.tuple vs.toArray/\cC F w L U cg es vs
 |.clo f es,v=>∃ vs:List Value,v=.func (.func f) #[] vs.toArray/\cC F w L U cg es vs
structure Fr(w0:World)(S0:af)(w:World):Prop where
 os:w.os=w0.os
 tape:w.tape=w0.tape
 output:w.output=w0.output
 size:w0.heap.size<=w.heap.size
 block:∀ k,k<w0.heap.size->¬S0 k->w.heap[k]?=w0.heap[k]?
def GK:List Nat:=[]
def Gh(F:af)(w:World):Prop:=∀ p∈GK,F p/\∃ n,w.cell? ⟨p,0,none⟩=some (.int .i64 n)
theorem Gh.step{F F':af}{w w':World}(h:Gh F w)(hs:Sub F F')(hb:∀ p∈GK,w'.heap[p]?=w.heap[p]?):Gh F' w':=by
 intro p hp
 obtain⟨h1,n,h2⟩:=h p hp
 exact⟨hs p h1,n,(tV (a:=⟨p,0,none⟩) (hb p hp)).trans h2⟩
structure dD where
 w0:World
 S0:af
 F0:af
 N:Nat
 fix:Nat->Option (List Value)
 gh:Gh F0 w0
 ghs:∀ p∈GK,¬S0 p
 ghl:∀ p∈GK,p<w0.heap.size
structure aP(B:dD)(F:af)(Sg:Nat->af)(cg:Nat->List Value)(σ:St)(a:Act)(w:World):Prop where
 fr:Fr B.w0 B.S0 w
 size:a.tmps.size=B.N
 defers:a.defers=[]
 f0:Sub B.F0 F
 fl:∀ k,F k->k<w.heap.size
 fs:∀ k,F k->k<B.w0.heap.size->¬B.S0 k->B.F0 k
 lab:∀ l b,σ.L l=some b->Rep F w b.t b.m b.x (cg l) (Sg l)
 dis:∀ l l' b b',l≠l'->σ.L l=some b->σ.L l'=some b'->Dis (Sg l) (Sg l')
 ek:∀ l b,σ.L l=some b->Dis (Sg l) F
 lt:∀ l b,σ.L l=some b->∀ k,Sg l k->k<w.heap.size
 may:∀ l b,σ.L l=some b->∀ k,Sg l k->k<B.w0.heap.size->B.S0 k
 used:∀ l b,σ.L l=some b->σ.U l=true
 fix:∀ l cs,B.fix l=some cs->(σ.U l=true/\l % 8=6)/\∀ b,σ.L l=some b->cg l=cs
 ent:∀ t e,σ.E t=some e->iu F w σ.L σ.U cg e (a.tmps.getD t undef)
def Inv(B:dD)(σ:St)(a:Act)(w:World):Prop:=∃ F Sg cg,aP B F Sg cg σ a w
theorem resolve_congr{F:af}{w w':World}:∀ (π:List Stp) (t:Ty) (m:Md) (x:t.T) (cs:List Value) (S:af) (s:Option (Nat×Nat)),Rep F w t m x cs S->du t m π=true->(get? t x π).isSome=true->
 (∀ k,S k->w'.heap[k]?=w.heap[k]?)->resolve w' t cs s π=resolve w t cs s π:=by
 intro π
 induction π with
 |nil=>intro t m x cs S s _ _ _ _;cases t <;> rfl
 |cons p0 π ih=>
  intro t m x cs S s h ho hg hw
  unfold get? at hg
  cases t <;> cases p0 <;> simp only[ft,Option.isSome_none,reduceCtorEq]at hg
  case st.st t=>exact ih t m x cs S s h ho hg hw
  case pair.fst a b=>
   obtain⟨c1,c2,S1,S2,rfl,h1,h2,s1,s2,d⟩:=h
   simp only[resolve]
   rw[eQ (aQ _ _ _ _ _ _ _ h1)]
   exact ih a _ _ _ _ _ h1 ho hg (λk hk=>hw k (s1 k hk))
  case pair.snd a b=>
   obtain⟨c1,c2,S1,S2,rfl,h1,h2,s1,s2,d⟩:=h
   simp only[resolve]
   rw[ir (aQ _ _ _ _ _ _ _ h1)]
   exact ih b _ _ _ _ _ h2 ho hg (λk hk=>hw k (s2 k hk))
  case sl.idx t i=>
   split at hg
   ·rename_i h0
    cases hz:(x:List t.T)[i.toNat]? with
    |none=>rw[hz]at hg;simp at hg
    |some z=>
     rw[hz]at hg
     simp only[du,ag]at ho
     cases m with
     |ro=>simp[Md.eU]at ho
     |pr _ _=>simp[Md.eU]at ho
     |own m=>
      obtain⟨a,cap,rfl,h1,h2,h3⟩:=h
      have hi:i.toNat<List.length x:=(List.getElem?_eq_some_iff.1 hz).1
      rcases h3 with rfl|⟨b,off,c,e,rfl,hb,hc,hS,S1,hr,s1,n1⟩
      ·omega
      have hW:=λy c S (h:Rep F w t m y c S)=>aQ F w t m y c S h
      obtain⟨d,T,pre,post,hd,t1,eR,hp,_⟩:=bm.focus hW hz hr
      have kh:eP w b (off+i.toNat*t.width) t.width=d:=by
       have hdl:=hW _ _ _ hd
       have hrl:=bm.len hW hr
       have hcl:off+x.length*t.width<=c.toList.length:=by grind
       have fu:rq w b (off+i.toNat*t.width) d:=by
        refine⟨c,e.any,hb,c.toList.take off++pre,post++(c.toList.drop off).drop (x.length*t.width),?_,?_⟩
        ·rw[show c.toList.take off++pre++d++(post++(c.toList.drop off).drop (x.length*t.width))=c.toList.take off++((pre++d++post)++(c.toList.drop off).drop (x.length*t.width)) by simp]
         rw[<-eR,fC,fC]
        ·rw[ak,aL,hp];omega
       have:=fI fu
       rwa [hdl]at this
      have tX:eP w' b (off+i.toNat*t.width) t.width=d:=by
       rw[<-kh];unfold eP;rw[hw b hS]
      simp only[resolve]
      rw[if_pos ⟨h0,hi⟩,if_pos ⟨h0,hi⟩,kh,tX]
      exact ih t m z d T _ hd ho.2 hg (λk hk=>hw k (s1 k (t1 k hk)))
   ·simp at hg
  case arr.ai n t i=>
   split at hg
   ·rename_i h0
    cases hz:(x:List t.T)[i.toNat]? with
    |none=>rw[hz]at hg;simp at hg
    |some z=>
     rw[hz]at hg
     obtain⟨hn,h⟩:=h
     have hW:=λy c S (h:Rep F w t m.el y c S)=>aQ F w t m.el y c S h
     obtain⟨d,T,pre,post,hd,t1,rfl,hp,_⟩:=bm.focus hW hz h
     have hdl:=hW _ _ _ hd
     have hi:i.toNat<n:=by rw[<-hn];exact(List.getElem?_eq_some_iff.1 hz).1
     have hc:((pre++d++post).drop (i.toNat*t.width)).take t.width=d:=by rw[aT,ir hp,eQ hdl]
     simp only[resolve]
     rw[if_pos ⟨h0,hi⟩,if_pos ⟨h0,hi⟩,hc]
     exact ih t m.el z d T _ hd ho hg (λk hk=>hw k (t1 k hk))
   ·simp at hg
  case box.deref t=>
   simp only[du,ag]at ho
   cases m with
   |ro=>simp[Md.eU]at ho
   |pr _ _=>simp[Md.eU]at ho
   |own m=>
    obtain⟨p,c,e,rfl,hb,hS,S1,hr,s1,n1⟩:=h
    have hcl:=aQ F w t m x _ _ hr
    have kh:eP w p 0 t.width=c.toList:=by
     have:=fI (w:=w) (b:=p) (o:=0) (cs:=c.toList) ⟨c,e,hb,[],[],by simp,rfl⟩
     rwa [hcl]at this
    have tX:eP w' p 0 t.width=c.toList:=by rw[<-kh];unfold eP;rw[hw p hS]
    simp only[resolve]
    rw[kh,tX]
    exact ih t m x _ S1 _ hr ho.2 hg (λk hk=>hw k (s1 k hk))
  case ptr.deref t=>
   simp only[du,ag]at ho
   cases x with
   |none=>simp at hg
   |some z=>
   cases m with
   |ro=>simp[Md.eU]at ho
   |pr _ _=>simp[Md.eU]at ho
   |own m=>
    obtain⟨p,c,e,rfl,hb,hS,S1,hr,s1,n1⟩:=h
    have hcl:=aQ F w t m z _ _ hr
    have kh:eP w p 0 t.width=c.toList:=by
     have:=fI (w:=w) (b:=p) (o:=0) (cs:=c.toList) ⟨c,e,hb,[],[],by simp,rfl⟩
     rwa [hcl]at this
    have tX:eP w' p 0 t.width=c.toList:=by rw[<-kh];unfold eP;rw[hw p hS]
    simp only[resolve]
    rw[kh,tX]
    exact ih t m z _ S1 _ hr ho.2 hg (λk hk=>hw k (s1 k hk))
theorem aF.frame{F F':af}{w w':World}{L:Nat->Option Lab}{U:Nat->Bool}{cg:Nat->List Value}{Sg:Nat->af}{e:ar}{v:Value}(h:aF F w L U cg e v)(hF:Sub F F')(hFw:∀ k,F k->w'.heap[k]?=w.heap[k]?)
 (xF:∀ l b,L l=some b->Rep F w b.t b.m b.x (cg l) (Sg l)) (hw:∀ l b,L l=some b->∀ k,Sg l k->w'.heap[k]?=w.heap[k]?):aF F' w' L U cg e v:=by
 cases e with
 |val t x=>
  obtain⟨cs,h1,h2⟩:=h
  exact⟨cs,aU hF hFw t .ro x cs _ _ h1 (Sub.refl _) (λ_ h=>h.elim),h2⟩
 |cst u=>exact h
 |view l te lo hi=>exact h
 |kT t x=>
  obtain⟨a,ds,h1,h2,h3,h4⟩:=h
  exact⟨a,ds,h1,hF _ h2,h3.congr (hFw _ h2),aU hF hFw t .ro x ds _ _ h4 (Sub.refl _) (λ_ h=>h.elim)⟩
 |hdr l n π c=>
  refine⟨h.1,λb hb=>?_⟩
  obtain⟨h0,h1,h2⟩:=h.2 b hb
  grind [resolve_congr]
 |adr l n π c=>
  refine⟨h.1,λb hb=>?_⟩
  obtain⟨h0,h1,h2⟩:=h.2 b hb
  grind [resolve_congr]
theorem cC.imp{F F':af}{w w':World}{L L':Nat->Option Lab}{U U':Nat->Bool}{cg cg':Nat->List Value}(hi:∀ e v,aF F w L U cg e v->aF F' w' L' U' cg' e v):∀ {es:List ar} {vs:List Value},cC F w L U cg es vs->cC F' w' L' U' cg' es vs:=by
 intro es
 induction es with
 |nil=>intro vs h;exact h
 |cons e es ih=>rintro vs ⟨v,r,rfl,h1,h2⟩;exact⟨v,r,rfl,hi _ _ h1,ih h2⟩
theorem iu.imp{F F':af}{w w':World}{L L':Nat->Option Lab}{U U':Nat->Bool}{cg cg':Nat->List Value}(hi:∀ e v,aF F w L U cg e v->aF F' w' L' U' cg' e v){e:Ent}{v:Value}(h:iu F w L U cg e v):iu F' w' L' U' cg' e v:=by
 cases e with
 |one e=>exact hi _ _ h
 |tup es=>obtain⟨vs,h1,h2⟩:=h;exact⟨vs,h1,h2.imp hi⟩
 |clo f es=>obtain⟨vs,h1,h2⟩:=h;exact⟨vs,h1,h2.imp hi⟩
theorem aP.world{B:dD}{F:af}{Sg:Nat->af}{cg:Nat->List Value}{σ:St}{a:Act}{w w':World}(h:aP B F Sg cg σ a w)(ho:w'.os=w.os)(ht:w'.tape=w.tape)(hou:w'.output=w.output)(hs:w.heap.size<=w'.heap.size)
 (hb:∀ k,k<w.heap.size->w'.heap[k]?=w.heap[k]?):aP B F Sg cg σ a w':=
 {fr:=⟨ho.trans h.fr.os,ht.trans h.fr.tape,hou.trans h.fr.output,bE h.fr.size hs,λk hk hn=>(hb k (bz hk h.fr.size)).trans (h.fr.block k hk hn)⟩
  size:=h.size
  defers:=h.defers
  f0:=h.f0
  fl:=λk hk=>bz (h.fl k hk) hs
  fs:=h.fs
  lab:=λl b hl=>aU (Sub.refl _) (λk hk=>hb k (h.fl k hk)) _ _ _ _ _ _ (h.lab l b hl) (Sub.refl _) (λk hk=>hb k (h.lt l b hl k hk))
  dis:=h.dis
  ek:=h.ek
  lt:=λl b hl k hk=>bz (h.lt l b hl k hk) hs
  may:=h.may
  used:=h.used
  fix:=h.fix
  ent:=λt e he=>(h.ent t e he).imp λe v hv=>hv.frame (Sub.refl _) (λk hk=>hb k (h.fl k hk)) h.lab (λl b hl k hk=>hb k (h.lt l b hl k hk))}
theorem zz{a:Act}{d t:Nat}{v:Value}(hd:d<a.tmps.size):(a.put (some d) v).tmps.getD t undef=if t=d then v else a.tmps.getD t undef:=by
 simp only[Act.put,Array.getD_eq_getD_getElem?]
 grind
theorem aP.vT{B:dD}{F:af}{Sg:Nat->af}{cg:Nat->List Value}{σ:St}{a:Act}{w:World}(h:aP B F Sg cg σ a w){d:Nat}(hd:d<B.N){e:Ent}{v:Value}(he:iu F w σ.L σ.U cg e v):aP B F Sg cg {σ with E:=upd σ.E d (some e)} (a.put (some d) v) w:=
 {h with
  size:=by simp[Act.put,h.size]
  defers:=h.defers
  ent:=λt e' he'=>by
   rw[zz (by rw[h.size];exact hd)]
   rcases fv he' with⟨rfl,e1⟩|⟨hn,e1⟩
   ·simp_all
   ·rw[if_neg hn];exact h.ent t e' e1}
theorem aP.Wd{B:dD}{F:af}{Sg:Nat->af}{cg:Nat->List Value}{σ:St}{a:Act}{w:World}(h:aP B F Sg cg σ a w){d:Nat}(hd:d<B.N){v:Value}:aP B F Sg cg {σ with E:=upd σ.E d none} (a.put (some d) v) w:=
 {h with
  size:=by simp[Act.put,h.size]
  defers:=h.defers
  ent:=λt e' he'=>by
   rw[zz (by rw[h.size];exact hd)]
   rcases fv he' with⟨rfl,e1⟩|⟨hn,e1⟩
   ·cases e1
   ·rw[if_neg hn];exact h.ent t e' e1}
def FQ(k:IntKind)(n:Int):Bool:=decide (kLo k<=n)&&decide (n<=kHi k)
theorem zA{k:IntKind}{n:Int}(h:FQ k n=true):inK k n:=by
 simp[FQ]at h;exact h
def rdL{α:Type}(f:List Value->Option α)(sz:Nat):Nat->List Value->Option (List α)
 |0,cs=>match cs with|[]=>some []|_::_=>none
 |n+1,cs=>match f (cs.take sz)with
  |some x=>match rdL f sz n (cs.drop sz)with
   |some xs=>some (x::xs)
   |none=>none
  |none=>none
def rdC:(t:Ty)->List Value->Option t.T
 |.int k,cs=>match cs with|[.int k' n]=>bif(decide (k'=k)&&FQ k n)then some n else none|_=>none
 |.bool,cs=>match cs with|[.bool b]=>some b|_=>none
 |.str,cs=>match cs with|[.string u]=>bif Nat.ble u.size maxLen then some (cd u)else none|_=>none
 |.unit,cs=>match cs with|[]=>some ()|_=>none
 |.pair a b,cs=>match rdC a (cs.take a.width)with
  |some x=>match rdC b (cs.drop a.width)with
   |some y=>some (x,y)
   |none=>none
  |none=>none
 |.st t,cs=>rdC t cs
 |.arr n t,cs=>rdL (rdC t) t.width n cs
 |.sl _,cs=>match cs with|[.slice none 0 0]=>some []|_=>none
 |.box _,_=>none
 |.ptr _,cs=>match cs with|[.pointer none]=>some none|_=>none
 |.jI,_=>none
 |.hol _,_=>none
 |.chan,cs=>match cs with|[.chan none]=>some (0,[])|_=>none
 |.fn _,_=>none
 |.may _,_=>none
 |.map _ _,cs=>match cs with|[.map none]=>some []|_=>none
 |.nl _,cs=>match cs with|[.slice none 0 0]=>some []|_=>none
theorem QE{α:Type}{R:α->List Value->af->Prop}{f:List Value->Option α}{sz:Nat}(hf:∀ cs x,f cs=some x->R x cs af.none):∀ (n:Nat) (cs:List Value) (xs:List α),rdL f sz n cs=some xs->xs.length=n/\bm R xs cs af.none:=by
 intro n
 induction n with
 |zero=>
  intro cs xs h
  cases cs with
  |nil=>simp only[rdL,bh]at h;subst h;exact⟨rfl,rfl⟩
  |cons _ _=>simp[rdL]at h
 |succ n ih=>
  intro cs xs h
  simp only[rdL]at h
  cases h1:f (cs.take sz)with
  |none=>rw[h1]at h;cases h
  |some x=>
   rw[h1]at h
   simp only at h
   cases h2:rdL f sz n (cs.drop sz)with
   |none=>rw[h2]at h;cases h
   |some ys=>
    rw[h2]at h
    simp only[bh]at h
    subst h
    obtain⟨h3,h4⟩:=ih _ _ h2
    exact⟨by simp[h3],cs.take sz,cs.drop sz,af.none,af.none,(fC _ _).symm,hf _ _ h1,h4,Sub.refl _,Sub.refl _,λ_ h=>h.elim⟩
def okM:Ty->Md->Bool
 |.pair a b,m=>okM a m.fst&&okM b m.snd
 |.st t,m=>okM t m
 |.arr _ t,m=>okM t m.el
 |.chan,m=>match m with|.own _=>false|_=>true
 |.map _ _,m=>match m with|.own _=>false|_=>true
 |_,_=>true
theorem Cj:∀ (t:Ty),okM t .ro=true:=by
 intro t
 induction t with
 |pair a b iha ihb=>simp[okM,Md.fst,Md.snd,iha,ihb]
 |st t ih=>exact ih
 |arr n t ih=>exact ih
 |_=>rfl
theorem tY{F:af}{w:World}:∀ (t:Ty) (m:Md) (cs:List Value) (x:t.T),okM t m=true->rdC t cs=some x->Rep F w t m x cs af.none:=by
 intro t
 induction t with
 |int k=>
  intro m cs x hm h
  unfold rdC at h
  split at h
  ·rename_i k' n
   cases hb:(decide (k'=k)&&FQ k n)
   ·simp_all
   ·rw[hb]at h
    simp only[cond_true,bh]at h
    simp at hb
    obtain⟨rfl,hb⟩:=hb
    subst h
    exact⟨rfl,zA hb⟩
  ·cases h
 |bool=>intro m cs x hm h;unfold rdC at h;split at h <;> simp at h;subst h;rfl
 |str=>
  intro m cs x hm h
  unfold rdC at h
  split at h
  ·rename_i u
   cases hb:Nat.ble u.size maxLen
   ·simp_all
   ·rw[hb]at h
    simp only[cond_true,bh]at h
    subst h
    exact⟨u,rfl,rfl,kJ hb⟩
  ·cases h
 |unit=>intro m cs x hm h;unfold rdC at h;split at h <;> simp at h;rfl
 |pair a b iha ihb=>
  intro m cs x hm h
  simp only[okM,ag]at hm
  simp only[rdC]at h
  cases h1:rdC a (cs.take a.width)with
  |none=>rw[h1]at h;cases h
  |some y=>
   rw[h1]at h
   simp only at h
   cases h2:rdC b (cs.drop a.width)with
   |none=>rw[h2]at h;cases h
   |some z=>
    rw[h2]at h
    simp only[bh]at h
    subst h
    exact⟨cs.take a.width,cs.drop a.width,af.none,af.none,(fC _ _).symm,iha _ _ _ hm.1 h1,ihb _ _ _ hm.2 h2,Sub.refl _,Sub.refl _,λ_ h=>h.elim⟩
 |st t ih=>intro m cs x hm h;exact ih m cs x hm h
 |arr n t ih=>intro m cs x hm h;exact QE (R:=Rep F w t m.el) (λcs x h=>ih m.el cs x hm h) n cs x h
 |sl t ih=>
  intro m cs x hm h
  unfold rdC at h
  split at h <;> simp at h
  subst h
  cases m with
  |ro=>exact⟨none,0,rfl,aw _,by simp[maxLen],λh=>absurd h (by simp)⟩
  |pr _ _=>exact⟨none,0,rfl,aw _,by simp[maxLen],λh=>absurd h (by simp)⟩
  |own m=>exact⟨none,0,rfl,aw _,by simp[maxLen],.inl rfl⟩
 |box t ih=>intro m cs x hm h;simp[rdC]at h
 |jI=>intro m cs x hm h;simp[rdC]at h
 |hol t ih=>intro m cs x hm h;simp[rdC]at h
 |chan=>
  intro m cs x hm h
  unfold rdC at h
  split at h <;> simp at h
  cases m with
  |own _=>cases hm
  |ro=>exact⟨.chan none,rfl,rfl⟩
  |pr _ _=>exact⟨.chan none,rfl,rfl⟩
 |fn f=>intro m cs x hm h;simp[rdC]at h
 |nl t _=>
  intro m cs x hm h
  unfold rdC at h
  split at h <;> simp at h
  subst h
  exact⟨⟨none,0,rfl,aw _,by simp[maxLen],λh=>absurd h (by simp)⟩,λ_=>rfl⟩
 |map k v _ _=>
  intro m cs x hm h
  unfold rdC at h
  split at h <;> simp at h
  subst h
  cases m with
  |own _=>cases hm
  |ro=>exact .inl ⟨rfl,rfl⟩
  |pr _ _=>exact .inl ⟨rfl,rfl⟩
 |may t ih=>intro m cs x hm h;simp[rdC]at h
 |ptr t ih=>
  intro m cs x hm h
  unfold rdC at h
  split at h <;> simp at h
  subst h
  cases m <;> rfl
def Value.isAgg:Value->Bool
 |.agg _=>true
 |_=>false
def vrC(t:Ty)(v:Value):Bool:=bif t.agg then Value.isAgg v else v.oneCell'
theorem Ip{t:Ty}{v:Value}(h:vrC t v=true):VR t v.cells.toList v:=by
 unfold vrC at h
 unfold VR
 cases ha:t.agg
 ·rw[ha]at h
  simp only[cond_false]at h
  rw[if_neg (by simp)]
  cases v <;> first|exact⟨rfl,rfl⟩|(simp[Value.oneCell']at h)
 ·rw[ha]at h
  simp only[cond_true]at h
  rw[if_pos rfl]
  cases v <;> first|rfl|(simp[Value.isAgg]at h)
def QF:Value->ar
 |.int k n=>bif FQ k n then .val (.int k) n else .cst (.int k n)
 |.bool b=>.val .bool b
 |.string u=>bif Nat.ble u.size maxLen then .val .str (cd u)else .cst (.string u)
 |v=>.cst v
theorem Mu{F:af}{w:World}{L:Nat->Option Lab}{U:Nat->Bool}{cg:Nat->List Value}(v:Value):aF F w L U cg (QF v) v:=by
 unfold QF
 split
 ·rename_i k n
  cases hb:FQ k n
  ·exact rfl
  ·exact⟨[.int k n],⟨rfl,zA hb⟩,by simp[VR,Ty.agg,Value.oneCell']⟩
 ·exact⟨_,rfl,by simp[VR,Ty.agg,Value.oneCell']⟩
 ·rename_i u
  cases hb:Nat.ble u.size maxLen
  ·exact rfl
  ·exact⟨[.string u],⟨u,rfl,rfl,kJ hb⟩,by simp[VR,Ty.agg,Value.oneCell']⟩
 ·exact rfl
def coN:ar->ar
 |.val (.nl t) x=>.val (.sl t) x
 |e=>e
def opd(σ:St):Operand->Option ar
 |.tmp t=>match σ.E t with
  |some (.one e)=>some (coN e)
  |_=>none
 |.const v=>some (QF v)
 |.func f=>some (.val (.fn f) ())
 |_=>none
theorem QG{F:af}{w:World}{L:Nat->Option Lab}{U:Nat->Bool}{cg:Nat->List Value}{e:ar}{v:Value}(h:aF F w L U cg e v):aF F w L U cg (coN e) v:=by
 unfold coN
 split
 ·rename_i t x
  obtain⟨cs,⟨h1,_⟩,h2⟩:=h
  exact⟨cs,h1,h2⟩
 ·exact h
theorem bA{B:dD}{F:af}{Sg:Nat->af}{cg:Nat->List Value}{σ:St}{a:Act}{w:World}(h:aP B F Sg cg σ a w){x:Operand}{e:ar}(he:opd σ x=some e):aF F w σ.L σ.U cg e (a.eval x):=by
 unfold opd at he
 split at he
 ·rename_i t
  split at he
  ·rename_i e' h'
   injection he with he
   subst he
   exact QG (h.ent t _ h')
  ·cases he
 ·injection he with he;subst he;exact Mu _
 ·rename_i f
  injection he with he;subst he
  exact⟨[.func (.func f) #[] #[]],rfl,by simp[VR,Ty.agg,Value.oneCell',Act.eval]⟩
 ·cases he
def asT{R:Type}(e:ar)(want:Ty)(K:want.T->Option R):Option R:=
 match e with
 |.val t x=>if h:t=want then K (h ▸ x)else none
 |.cst v=>bif vrC want v then(match rdC want v.cells.toList with|some x=>K x|none=>none)else none
 |_=>none
theorem gE{R:Type}{F:af}{w:World}{L:Nat->Option Lab}{U:Nat->Bool}{cg:Nat->List Value}{e:ar}{want:Ty}{K:want.T->Option R}{r:R}(h:asT e want K=some r){v:Value}(he:aF F w L U cg e v):
 ∃ x cs,K x=some r/\Rep F w want .ro x cs af.none/\VR want cs v:=by
 unfold asT at h
 split at h
 ·rename_i t x
  split at h
  ·rename_i ht
   subst ht
   obtain⟨cs,h1,h2⟩:=he
   grind
  ·cases h
 ·rename_i u
  have hv:v=u:=he
  subst hv
  cases hb:vrC want v
  ·simp_all
  ·rw[hb]at h
   simp only[cond_true]at h
   cases hc:rdC want v.cells.toList with
   |none=>rw[hc]at h;cases h
   |some x=>rw[hc]at h;exact⟨x,_,h,tY _ _ _ _ (Cj _) hc,Ip hb⟩
 ·cases h
theorem pk{F:af}{w:World}{k:IntKind}{m:Md}{x:Int}{cs:List Value}{S:af}{v:Value}(h:Rep F w (.int k) m x cs S)(hv:VR (.int k) cs v):v=.int k x/\inK k x:=by
 obtain⟨rfl,h2⟩:=h
 simp[VR,Ty.agg]at hv
 simp_all
theorem Mv{F:af}{w:World}{m:Md}{x:Bool}{cs:List Value}{S:af}{v:Value}(h:Rep F w .bool m x cs S)(hv:VR .bool cs v):v=.bool x:=by
 have h':cs=[.bool x]:=h
 subst h'
 simp[VR,Ty.agg]at hv
 exact hv.1.symm
theorem QH{F:af}{w:World}{m:Md}{x:List Int}{cs:List Value}{S:af}{v:Value}(h:Rep F w .str m x cs S)(hv:VR .str cs v):∃ u,v=.string u/\x=cd u/\u.size<=maxLen:=by
 obtain⟨u,rfl,h2,h3⟩:=h
 simp[VR,Ty.agg]at hv
 grind
theorem cM{F:af}{w:World}{L:Nat->Option Lab}{U:Nat->Bool}{cg:Nat->List Value}{k:IntKind}{x:Int}(h:inK k x):aF F w L U cg (.val (.int k) x) (.int k x):=
 ⟨[.int k x],⟨rfl,h⟩,by simp[VR,Ty.agg,Value.oneCell']⟩
theorem dg{F:af}{w:World}{L:Nat->Option Lab}{U:Nat->Bool}{cg:Nat->List Value}{b:Bool}:aF F w L U cg (.val .bool b) (.bool b):=
 ⟨[.bool b],rfl,by simp[VR,Ty.agg,Value.oneCell']⟩
theorem Iq{F:af}{w:World}{L:Nat->Option Lab}{U:Nat->Bool}{cg:Nat->List Value}{u:ByteArray}(h:u.size<=maxLen):aF F w L U cg (.val .str (cd u)) (.string u):=
 ⟨[.string u],⟨u,rfl,rfl,h⟩,by simp[VR,Ty.agg,Value.oneCell']⟩
def dL(op:BinOp)(k:IntKind)(x y:Int):Int:=
 match op with
 |.and=>k.wrap (BitVec.ofInt k.bits x&&& BitVec.ofInt k.bits y).toNat
 |.or=>k.wrap (BitVec.ofInt k.bits x|||BitVec.ofInt k.bits y).toNat
 |.xor=>k.wrap (BitVec.ofInt k.bits x ^^^ BitVec.ofInt k.bits y).toNat
 |_=>k.wrap (BitVec.ofInt k.bits x&&& ~~~ BitVec.ofInt k.bits y).toNat
def ki:List Int->List Int->Bool
 |_,[]=>false
 |[],_::_=>true
 |a::x,b::y=>decide (a<b)||(decide (a=b)&&ki x y)
def isBool:Option TD->Bool
 |some d=>match d.kd with|.bool=>true|_=>false
 |none=>false
def Ck{R:Type}(td:Option TD)(op:BinOp):ar->ar->(ar->Option R)->Option R
 |.val (.int k) a,.val (.int k') b,K=>
  match op with
  |.shl=>if b<0 then none else K (.val (.int k) (k.wrap (a*2 ^ min b.toNat k.bits)))
  |.shr=>if b<0 then none else K (.val (.int k) (Int.fdiv a (2 ^ min b.toNat k.bits)))
  |op=>bif decide (k=k')then(match op with
   |.add=>K (.val (.int k) (k.wrap (a+b)))
   |.sub=>K (.val (.int k) (k.wrap (a-b)))
   |.mul=>K (.val (.int k) (k.wrap (a*b)))
   |.quo=>if b=0 then none else K (.val (.int k) (k.wrap (Int.tdiv a b)))
   |.rem=>if b=0 then none else K (.val (.int k) (Int.tmod a b))
   |.and=>K (.val (.int k) (dL .and k a b))
   |.or=>K (.val (.int k) (dL .or k a b))
   |.xor=>K (.val (.int k) (dL .xor k a b))
   |.andNot=>K (.val (.int k) (dL .andNot k a b))
   |.eql=>K (.val .bool (decide (a=b)))
   |.neq=>K (.val .bool (!decide (a=b)))
   |.lss=>K (.val .bool (decide (a<b)))
   |.leq=>K (.val .bool (decide (a<=b)))
   |.gtr=>K (.val .bool (decide (b<a)))
   |.geq=>K (.val .bool (decide (b<=a)))
   |_=>none)else none
 |.val .bool a,.val .bool b,K=>bif isBool td then(match op with
  |.eql=>K (.val .bool (a == b))
  |.neq=>K (.val .bool (!(a == b)))
  |_=>none)else none
 |.val .str a,.val .str b,K=>match op with
  |.add=>if List.length a+List.length b<=9223372036854775807 then K (.val .str (List.append a b))else none
  |.eql=>K (.val .bool (decide ((a:List Int)=b)))
  |.neq=>K (.val .bool (!decide ((a:List Int)=b)))
  |.lss=>K (.val .bool (ki a b))
  |.leq=>K (.val .bool (ki a b||decide ((a:List Int)=b)))
  |.gtr=>K (.val .bool (!(ki a b||decide ((a:List Int)=b))))
  |.geq=>K (.val .bool (!ki a b))
  |_=>none
 |_,_,_=>none
theorem lI{u v:ByteArray}:(cd u=cd v)=(u=v):=by
 apply propext
 constructor
 ·intro h
  unfold cd at h
  have:=(List.map_inj_right (f:=λb:UInt8=>(b.toNat:Int)) (λx y e=>UInt8.toNat_inj.1 (by have e':(x.toNat:Int)=y.toNat:=e;omega))).1 h
  cases u;cases v
  simp_all
 simp_all
theorem et(u:ByteArray):(cd u).length=u.size:=by simp[cd]
theorem vU(u v:ByteArray):cd (u++v)=cd u++cd v:=by simp[cd,ByteArray.data_append]
theorem toList_eq(u:ByteArray):u.toList=u.data.toList:=ByteArray.toList_eq u
theorem Cm(x y:List UInt8):ki (x.map λb=>(b.toNat:Int)) (y.map λb=>(b.toNat:Int))=Op.bytesLess x y:=by
 induction x generalizing y with
 |nil=>cases y <;> rfl
 |cons a x ih=>
  cases y with
  |nil=>rfl
  |cons b y=>
   simp only[fH,ki,Op.bytesLess,ih]
   congr 1
   ·simp[UInt8.lt_iff_toNat_lt]
   ·congr 1
    rw[cI];simp[<-UInt8.toNat_inj];omega
theorem Ir{k:IntKind}{a b:Int}(ha:inK k a)(hb:inK k b):inK k (a.tmod b):=by
 have h0:b=0\/(a.tmod b).natAbs<b.natAbs:=by
  rcases Int.decEq b 0 with h|h
  all_goals simp_all [eG]
 have h1:(a.tmod b).natAbs<=a.natAbs:=by rw[Int.natAbs_tmod];exact Nat.mod_le _ _
 have h2:0<=a->0<=a.tmod b:=λh=>Int.tmod_nonneg b h
 have h3:a<=0->a.tmod b<=0:=λh=>by
  have:=Int.tmod_nonneg b (show 0<=-a by omega)
  simp_all
 clear h0
 generalize a.tmod b=e at *
 unfold inK at *
 cases k <;> simp[kLo,kHi]at * <;> omega
theorem Is{k:IntKind}{a:Int}(ha:inK k a)(n:Nat):inK k (Int.fdiv a (2 ^ n)):=by
 have hp:(0:Int)<2 ^ n:=Int.pow_pos (by omega)
 rw[nT _ (by omega)]
 have h1:0<=a->0<=a / 2 ^ n/\a / 2 ^ n<=a:=λh=>⟨Int.ediv_nonneg h (by omega),Int.ediv_le_self _ h⟩
 have h2:a<0->a<=a / 2 ^ n/\a / 2 ^ n<0:=λh=>⟨by
  rw[Int.le_ediv_iff_mul_le hp]
  have:a*2 ^ n<=a*1:=Int.mul_le_mul_of_nonpos_left (by omega) (by omega)
  omega,Int.ediv_neg_of_neg_of_pos h hp⟩
 unfold inK at *
 cases k <;> simp[kLo,kHi]at * <;> omega
section
variable {P:Program} {F:af} {w:World} {L:Nat->Option Lab} {U:Nat->Bool} {cg:Nat->List Value}
theorem iL{k:IntKind}{x:Int}{v:Value}(h:aF F w L U cg (.val (.int k) x) v):v=.int k x/\inK k x:=by
 obtain⟨cs,h1,h2⟩:=h;exact pk h1 h2
theorem jN{x:Bool}{v:Value}(h:aF F w L U cg (.val .bool x) v):v=.bool x:=by
 obtain⟨cs,h1,h2⟩:=h;exact Mv h1 h2
theorem kj{x:List Int}{v:Value}(h:aF F w L U cg (.val .str x) v):∃ u,v=.string u/\x=cd u/\u.size<=maxLen:=by
 obtain⟨cs,h1,h2⟩:=h;exact QH h1 h2
theorem xG{u:ByteArray}{x:List Int}(h:u.size<=maxLen)(hx:x=cd u):aF F w L U cg (.val .str x) (.string u):=hx ▸ Iq h
theorem D2{R:Type}{td:Option TD}{op:BinOp}{t:TypeId}{x y:ar}{ox oy:Operand}{K:ar->Option R}{r:R}(h:Ck td op x y K=some r)(htd:∀ d,td=some d->TOk P t d){u v:Value}(hx:aF F w L U cg x u)(hy:aF F w L U cg y v):
 ∃ e z,K e=some r/\(do eqGuard op t ox oy u v;binOp op t u v:Sem Value).run P w=.ok z w/\aF F w L U cg e z:=by
 unfold Ck at h
 split at h
 ·rename_i k a k' b
  obtain⟨rfl,ha⟩:=iL hx
  obtain⟨rfl,hb⟩:=iL hy
  split at h
  ·split at h
   ·cases h
   ·rename_i hb0
    exact⟨_,_,h,by simp[binOp,Op.shift,hb0,go_sem],cM (eH _ _)⟩
  ·split at h
   ·cases h
   ·rename_i hb0
    exact⟨_,_,h,by simp[binOp,Op.shift,hb0,go_sem],cM (Is ha _)⟩
  ·rename_i op hsl hsr
   cases hk:decide (k=k')
   ·rw[hk]at h;cases h
   rw[hk]at h
   simp only[cond_true]at h
   simp at hk
   subst hk
   split at h
   case h_1=>exact⟨_,_,h,by simp[binOp,Op.intArith,go_sem],cM (eH _ _)⟩
   case h_2=>exact⟨_,_,h,by simp[binOp,Op.intArith,go_sem],cM (eH _ _)⟩
   case h_3=>exact⟨_,_,h,by simp[binOp,Op.intArith,go_sem],cM (eH _ _)⟩
   case h_4=>
    split at h
    ·cases h
    ·rename_i hb0;exact⟨_,_,h,by simp[binOp,Op.intDiv,hb0,go_sem],cM (eH _ _)⟩
   case h_5=>
    split at h
    ·cases h
    ·rename_i hb0;exact⟨_,_,h,by simp[binOp,Op.intDiv,hb0,go_sem],cM (Ir ha hb)⟩
   case h_6=>exact⟨_,_,h,by simp[binOp,Op.intBits,dL,go_sem],cM (eH _ _)⟩
   case h_7=>exact⟨_,_,h,by simp[binOp,Op.intBits,dL,go_sem],cM (eH _ _)⟩
   case h_8=>exact⟨_,_,h,by simp[binOp,Op.intBits,dL,go_sem],cM (eH _ _)⟩
   case h_9=>exact⟨_,_,h,by simp[binOp,Op.intBits,dL,go_sem],cM (eH _ _)⟩
   case h_10=>exact⟨_,.bool (decide (a=b)),h,by simp[binOp,Op.intCmp,go_sem];rfl,dg⟩
   case h_11=>exact⟨_,.bool (!decide (a=b)),h,by simp[binOp,Op.intCmp,go_sem];rfl,dg⟩
   case h_12=>exact⟨_,_,h,by simp[binOp,Op.intCmp,go_sem],dg⟩
   case h_13=>exact⟨_,_,h,by simp[binOp,Op.intCmp,go_sem],dg⟩
   case h_14=>exact⟨_,_,h,by simp[binOp,Op.intCmp,go_sem],dg⟩
   case h_15=>exact⟨_,_,h,by simp[binOp,Op.intCmp,go_sem],dg⟩
   case h_16=>cases h
 ·rename_i a b
  obtain rfl:=jN hx
  obtain rfl:=jN hy
  cases hb:isBool td
  ·rw[hb]at h;cases h
  rw[hb]at h
  simp only[cond_true]at h
  have hu:P.underlying t=some .bool:=by
   unfold isBool at hb
   split at hb
   ·rename_i d
    have:=(htd d rfl).desc
    split at hb
    ·rename_i hk;rw[hk]at this;exact this.1
    ·cases hb
   ·cases hb
  split at h
  ·exact⟨_,_,h,by simp[binOp,run_equal_bool w t a b hu,go_sem],dg⟩
  ·exact⟨_,_,h,by simp[binOp,run_equal_bool w t a b hu,go_sem],dg⟩
  ·cases h
 ·rename_i a b
  obtain⟨u,rfl,rfl,hu⟩:=kj hx
  obtain⟨v,rfl,rfl,hv⟩:=kj hy
  have e1:decide (cd u=cd v)=(u.toList == v.toList):=by
   rw[toList_eq,toList_eq,cI]
   simp only[decide_eq_true_eq,beq_iff_eq,lI]
   constructor
   ·rintro rfl;rfl
   ·intro h;cases u;cases v;simp at h;rw[h]
  have e2:ki (cd u) (cd v)=Op.bytesLess u.toList v.toList:=by
   rw[toList_eq,toList_eq];exact Cm _ _
  split at h
  ·split at h
   ·rename_i hl
    rw[et,et]at hl
    have hn:¬(9223372036854775807<((u.size:Int)+(v.size:Int))):=by omega
    refine⟨_,.string (u++v),h,by simp[binOp,Op.stringOp,hn,go_sem],xG ?_ ?_⟩
    ·rw[ByteArray.size_append];simp only[maxLen];omega
    ·rw[vU];rfl
   ·cases h
  ·exact⟨_,_,h,by simp[binOp,Op.stringOp,go_sem];rfl,by rw[<-e1];exact dg⟩
  ·exact⟨_,_,h,by simp[binOp,Op.stringOp,go_sem];rfl,by rw[<-e1];exact dg⟩
  ·exact⟨_,_,h,by simp[binOp,Op.stringOp,go_sem];rfl,by rw[<-e2];exact dg⟩
  ·exact⟨_,_,h,by simp[binOp,Op.stringOp,go_sem];rfl,by rw[<-e1,<-e2];exact dg⟩
  ·exact⟨_,.bool (!(Op.bytesLess u.toList v.toList||(u.toList == v.toList))),h,by simp[binOp,Op.stringOp,go_sem],by rw[<-e1,<-e2];exact dg⟩
  ·exact⟨_,_,h,by simp[binOp,Op.stringOp,go_sem];rfl,by rw[<-e2];exact dg⟩
  ·cases h
 ·cases h
end
def Ty.QI:Ty->Bool
 |.int _|.bool|.str|.sl _|.box _|.ptr _|.chan|.fn _|.map _ _|.nl _=>true
 |_=>false
def Ty.vty(t:Ty):Bool:=t.QI||t.agg
theorem eW{F:af}{w:World}{t:Ty}(ht:t.QI=true){m:Md}{x:t.T}{cs:List Value}{S:af}(h:Rep F w t m x cs S):∃ z,cs=[z]/\z.oneCell'=true:=by
 cases t <;> simp[Ty.QI]at ht
 case int k=>obtain⟨rfl,_⟩:=h;exact⟨_,rfl,rfl⟩
 case bool=>have h':cs=[.bool x]:=h;subst h';exact⟨_,rfl,rfl⟩
 case str=>obtain⟨u,rfl,_⟩:=h;exact⟨_,rfl,rfl⟩
 case sl t=>cases m <;> (obtain⟨a,cap,rfl,_⟩:=h;exact⟨_,rfl,rfl⟩)
 case box t=>
  cases m with
  |own m=>obtain⟨b,c,e,rfl,_⟩:=h;exact⟨_,rfl,rfl⟩
  |ro=>obtain⟨a,rfl,_⟩:=h;exact⟨_,rfl,rfl⟩
  |pr _ _=>obtain⟨a,rfl,_⟩:=h;exact⟨_,rfl,rfl⟩
 case chan=>
  cases m with
  |own m=>obtain⟨b,buf,s,r,rfl,_⟩:=h;exact⟨_,rfl,rfl⟩
  |ro=>exact h
  |pr _ _=>exact h
 case nl t=>obtain⟨⟨a,cap,rfl,_⟩,_⟩:=h;exact⟨_,rfl,rfl⟩
 case map k v=>
  cases m with
  |own m=>obtain⟨b,es,rfl,_⟩:=h;exact⟨_,rfl,rfl⟩
  |ro=>rcases h with⟨rfl,_⟩|⟨b,es,rfl,_⟩ <;> exact⟨_,rfl,rfl⟩
  |pr _ _=>rcases h with⟨rfl,_⟩|⟨b,es,rfl,_⟩ <;> exact⟨_,rfl,rfl⟩
 case fn f=>have h':cs=[.func (.func f) #[] #[]]:=h;subst h';exact⟨_,rfl,rfl⟩
 case ptr t=>
  cases x with
  |none=>simp only[Rep]at h;subst h;exact⟨_,rfl,rfl⟩
  |some x=>
  cases m with
  |own m=>obtain⟨b,c,e,rfl,_⟩:=h;exact⟨_,rfl,rfl⟩
  |ro=>obtain⟨a,rfl,_⟩:=h;exact⟨_,rfl,rfl⟩
  |pr _ _=>obtain⟨a,rfl,_⟩:=h;exact⟨_,rfl,rfl⟩
theorem tZ{α:Type}{R:α->List Value->af->Prop}(hR:∀ y c S,R y c S->∀ v∈c,v.oneCell'=true):∀ {x:List α} {cs:List Value} {S:af},bm R x cs S->∀ v∈cs,v.oneCell'=true:=by
 intro x
 induction x with
 |nil=>intro cs S h;cases h;simp
 |cons y ys ih=>
  rintro cs S ⟨c1,c2,S1,S2,rfl,h1,h2,_⟩ v hv
  grind
theorem pL{F:af}{w:World}:∀ (t:Ty) (m:Md) (x:t.T) (cs:List Value) (S:af),Rep F w t m x cs S->∀ v∈cs,v.oneCell'=true:=by
 intro t
 induction t with
 |unit=>intro m x cs S h;have h':cs=[]:=h;subst h';simp
 |jI=>rintro m x cs S ⟨z,rfl,hz⟩ v hv;simp at hv;subst hv;exact hz
 |pair a b iha ihb=>
  rintro m x cs S ⟨c1,c2,S1,S2,rfl,h1,h2,_⟩ v hv
  grind
 |st t ih=>intro m x cs S h;exact ih m x cs S h
 |arr n t ih=>rintro m x cs S ⟨_,h⟩;exact tZ (λy c S h=>ih m.el y c S h) h
 |int k=>intro m x cs S h v hv;obtain⟨z,rfl,hz⟩:=eW rfl h;simp at hv;subst hv;exact hz
 |bool=>intro m x cs S h v hv;obtain⟨z,rfl,hz⟩:=eW rfl h;simp at hv;subst hv;exact hz
 |str=>intro m x cs S h v hv;obtain⟨z,rfl,hz⟩:=eW rfl h;simp at hv;subst hv;exact hz
 |may t ih=>
  intro m x cs S h v hv
  cases x with
  |none=>obtain⟨z,rfl,hz⟩:=h;simp at hv;subst hv;exact hz
  |some x=>exact ih m x cs S h.1 v hv
 |fn f=>intro m x cs S h v hv;have h':cs=[.func (.func f) #[] #[]]:=h;subst h';simp at hv;subst hv;rfl
 |chan=>
  intro m x cs S h v hv
  cases m with
  |own m=>obtain⟨b,buf,s,r,rfl,_⟩:=h;simp at hv;subst hv;rfl
  |ro=>obtain⟨z,rfl,hz⟩:=h;simp at hv;subst hv;exact hz
  |pr _ _=>obtain⟨z,rfl,hz⟩:=h;simp at hv;subst hv;exact hz
 |nl t _=>intro m x cs S h v hv;obtain⟨z,rfl,hz⟩:=eW rfl h;simp at hv;subst hv;exact hz
 |map k e _ _=>intro m x cs S h v hv;obtain⟨z,rfl,hz⟩:=eW rfl h;simp at hv;subst hv;exact hz
 |hol t _=>
  intro m x cs S h v hv
  cases m with
  |own m=>obtain⟨_,a,cap,rfl,_⟩:=h;simp at hv;subst hv;rfl
  |ro=>obtain⟨z,rfl,hz⟩:=h;simp at hv;subst hv;exact hz
  |pr _ _=>obtain⟨z,rfl,hz⟩:=h;simp at hv;subst hv;exact hz
 |sl t _=>intro m x cs S h v hv;obtain⟨z,rfl,hz⟩:=eW rfl h;simp at hv;subst hv;exact hz
 |box t _=>intro m x cs S h v hv;obtain⟨z,rfl,hz⟩:=eW rfl h;simp at hv;subst hv;exact hz
 |ptr t _=>intro m x cs S h v hv;obtain⟨z,rfl,hz⟩:=eW rfl h;simp at hv;subst hv;exact hz
def dE:Md->Bool
 |.ro=>true
 |.own _=>false
 |.pr a b=>dE a&&dE b
theorem wC{m:Md}(h:dE m=true):dE m.fst=true:=by cases m <;> simp_all [dE,Md.fst]
theorem wD{m:Md}(h:dE m=true):dE m.snd=true:=by cases m <;> simp_all [dE,Md.snd]
theorem zB{m:Md}(h:dE m=true):m.el=.ro:=by cases m <;> simp_all [dE,Md.el]
theorem eI{F:af}{w:World}:∀ (t:Ty) (m:Md),dE m=true->∀ (x:t.T) (cs:List Value) (S S':af),Rep F w t m x cs S->Rep F w t .ro x cs S':=by
 intro t
 induction t with
 |int k=>intro m _ x cs S S' h;exact h
 |bool=>intro m _ x cs S S' h;exact h
 |str=>intro m _ x cs S S' h;exact h
 |unit=>intro m _ x cs S S' h;exact h
 |jI=>intro m _ x cs S S' h;exact h
 |hol t ih=>intro m hm x cs S S' h;cases m <;> first|exact h|simp[dE]at hm
 |chan=>intro m hm x cs S S' h;cases m <;> first|exact h|simp[dE]at hm
 |fn f=>intro m hm x cs S S' h;exact h
 |nl t _=>intro m hm x cs S S' h;exact h
 |map k v _ _=>intro m hm x cs S S' h;cases m <;> first|exact h|simp[dE]at hm
 |may t ih=>
  intro m hm x cs S S' h
  cases x with
  |none=>exact h
  |some x=>exact⟨ih m hm x cs S S' h.1,h.2⟩
 |pair a b iha ihb=>
  rintro m hm x cs S S' ⟨c1,c2,S1,S2,rfl,h1,h2,_⟩
  exact⟨c1,c2,af.none,af.none,rfl,iha _ (wC hm) _ _ _ _ h1,ihb _ (wD hm) _ _ _ _ h2,λ_ h=>h.elim,λ_ h=>h.elim,λ_ h=>h.elim⟩
 |st t ih=>intro m hm x cs S S' h;exact ih m hm x cs S S' h
 |arr n t ih=>
  rintro m hm x cs S S' ⟨hn,h⟩
  rw[zB hm]at h
  refine⟨hn,?_⟩
  clear hn
  induction x generalizing cs S S' with
  |nil=>exact h
  |cons y ys ihx=>
   obtain⟨c1,c2,S1,S2,rfl,h1,h2,_⟩:=h
   exact⟨c1,c2,af.none,af.none,rfl,ih .ro rfl _ _ _ _ h1,ihx _ _ _ h2,λ_ h=>h.elim,λ_ h=>h.elim,λ_ h=>h.elim⟩
 |sl t ih=>intro m hm x cs S S' h;cases m <;> first|exact h|simp[dE]at hm
 |box t ih=>intro m hm x cs S S' h;cases m <;> first|exact h|simp[dE]at hm
 |ptr t ih=>
  intro m hm x cs S S' h
  cases x with
  |none=>cases m <;> exact h
  |some x=>cases m <;> first|exact h|simp[dE]at hm
theorem iS{w:World}:∀ (π ρ:List Stp) (t:Ty) (cs:List Value) (s:Option (Nat×Nat)),resolve w t cs s (π++ρ)=(resolve w t cs s π).bind λp=>resolve w (atT t π) p.1 p.2 ρ:=by
 intro π
 induction π with
 |nil=>intro ρ t cs s;cases t <;> simp[resolve,atT]
 |cons p0 π ih=>
  intro ρ t cs s
  cases t <;> cases p0 <;> simp only[gx,resolve,atT,oa,ih]
  case sl.idx=>repeat' (first|rfl|split)
  case arr.ai=>repeat' (first|rfl|split)
  case box.deref=>repeat' (first|rfl|split)
  case ptr.deref=>repeat' (first|rfl|split)
def eS:List Stp->Bool
 |[]=>false
 |.idx _::_=>true
 |.deref::_=>true
 |_::π=>eS π
theorem pM{w:World}:∀ (π:List Stp) (t:Ty) (cs:List Value) (p:Nat×Nat) (ds:List Value) (s:Option (Nat×Nat)),resolve w t cs (some p) π=some (ds,s)->∃ q,s=some q:=by
 intro π
 induction π with
 |nil=>intro t cs p ds s h;cases t <;> (simp only[resolve,bh,Prod.mk.injEq]at h;exact⟨p,h.2.symm⟩)
 |cons p0 π ih=>
  intro t cs p ds s h
  cases t <;> cases p0 <;> simp only[resolve,reduceCtorEq]at h
  all_goals grind
theorem iM{w:World}:∀ (π:List Stp) (t:Ty) (cs:List Value) (s0:Option (Nat×Nat)) (ds:List Value) (s:Option (Nat×Nat)),eS π=true->resolve w t cs s0 π=some (ds,s)->∃ q,s=some q:=by
 intro π
 induction π with
 |nil=>intro t cs s0 ds s hc;simp[eS]at hc
 |cons p0 π ih=>
  intro t cs s0 ds s hc h
  cases t <;> cases p0 <;> simp only[resolve,reduceCtorEq]at h
  case st.st=>exact ih _ _ _ _ _ hc h
  case pair.fst=>exact ih _ _ _ _ _ hc h
  case pair.snd=>exact ih _ _ _ _ _ hc h
  case sl.idx=>(split at h <;> (try split at h) <;> first|exact pM _ _ _ _ _ _ h|cases h)
  case arr.ai=>(split at h <;> first|exact ih _ _ _ _ _ hc h|cases h)
  all_goals grind [pM]
theorem mL{w:World}:∀ (π:List Stp) (t:Ty) (cs cs2:List Value) (p:Nat×Nat) (ds:List Value) (s:Option (Nat×Nat)),short 1 π=true->resolve w t cs (some p) π=some (ds,s)->bc t cs2 (some p) π=s:=by
 intro π
 induction π with
 |nil=>intro t cs cs2 p ds s _ h;cases t <;> (simp only[resolve,bh,Prod.mk.injEq]at h;exact h.2)
 |cons p0 π ih=>
  intro t cs cs2 p ds s hs h
  cases t <;> cases p0 <;> simp only[resolve,reduceCtorEq]at h <;> simp only[short,ap]at hs
  case st.st=>exact ih _ _ _ _ _ _ hs h
  case pair.fst=>exact ih _ _ _ _ _ _ hs h
  case pair.snd=>exact ih _ _ _ _ _ _ hs h
  case arr.ai=>
   split at h
   ·rename_i hc;simp only[bc];rw[if_pos hc];exact ih _ _ _ _ _ _ hs h
   ·cases h
theorem sG{w:World}:∀ (π:List Stp) (t:Ty) (cs:List Value) (p:Nat×Nat) (ds:List Value),short 0 π=true->resolve w t cs none π=some (ds,some p)->bc t cs none π=some p:=by
 intro π
 induction π with
 |nil=>intro t cs p ds _ h;cases t <;> simp[resolve]at h
 |cons p0 π ih=>
  intro t cs p ds hs h
  cases t <;> cases p0 <;> simp only[resolve,reduceCtorEq,Option.map_none]at h <;> simp only[short]at hs
  case st.st=>exact ih _ _ _ _ hs h
  case pair.fst=>exact ih _ _ _ _ hs h
  case pair.snd=>exact ih _ _ _ _ hs h
  case sl.idx=>
   split at h
   ·split at h
    ·rename_i hc;simp only[bc];rw[if_pos hc];exact mL _ _ _ _ _ _ _ hs h
    ·cases h
   ·cases h
  case arr.ai=>
   split at h
   ·rename_i hc;simp only[bc];rw[if_pos hc];exact ih _ _ _ _ hs h
   ·cases h
  all_goals grind [bc,mL]
theorem mM:∀ (π ρ:List Stp) (t:Ty) (x:t.T),get? t x (π++ρ)=(get? t x π).bind λv=>get? v.t v.x ρ:=by
 intro π
 induction π with
 |nil=>intro ρ t x;rw[eV];rfl
 |cons p0 π ih=>
  intro ρ t x
  unfold get?
  cases t <;> cases p0 <;> simp only[gx,ft,oa]
  case st.st=>exact ih _ _ _
  case pair.fst=>exact ih _ _ _
  case pair.snd=>exact ih _ _ _
  case sl.idx=>(split <;> (try split) <;> first|exact ih _ _ _|rfl)
  case arr.ai=>(split <;> (try split) <;> first|exact ih _ _ _|rfl)
  case box.deref=>exact ih _ _ _
  case ptr.deref=>(split <;> first|exact ih _ _ _|rfl)
theorem eJ:∀ (π:List Stp) (t:Ty) (x:t.T) (v:V),get? t x π=some v->v.t=atT t π:=by
 intro π
 induction π with
 |nil=>intro t x v h;rw[eV]at h;injection h with h;subst h;cases t <;> rfl
 |cons p0 π ih=>
  intro t x v h
  unfold get? at h
  cases t <;> cases p0 <;> simp only[ft,reduceCtorEq]at h
  case st.st=>exact ih _ _ _ h
  case pair.fst=>exact ih _ _ _ h
  case pair.snd=>exact ih _ _ _ h
  case sl.idx=>(split at h <;> (try split at h) <;> first|exact ih _ _ _ h|cases h)
  case arr.ai=>(split at h <;> (try split at h) <;> first|exact ih _ _ _ h|cases h)
  case box.deref=>exact ih _ _ _ h
  case ptr.deref=>(split at h <;> first|exact ih _ _ _ h|cases h)
theorem ua:∀ (π ρ:List Stp) (t:Ty) (m:Md),du t m (π++ρ)=(du t m π&&du (atT t π) (atM t m π) ρ):=by
 intro π
 induction π with
 |nil=>intro ρ t m;cases t <;> simp[du,atT,atM]
 |cons p0 π ih=>
  intro ρ t m
  cases t <;> cases p0 <;> simp only[gx,du,atT,atM,ih,oj,dA]
def QJ(F:af)(w:World)(t:Ty)(m:Md)(x:t.T)(cs:List Value)(S:af)(π:List Stp)(u:Ty)(ds:List Value)(p o:Nat)(S':af):Prop:=
 S p/\¬S' p/\rq w p o ds/\
  ∀ F' w' y' es R x' m' mr,pK t m π m' mr->Sub F F'->jM t x π u y'=some x'->Rep F' w' u m' y' es R->es.length=ds.length->(∀ k,R k->S k->S' k)->
   (∀ k,S k->¬S' k->k≠p->w'.heap[k]?=w.heap[k]?)->Upd w w' p o ds es->(∀ k,F k->w'.heap[k]?=w.heap[k]?)->
   Rep F' w' t mr x' cs (λk=>(S k/\¬S' k)\/R k)
def rz{R:Type}:V->(V->Option R)->Option R
 |⟨.box t,x⟩,K=>K ⟨t,x⟩
 |⟨.ptr t,x⟩,K=>match(x:Option t.T)with
  |some y=>K ⟨t,y⟩
  |none=>none
 |_,_=>none
def plc{R:Type}(σ:St)(e:ar)(K:Nat->Lab->List Stp->V->Option R):Option R:=
 match e with
 |.adr l n π c=>match σ.L l with
  |some b=>bif eS π then(bif Nat.beq n b.v then K l b π c else bif short 0 π&&du b.t b.m π then ft b.t b.x π λu y=>K l b π ⟨u,y⟩else none)else none
  |none=>none
 |.hdr l n π c=>match σ.L l with
  |some b=>bif du b.t b.m (π++[.deref])then(bif Nat.beq n b.v then rz c λq=>K l b (π++[.deref]) q else bif π.isEmpty then rz ⟨b.t,b.x⟩ λq=>K l b (π++[.deref]) q else none)else none
  |none=>none
 |_=>none
section
variable {P:Program} {B:dD} {F:af} {Sg:Nat->af} {cg:Nat->List Value} {σ:St} {a:Act} {w:World}
theorem Iu(h:aP B F Sg cg σ a w){l:Nat}{b:Lab}(hl:σ.L l=some b){π:List Stp}(hc:eS π=true){u:Ty}{y:u.T}(hg:get? b.t b.x π=some ⟨u,y⟩)(ho:du b.t b.m π=true):
 ∃ ds p o S',resolve w b.t (cg l) none π=some (ds,some (p,o))/\Rep F w u (atM b.t b.m π) y ds S'/\Sub S' (Sg l)/\QJ F w b.t b.m b.x (cg l) (Sg l) π u ds p o S':=by
 obtain⟨ds,s',S',h1,h2,h3,h4⟩:=focus F w π b.t b.m b.x (cg l) (Sg l) none u y (h.lab l b hl) hg ho
 obtain⟨⟨p,o⟩,rfl⟩:=iM _ _ _ _ _ _ hc h1
 rcases h4 with⟨_,_,_,h5,_⟩|⟨p',o',h5,h6⟩
 ·simp at h5
 ·injection h5 with h5
  injection h5 with h5 h7
  subst h5;subst h7
  exact⟨ds,p,o,S',h1,h2,h3,h6⟩
theorem fx(w:World)(t:Ty)(cs:List Value)(s:Option (Nat×Nat)):resolve w t cs s []=some (cs,s):=by cases t <;> rfl
theorem o8(π:List Stp):eS (π++[.deref])=true:=by
 induction π with
 |nil=>rfl
 |cons p π ih=>cases p <;> first|rfl|exact ih
theorem wF{R:Type}{c:V}{K:V->Option R}{r:R}(h:rz c K=some r):∃ q,K q=some r/\get? c.t c.x [.deref]=some q/\(c.t=.box q.t\/c.t=.ptr q.t):=by
 unfold rz at h
 split at h
 ·rename_i t x;exact⟨⟨t,x⟩,h,by cases t <;> rfl,.inl rfl⟩
 ·rename_i t x
  split at h
  ·rename_i y;exact⟨⟨t,y⟩,h,by cases t <;> rfl,.inr rfl⟩
  ·cases h
 ·cases h
theorem Iv{t:Ty}{q:Ty}(ht:t=.box q\/t=.ptr q){cs:List Value}{s:Option (Nat×Nat)}{v:Value}(hv:VR t cs v){ds:List Value}{p o:Nat}(hr:resolve w t cs s [.deref]=some (ds,some (p,o))):v=.pointer (some ⟨p,o,none⟩):=by
 rcases ht with rfl|rfl
 ·simp only[resolve]at hr
  split at hr
  ·injection hr with hr
   injection hr with _ hr
   injection hr with hr
   injection hr with q1 q2
   subst q1;subst q2
   simp[VR,Ty.agg]at hv
   exact hv.1.symm
  ·cases hr
 ·simp only[resolve]at hr
  split at hr
  ·injection hr with hr
   injection hr with _ hr
   injection hr with hr
   injection hr with q1 q2
   subst q1;subst q2
   simp[VR,Ty.agg]at hv
   exact hv.1.symm
  ·cases hr
theorem rA(h:aP B F Sg cg σ a w){R:Type}{e:ar}{K:Nat->Lab->List Stp->V->Option R}{r:R}(hk:plc σ e K=some r){v:Value}(he:aF F w σ.L σ.U cg e v):
 ∃ l b π c,σ.L l=some b/\K l b π c=some r/\eS π=true/\get? b.t b.x π=some c/\du b.t b.m π=true/\
  ∃ ds p o S',v=.pointer (some ⟨p,o,none⟩)/\resolve w b.t (cg l) none π=some (ds,some (p,o))/\Rep F w c.t (atM b.t b.m π) c.x ds S'/\Sub S' (Sg l)/\QJ F w b.t b.m b.x (cg l) (Sg l) π c.t ds p o S':=by
 unfold plc at hk
 split at hk
 ·rename_i l n π c
  cases hl:σ.L l with
  |none=>rw[hl]at hk;cases hk
  |some b=>
   rw[hl]at hk
   simp only at hk
   cases hc:eS π
   ·rw[hc]at hk;cases hk
   rw[hc]at hk
   simp only[cond_true]at hk
   obtain⟨hu,he2⟩:=he
   obtain⟨_,h1,h2⟩:=he2 b hl
   cases hn:Nat.beq n b.v
   ·rw[hn]at hk
    simp only[cond_false]at hk
    cases hs:short 0 π&&du b.t b.m π
    ·rw[hs]at hk;cases hk
    rw[hs]at hk
    simp only[cond_true]at hk
    simp only[ag]at hs
    rw[gD]at hk
    obtain⟨c',hg,hk⟩:=b9.1 hk
    obtain⟨ds,p,o,S',h3,h4,h5,h6⟩:=Iu h hl hc hg hs.2
    exact⟨l,b,π,c',hl,hk,hc,hg,hs.2,ds,p,o,S',h1 hs.1 _ _ (sG _ _ _ _ _ hs.1 h3),h3,h4,h5,h6⟩
   ·rw[hn]at hk
    simp only[cond_true]at hk
    obtain⟨h3,hg,h4⟩:=h2 (bI hn)
    obtain⟨ds,p,o,S',h5,h6,h7,h8⟩:=Iu h hl hc hg h3
    exact⟨l,b,π,c,hl,hk,hc,hg,h3,ds,p,o,S',h4 _ _ _ h5,h5,h6,h7,h8⟩
 ·rename_i l n π c
  cases hl:σ.L l with
  |none=>rw[hl]at hk;cases hk
  |some b=>
   rw[hl]at hk
   simp only at hk
   cases ho:du b.t b.m (π++[.deref])
   ·rw[ho]at hk;cases hk
   rw[ho]at hk
   simp only[cond_true]at hk
   obtain⟨hu,he2⟩:=he
   obtain⟨_,h1,h2⟩:=he2 b hl
   have fin:∀ (c:V) (q:V),get? b.t b.x π=some c->get? c.t c.x [.deref]=some q->(c.t=.box q.t\/c.t=.ptr q.t)->(∀ ds s,resolve w b.t (cg l) none π=some (ds,s)->VR c.t ds v)->K l b (π++[.deref]) q=some r->
    ∃ l b π c,σ.L l=some b/\K l b π c=some r/\eS π=true/\get? b.t b.x π=some c/\du b.t b.m π=true/\
   ∃ ds p o S',v=.pointer (some ⟨p,o,none⟩)/\resolve w b.t (cg l) none π=some (ds,some (p,o))/\Rep F w c.t (atM b.t b.m π) c.x ds S'/\Sub S' (Sg l)/\QJ F w b.t b.m b.x (cg l) (Sg l) π c.t ds p o S':=by
    intro c q hg hq ht hv hk
    have hg2:get? b.t b.x (π++[.deref])=some q:=by rw[mM,hg];exact hq
    obtain⟨ds,p,o,S',h5,h6,h7,h8⟩:=Iu h hl (o8 π) hg2 ho
    refine⟨l,b,π++[.deref],q,hl,hk,o8 π,hg2,ho,ds,p,o,S',?_,h5,h6,h7,h8⟩
    rw[iS]at h5
    obtain⟨⟨ds1,s1⟩,hr1,hr2⟩:=b9.1 h5
    have e1:=eJ _ _ _ _ hg
    rw[<-e1]at hr2
    exact Iv ht (hv _ _ hr1) hr2
   cases hn:Nat.beq n b.v
   ·rw[hn]at hk
    simp only[cond_false]at hk
    cases hp:π.isEmpty
    ·rw[hp]at hk;cases hk
    rw[hp]at hk
    simp only[cond_true]at hk
    have:π=[]:=by cases π <;> simp_all
    subst this
    obtain⟨q,hk,hq,ht⟩:=wF hk
    refine fin ⟨b.t,b.x⟩ q (eV _ _) hq ht (λds s hr=>?_) hk
    rw[fx]at hr
    injection hr with hr
    injection hr with hr _
    subst hr
    exact h1 rfl
   ·rw[hn]at hk
    simp only[cond_true]at hk
    obtain⟨h3,hg,h4⟩:=h2 (bI hn)
    obtain⟨q,hk,hq,ht⟩:=wF hk
    refine fin c q hg hq ht (λds s hr=>?_) hk
    rw[eJ _ _ _ _ hg]
    exact h4 _ _ hr
 ·cases hk
theorem Mw{b o:Nat}{ds:List Value}(h:rq w b o ds):At w ⟨b,o,none⟩ ds:=by
 obtain⟨c,e,hb,l,r,hc,hl⟩:=h
 intro j v hj
 rw[cQ]
 have hjl:j<ds.length:=(List.getElem?_eq_some_iff.1 hj).1
 have:c.toList[o+j]?=some v:=by
  rw[hc,<-hl,aT,List.getElem?_append_right (by omega),Nat.add_sub_cancel_left,List.getElem?_append_left hjl]
  exact hj
 simp[World.cell?,hb]
 simpa using this
theorem ov{t:TypeId}{d:TD}(hd:TOk P t d):(isAgg t).run P w=.ok d.ty.agg w:=by
 rw[hd.agg]
 have:=hd.desc
 unfold isAgg
 cases hk:d.kd <;> rw[hk]at this <;> simp only at this
 case int k=>simp[run_underlying this.1,TK.agg]
 case bool=>simp[run_underlying this.1,TK.agg]
 case str=>simp[run_underlying this.1,TK.agg]
 case slice e=>simp[run_underlying this,TK.agg]
 case array n e=>simp[run_underlying this,TK.agg]
 case struct fs=>obtain⟨f,h1,_⟩:=this;simp[run_underlying h1,TK.agg]
 case pointer e=>simp[run_underlying this,TK.agg]
 case chan e=>obtain⟨dir,h1⟩:=this;simp[run_underlying h1,TK.agg]
 case map k e=>simp[run_underlying this,TK.agg]
 case other=>
  obtain⟨q,h1,h2,h3⟩:=this
  simp only[ba,run_underlying h1,bw,TK.agg]
  cases q <;> first|rfl|exact absurd rfl (h2 _)|exact absurd rfl (h3 _ _)
theorem run_sizeOf{t:TypeId}{d:TD}(hd:TOk P t d):(sizeOf t).run P w=.ok d.ty.width w:=by
 obtain⟨i,z,h1,h2,_⟩:=hd.vS
 simp[sizeOf,typeInfo,h1,h2]
theorem sH{t:TypeId}{d:TD}(hd:TOk P t d){ad:Addr}{ds:List Value}(hat:At w ad ds)(hl:ds.length=d.ty.width)(hv:d.ty.agg=true\/∃ z,ds=[z]/\z.oneCell'=true):
 ∃ z,(Instr.loadAt t (.pointer (some ad))).run P w=.ok z w/\VR d.ty ds z:=by
 unfold Instr.loadAt loadVar
 cases ha:d.ty.agg
 ·rcases hv with hv|⟨z,rfl,hz⟩
  ·rw[ha]at hv;cases hv
  have h0:=hat 0 z rfl
  rw[Addr.add_zero']at h0
  refine⟨z,?_,by simp[VR,ha,hz]⟩
  simp[Instr.sureAddr,ov hd,ha,go_sem,h0]
 ·refine⟨.agg ds.toArray,?_,by simp[VR,ha]⟩
  have:=run_loadCells_list (P:=P) w ad ds hat
  rw[hl]at this
  simp[Instr.sureAddr,ov hd,ha,run_sizeOf hd,this]
theorem kU{t:Ty}(ht:t.vty=true){m:Md}{x:t.T}{cs:List Value}{S:af}(h:Rep F w t m x cs S):t.agg=true\/∃ z,cs=[z]/\z.oneCell'=true:=by
 unfold Ty.vty at ht
 simp only[aJ]at ht
 rcases ht with ht|ht
 ·exact .inr (eW ht h)
 ·exact .inl ht
def pN{R:Type}(e:ar)(K:(t:Ty)->t.T->Option R):Option R:=
 match e with
 |.kT t x=>K t x
 |.val (.box t) x=>K t x
 |.val (.ptr t) x=>match(x:Option t.T)with
  |some y=>K t y
  |none=>none
 |_=>none
theorem pO{R:Type}{L:Nat->Option Lab}{U:Nat->Bool}{e:ar}{K:(t:Ty)->t.T->Option R}{r:R}(h:pN e K=some r){v:Value}(he:aF F w L U cg e v):
 ∃ t x ad ds,K t x=some r/\v=.pointer (some ad)/\F ad.block/\At w ad ds/\Rep F w t .ro x ds af.none:=by
 unfold pN at h
 split at h
 ·rename_i t x
  obtain⟨ad,ds,h1,h2,h3,h4⟩:=he
  exact⟨t,x,ad,ds,h,h1,h2,h3,h4⟩
 ·rename_i t x
  obtain⟨cs,h1,h2⟩:=he
  obtain⟨ad,rfl,h3,ds,h4,h5⟩:=h1
  simp[VR,Ty.agg]at h2
  exact⟨t,x,ad,ds,h,h2.1.symm,h3,h4,h5⟩
 ·rename_i t x
  split at h
  ·rename_i y
   obtain⟨cs,h1,h2⟩:=he
   obtain⟨ad,rfl,h3,ds,h4,h5⟩:=h1
   simp[VR,Ty.agg]at h2
   exact⟨t,y,ad,ds,h,h2.1.symm,h3,h4,h5⟩
  ·cases h
 ·cases h
def Mx(c:V)(l:Nat)(b:Lab)(π:List Stp):ar:=bif c.t.flat||dE (atM b.t b.m π)then .val c.t c.x else .hdr l b.v π c
def ar.owned:ar->Bool
 |.adr ..=>true
 |.hdr ..=>true
 |_=>false
def ub{R:Type}(d:TD)(σ:St)(e:ar)(K:ar->Option R):Option R:=
 bif d.ty.vty then
  (bif e.owned then plc σ e λl b π c=>bif decide (c.t=d.ty)then K (Mx c l b π)else none
  else pN e λt x=>bif decide (t=d.ty)then K (.val t x)else none)
 else none
theorem D3(h:aP B F Sg cg σ a w){l:Nat}{b:Lab}(hl:σ.L l=some b){π:List Stp}{c:V}(hg:get? b.t b.x π=some c)(ho:du b.t b.m π=true){ds:List Value}{s:Option (Nat×Nat)}{S':af}(hr:resolve w b.t (cg l) none π=some (ds,s))(bF:Rep F w c.t (atM b.t b.m π) c.x ds S'){z:Value}(hz:VR c.t ds z):
 aF F w σ.L σ.U cg (Mx c l b π) z:=by
 unfold Mx
 cases hc:c.t.flat||dE (atM b.t b.m π)
 ·refine⟨h.used l b hl,λb' hb'=>?_⟩
  rw[hl]at hb'
  injection hb' with hb'
  subst hb'
  have ht:c.t=atT b.t π:=eJ _ _ _ _ hg
  refine⟨aw _,?_,λ_=>⟨ho,hg,λds' s' hr'=>?_⟩⟩
  ·rintro rfl
   rw[fx]at hr
   injection hr with hr
   injection hr with hr _
   subst hr
   have e2:atT b.t []=b.t:=by cases b.t <;> rfl
   rw[e2]at ht
   rw[<-ht]
   exact hz
  ·rw[hr]at hr'
   injection hr' with hr'
   injection hr' with hr' _
   subst hr'
   rw[<-ht]
   exact hz
 ·simp only[aJ]at hc
  refine⟨ds,?_,hz⟩
  rcases hc with hc|hc
  ·exact kS c.t hc _ _ _ _ _ _ bF
  ·exact eI c.t _ hc _ _ _ _ bF
theorem zC(h:aP B F Sg cg σ a w){R:Type}{t:TypeId}{d:TD}(hd:TOk P t d){e:ar}{K:ar->Option R}{r:R}(hk:ub d σ e K=some r){v:Value}(he:aF F w σ.L σ.U cg e v):
 ∃ e' z,K e'=some r/\(Instr.loadAt t v).run P w=.ok z w/\aF F w σ.L σ.U cg e' z:=by
 unfold ub at hk
 cases hvt:d.ty.vty
 ·rw[hvt]at hk;cases hk
 rw[hvt]at hk
 simp only[cond_true]at hk
 cases uc:e.owned
 ·rw[uc]at hk
  simp only[cond_false]at hk
  obtain⟨t',x,ad,ds,hk,rfl,h2,h3,h4⟩:=pO hk he
  cases hud:decide (t'=d.ty)
  ·rw[hud]at hk;cases hk
  rw[hud]at hk
  simp only[cond_true]at hk
  have hud:=of_decide_eq_true hud
  subst hud
  obtain⟨z,h5,h6⟩:=sH hd h3 (aQ _ _ _ _ _ _ _ h4) (kU hvt h4)
  exact⟨_,z,hk,h5,ds,h4,h6⟩
 ·rw[uc]at hk
  simp only[cond_true]at hk
  obtain⟨l,b,π,c,hl,hk,hc,hg,ho,ds,p,o,S',rfl,h1,h2,h3,h4⟩:=rA h hk he
  cases hud:decide (c.t=d.ty)
  ·rw[hud]at hk;cases hk
  rw[hud]at hk
  simp only[cond_true]at hk
  have hud:=of_decide_eq_true hud
  have hw:=aQ _ _ _ _ _ _ _ h2
  have hvc:=kU (by rw[hud];exact hvt) h2
  rw[hud]at hw hvc
  obtain⟨z,h5,h6⟩:=sH hd (Mw h4.2.2.1) hw hvc
  rw[<-hud]at h6
  exact⟨_,z,hk,h5,D3 h hl hg ho h1 h2 h6⟩
end
def xH(n f:Nat):List Stp:=.st::(List.replicate f .snd++bif Nat.blt (f+1) n then [.fst]else [])
def bo:Ty->List Stp->Option Nat
 |_,[]=>some 0
 |.st t,.st::π=>bo t π
 |.pair a _,.fst::π=>bo a π
 |.pair a b,.snd::π=>match bo b π with|some k=>some (a.width+k)|none=>none
 |.arr _ t,.ai i::π=>match bo t π with|some k=>some (i.toNat*t.width+k)|none=>none
 |_,_::_=>none
theorem pn{w:World}:∀ (π:List Stp) (t:Ty) (cs:List Value) (p o k:Nat) (ds:List Value) (s:Option (Nat×Nat)),bo t π=some k->resolve w t cs (some (p,o)) π=some (ds,s)->s=some (p,o+k):=by
 intro π
 induction π with
 |nil=>
  intro t cs p o k ds s hk h;rw[fx]at h;have:k=0:=by cases t <;> simp[bo]at hk <;> exact hk.symm
  subst this;injection h with h;injection h with _ h;exact h.symm
 |cons p0 π ih=>
  intro t cs p o k ds s hk h
  cases t <;> cases p0 <;> simp only[resolve,reduceCtorEq]at h <;> simp only[bo,reduceCtorEq]at hk
  all_goals grind
theorem add_add(a:Addr)(k j:Nat):(a.add k).add j=a.add (k+j):=by
 unfold Addr.add
 grind
theorem At.part{w:World}{ad:Addr}{pre ds post:List Value}(h:At w ad (pre++ds++post)):At w (ad.add pre.length) ds:=by
 intro j v hj
 rw[add_add]
 apply h
 grind
theorem wH{F:af}{w:World}:∀ (π:List Stp) (t:Ty) (x:t.T) (ad:Addr) (ds:List Value) (k:Nat) (c:V),bo t π=some k->get? t x π=some c->At w ad ds->Rep F w t .ro x ds af.none->∃ ds',At w (ad.add k) ds'/\Rep F w c.t .ro c.x ds' af.none:=by
 intro π
 induction π with
 |nil=>
  intro t x ad ds k c hk hg h hr
  rw[eV]at hg
  grind [bo,Addr.add_zero']
 |cons p0 π ih=>
  intro t x ad ds k c hk hg h hr
  unfold get? at hg
  cases t <;> cases p0 <;> simp only[ft,reduceCtorEq]at hg <;> simp only[bo,reduceCtorEq]at hk
  case st.st=>exact ih _ _ _ _ _ _ hk hg h hr
  case pair.fst a b=>
   obtain⟨c1,c2,S1,S2,rfl,h1,h2,_⟩:=hr
   exact ih _ _ ad c1 _ _ hk hg (by have:=At.part (pre:=[]) (ds:=c1) (post:=c2) (by simpa using h);rw[bn,Addr.add_zero']at this;exact this) (eI a _ rfl _ _ _ _ h1)
  case pair.snd a b=>
   obtain⟨c1,c2,S1,S2,rfl,h1,h2,_⟩:=hr
   split at hk
   ·rename_i k' hk'
    injection hk with hk
    subst hk
    have hp:=At.part (pre:=c1) (ds:=c2) (post:=[]) (by simpa using h)
    rw[aQ _ _ _ _ _ _ _ h1]at hp
    rw[<-add_add]
    exact ih _ _ _ c2 _ _ hk' hg hp (eI b _ rfl _ _ _ _ h2)
   ·cases hk
  case arr.ai n t i=>
   split at hg
   ·cases hz:(x:List t.T)[i.toNat]? with
    |none=>rw[hz]at hg;simp at hg
    |some z=>
     rw[hz]at hg
     split at hk
     ·rename_i k' hk'
      injection hk with hk
      subst hk
      obtain⟨d,T,pre,post,hd,t1,rfl,hp,_⟩:=bm.focus (λy c S h=>aQ F w t _ y c S h) hz hr.2
      have hp2:=At.part h
      rw[hp]at hp2
      rw[<-add_add]
      exact ih _ _ _ d _ _ hk' hg hp2 (eI t _ rfl _ _ _ _ hd)
     ·cases hk
   ·cases hg
section
variable {P:Program} {B:dD} {F:af} {Sg:Nat->af} {cg:Nat->List Value} {σ:St} {a:Act} {w:World}
theorem Cn(h:aP B F Sg cg σ a w){l:Nat}{b:Lab}(hl:σ.L l=some b){π:List Stp}{c:V}(hcr:eS π=true)(hg:get? b.t b.x π=some c)(ho:du b.t b.m π=true){p o:Nat}
 (hr:∀ ds s,resolve w b.t (cg l) none π=some (ds,s)->s=some (p,o)):aF F w σ.L σ.U cg (.adr l b.v π c) (.pointer (some ⟨p,o,none⟩)):=by
 obtain⟨ds,p',o',S',h1,_⟩:=Iu h hl hcr hg ho
 have e1:=hr _ _ h1
 injection e1 with e1
 injection e1 with e1 e2
 subst e1;subst e2
 refine⟨h.used l b hl,λb' hb'=>?_⟩
 rw[hl]at hb'
 injection hb' with hb'
 subst hb'
 refine⟨aw _,λhs p2 o2 hr2=>?_,λ_=>⟨ho,hg,λds2 p2 o2 hr2=>?_⟩⟩
 all_goals grind [sG]
theorem zD(π:List Stp)(i:Int):eS (π++[.idx i])=true:=by
 induction π with
 |nil=>rfl
 |cons p π ih=>cases p <;> first|rfl|exact ih
theorem sI{π ρ:List Stp}(h:eS π=true):eS (π++ρ)=true:=by
 induction π with
 |nil=>simp[eS]at h
 |cons p π ih=>cases p <;> first|rfl|exact ih h
theorem lJ:∀ (φ:List Stp) (t:Ty) (m:Md) (k:Nat),bo t φ=some k->du t m φ=true:=by
 intro φ
 induction φ with
 |nil=>intro t m k _;cases t <;> rfl
 |cons p φ ih=>
  intro t m k h
  cases t <;> cases p <;> simp only[bo,reduceCtorEq]at h <;> simp only[du]
  all_goals grind
abbrev Tab:=TypeId->Option TD
def cK(P:Program)(TT:Tab):Prop:=∀ t d,TT t=some d->TOk P t d
def zE{R:Type}(TT:Tab)(s f:Nat)(K:TD->Nat->List Stp->TD->Option R):Option R:=
 match TT s with
 |none=>none
 |some d=>match d.kd with
  |.struct fs=>match fs[f]? with
   |none=>none
   |some q=>match TT q.1 with
    |none=>none
    |some df=>bif Nat.beq df.ty.width 0 then none else
     match bo d.ty (xH fs.length f)with
     |none=>none
     |some k=>bif Nat.beq k q.2 then K d k (xH fs.length f) df else none
  |_=>none
theorem xI{R:Type}{TT:Tab}(hT:cK P TT){s f:Nat}{K:TD->Nat->List Stp->TD->Option R}{r:R}(h:zE TT s f K=some r):
 ∃ d k φ df fields fl,K d k φ df=some r/\TOk P s d/\bo d.ty φ=some k/\P.underlying s=some (.struct fields)/\fields[f]?=some fl/\fl.offset=k/\TOk P fl.type df/\df.ty.width≠0:=by
 unfold zE at h
 cases h1:TT s with
 |none=>rw[h1]at h;cases h
 |some d=>
  rw[h1]at h
  simp only at h
  have hd:=hT s d h1
  split at h
  ·rename_i fs hk
   cases h2:fs[f]? with
   |none=>rw[h2]at h;cases h
   |some q=>
    rw[h2]at h
    simp only at h
    cases h3:TT q.1 with
    |none=>rw[h3]at h;cases h
    |some df=>
     rw[h3]at h
     simp only at h
     cases h4:Nat.beq df.ty.width 0
     ·rw[h4]at h
      simp only[cond_false]at h
      cases h5:bo d.ty (xH fs.length f)with
      |none=>rw[h5]at h;cases h
      |some k=>
       rw[h5]at h
       simp only at h
       cases h6:Nat.beq k q.2
       ·simp_all
       rw[h6]at h
       simp only[cond_true]at h
       have hds:=hd.desc
       rw[hk]at hds
       simp only at hds
       obtain⟨fields,hu,hf⟩:=hds
       have hq:(fields.toList.map (λx=>(x.type,x.offset)))[f]?=some q:=by rw[hf];exact h2
       rw[List.getElem?_map]at hq
       obtain⟨fl,hfl,hq⟩:=Option.map_eq_some_iff.1 hq
       subst hq
       refine⟨d,k,_,df,fields,fl,h,hd,h5,hu,by simpa using hfl,(bI h6).symm,hT _ _ h3,λh0=>?_⟩
       rw[h0]at h4
       cases h4
     ·rw[h4]at h;cases h
  ·cases h
def Iw(o:Option Nat)(k:Nat):Bool:=match o with|some k'=>Nat.beq k' k|none=>false
theorem Ix{o:Option Nat}{k:Nat}(h:Iw o k=true):o=some k:=by
 cases o with
 |none=>cases h
 |some k'=>rw[bI h]
def jO{R:Type}(TT:Tab)(σ:St)(s:TypeId)(e:ar)(f:Nat)(K:ar->Option R):Option R:=
 zE TT s f λd k φ df=>
  bif e.owned then plc σ e λl b π c=>bif Iw (bo c.t φ) k then ft c.t c.x φ λu y=>K (.adr l b.v (π++φ) ⟨u,y⟩)else none
  else pN e λt x=>bif decide (t=d.ty)then ft t x φ λu y=>bif decide (u=df.ty)then K (.kT u y)else none else none
theorem vV(h:aP B F Sg cg σ a w){R:Type}{TT:Tab}(hT:cK P TT){s:TypeId}{f:Nat}{e:ar}{K:ar->Option R}{r:R}(hk:jO TT σ s e f K=some r){v:Value}(he:aF F w σ.L σ.U cg e v):
 ∃ e' z,K e'=some r/\(Instr.fieldAt s v f).run P w=.ok z w/\aF F w σ.L σ.U cg e' z:=by
 obtain⟨d,k,φ,df,fields,fl,hk,hd,hin,hu,hfl,My,hdf,hw0⟩:=xI hT hk
 have bX:∀ ad:Addr,(Instr.fieldAt s (.pointer (some ad)) f).run P w=.ok (.pointer (some (ad.add k))) w:=by
  intro ad
  simp[Instr.fieldAt,run_underlying hu,hfl,Instr.sureAddr,fieldPlace,run_sizeOf hdf,hw0,My]
 cases uc:e.owned
 ·rw[uc]at hk
  simp only[cond_false]at hk
  obtain⟨t',x,ad,ds,hk,rfl,h2,h3,h4⟩:=pO hk he
  cases hud:decide (t'=d.ty)
  ·simp_all
  rw[hud]at hk
  simp only[cond_true]at hk
  have hud:=of_decide_eq_true hud
  subst hud
  rw[gD]at hk
  obtain⟨c,hg,hk⟩:=b9.1 hk
  cases hud:decide (c.t=df.ty)
  ·simp_all
  rw[hud]at hk
  simp only[cond_true]at hk
  obtain⟨ds',h5,h6⟩:=wH _ _ _ _ _ _ _ hin hg h3 h4
  exact⟨_,_,hk,bX ad,_,ds',rfl,by rw[jE];exact h2,h5,h6⟩
 ·rw[uc]at hk
  simp only[cond_true]at hk
  obtain⟨l,b,π,c,hl,hk,hc,hg,ho,ds,p,o,S',rfl,h1,h2,h3,h4⟩:=rA h hk he
  cases hud:Iw (bo c.t φ) k
  ·simp_all
  rw[hud]at hk
  simp only[cond_true]at hk
  rw[gD]at hk
  obtain⟨c',hg',hk⟩:=b9.1 hk
  have FR:bo c.t φ=some k:=Ix hud
  have hat:=eJ _ _ _ _ hg
  refine⟨_,_,hk,?_,Cn h hl (sI hc) (by rw[mM,hg];exact hg') (by rw[ua,ho,<-hat,lJ _ _ _ _ FR];rfl) (p:=p) (o:=o+k) (λds2 s2 hr=>?_)⟩
  ·rw[bX,cQ]
  ·rw[iS,h1]at hr
   simp only[ig]at hr
   rw[<-hat]at hr
   exact pn _ _ _ _ _ _ _ _ FR hr
def kV{R:Type}(σ:St)(e:ar)(K:Nat->Lab->List Stp->V->Option R):Option R:=
 match e with
 |.hdr l n π c=>match σ.L l with
  |some b=>bif Nat.beq n b.v then K l b π c else bif π.isEmpty then K l b [] ⟨b.t,b.x⟩else none
  |none=>none
 |_=>none
theorem fJ(h:aP B F Sg cg σ a w){R:Type}{e:ar}{K:Nat->Lab->List Stp->V->Option R}{r:R}(hk:kV σ e K=some r){v:Value}(he:aF F w σ.L σ.U cg e v):
 ∃ l b π c,σ.L l=some b/\K l b π c=some r/\get? b.t b.x π=some c/\du b.t b.m π=true/\
  ∃ ds s S',resolve w b.t (cg l) none π=some (ds,s)/\Rep F w c.t (atM b.t b.m π) c.x ds S'/\Sub S' (Sg l)/\Foc F w b.t b.m b.x (cg l) (Sg l) none π c.t ds s S'/\VR c.t ds v:=by
 unfold kV at hk
 split at hk
 ·rename_i l n π c
  cases hl:σ.L l with
  |none=>rw[hl]at hk;cases hk
  |some b=>
   rw[hl]at hk
   simp only at hk
   obtain⟨hu,he2⟩:=he
   obtain⟨_,h1,h2⟩:=he2 b hl
   cases hn:Nat.beq n b.v
   ·rw[hn]at hk
    simp only[cond_false]at hk
    cases hp:π.isEmpty
    ·simp_all
    rw[hp]at hk
    simp only[cond_true]at hk
    have:π=[]:=by cases π <;> simp_all
    subst this
    have ho:du b.t b.m []=true:=by cases b.t <;> rfl
    obtain⟨ds,s,S',h3,h4,h5,h6⟩:=focus F w [] b.t b.m b.x (cg l) (Sg l) none b.t b.x (h.lab l b hl) (eV _ _) ho
    refine⟨l,b,[],⟨b.t,b.x⟩,hl,hk,eV _ _,ho,ds,s,S',h3,h4,h5,h6,?_⟩
    grind [fx]
   ·rw[hn]at hk
    simp only[cond_true]at hk
    obtain⟨h3,hg,h4⟩:=h2 (bI hn)
    obtain⟨ds,s,S',h5,h6,h7,h8⟩:=focus F w π b.t b.m b.x (cg l) (Sg l) none c.t c.x (h.lab l b hl) hg h3
    refine⟨l,b,π,c,hl,hk,hg,h3,ds,s,S',h5,h6,h7,h8,?_⟩
    rw[eJ _ _ _ _ hg]
    exact h4 _ _ h5
 ·cases hk
def jP(e:ar){R:Type}(K:Int->Option R):Option R:=
 match e with
 |.val (.int _) i=>K i
 |_=>none
def gl{R:Type}(TT:Tab)(σ:St)(t:TypeId)(ex ei:ar)(K:ar->Option R):Option R:=
 jP ei λi=>
 match TT t with
 |none=>none
 |some d=>match d.kd with
  |.slice e=>match TT e with
   |none=>none
   |some de=>match ex with
    |.val (.sl t') xs=>bif decide (t'=de.ty)then(if 0<=i then(match(xs:List t'.T)[i.toNat]? with|some y=>K (.kT t' y)|none=>none)else none)else none
    |.hdr ..=>kV σ ex λl b π c=>bif decide (c.t=.sl de.ty)&&du b.t b.m (π++[.idx i])then ft c.t c.x [.idx i] λu y=>K (.adr l b.v (π++[.idx i]) ⟨u,y⟩)else none
    |_=>none
  |.array n e=>match TT e with
   |none=>none
   |some de=>
    bif ex.owned then plc σ ex λl b π c=>bif decide (c.t=.arr n de.ty)then ft c.t c.x [.ai i] λu y=>K (.adr l b.v (π++[.ai i]) ⟨u,y⟩)else none
    else pN ex λt' x=>bif decide (t'=.arr n de.ty)then ft t' x [.ai i] λu y=>K (.kT u y)else none
  |_=>none
theorem run_indexAt_slice{t e:TypeId}{de:TD}(hu:P.underlying t=some (.slice e))(hde:TOk P e de){k:IntKind}{i:Int}{len cap:Nat}{ad:Addr}(h0:0<=i)(h1:i.toNat<len):
 (Instr.indexAt t (.slice (some ad) len cap) (.int k i)).run P w=.ok (.pointer (some (ad.add (i.toNat*de.ty.width)))) w:=by
 have h2:i<(len:Int):=by omega
 simp[Instr.indexAt,asIntOf,run_underlying hu,h0,h2,run_sizeOf hde]
theorem run_indexAt_array{t e:TypeId}{n:Nat}{de:TD}(hu:P.underlying t=some (.array n e))(hde:TOk P e de){k:IntKind}{i:Int}{ad:Addr}(h0:0<=i)(h1:i.toNat<n):
 (Instr.indexAt t (.pointer (some ad)) (.int k i)).run P w=.ok (.pointer (some (ad.add (i.toNat*de.ty.width)))) w:=by
 have h2:i<(n:Int):=by omega
 simp[Instr.indexAt,asIntOf,run_underlying hu,Instr.sureAddr,h0,h2,run_sizeOf hde]
theorem Iy{t:Ty}{xs:List t.T}{i:Int}{c:V}(h:get? (.sl t) xs [.idx i]=some c):0<=i/\∃ y,xs[i.toNat]?=some y/\c=⟨t,y⟩:=by
 unfold get? at h
 grind [ft]
theorem D4{n:Nat}{t:Ty}{xs:List t.T}{i:Int}{c:V}(h:get? (.arr n t) xs [.ai i]=some c):0<=i/\∃ y,xs[i.toNat]?=some y/\c=⟨t,y⟩:=by
 unfold get? at h
 grind [ft]
theorem mN{t:Ty}{xs:List t.T}{cs:List Value}(h:Rep F w (.sl t) .ro xs cs af.none){v:Value}(hv:VR (.sl t) cs v):∃ ao cap,v=.slice ao xs.length cap/\xs.length<=cap/\cap<=maxLen/\
 (0<xs.length->∃ ad,ao=some ad/\F ad.block/\∃ ds,At w ad ds/\bm (Rep F w t .ro) xs ds af.none):=by
 obtain⟨ao,cap,rfl,h1,h2,h3⟩:=h
 simp[VR,Ty.agg]at hv
 grind
theorem gF{R:Type}{L:Nat->Option Lab}{U:Nat->Bool}{e:ar}{K:Int->Option R}{r:R}(h:jP e K=some r){v:Value}(he:aF F w L U cg e v):∃ k i,K i=some r/\v=.int k i/\inK k i:=by
 unfold jP at h
 split at h
 ·rename_i k i;obtain⟨h1,h2⟩:=iL he;exact⟨k,i,h,h1,h2⟩
 ·cases h
theorem o9(h:aP B F Sg cg σ a w){R:Type}{TT:Tab}(hT:cK P TT){t:TypeId}{ex ei:ar}{K:ar->Option R}{r:R}(hk:gl TT σ t ex ei K=some r){v vi:Value}(he:aF F w σ.L σ.U cg ex v)(hi:aF F w σ.L σ.U cg ei vi):
 ∃ e' z,K e'=some r/\(Instr.indexAt t v vi).run P w=.ok z w/\aF F w σ.L σ.U cg e' z:=by
 unfold gl at hk
 obtain⟨k,i,hk,rfl,_⟩:=gF hk hi
 cases h1:TT t with
 |none=>rw[h1]at hk;cases hk
 |some d=>
 rw[h1]at hk
 simp only at hk
 have hd:=(hT t d h1).desc
 split at hk
 ·rename_i e hkd
  rw[hkd]at hd
  simp only at hd
  cases h2:TT e with
  |none=>rw[h2]at hk;cases hk
  |some de=>
  rw[h2]at hk
  simp only at hk
  have hde:=hT e de h2
  split at hk
  ·rename_i t' xs _hk0
   cases hud:decide (t'=de.ty)
   ·rw[hud]at hk;cases hk
   rw[hud]at hk
   simp only[cond_true]at hk
   have hud:=of_decide_eq_true hud
   subst hud
   split at hk
   ·rename_i h0
    cases hz:(xs:List de.ty.T)[i.toNat]? with
    |none=>rw[hz]at hk;cases hk
    |some y=>
     rw[hz]at hk
     simp only at hk
     obtain⟨cs,hr,hv⟩:=he
     obtain⟨ao,cap,rfl,h3,h4,h5⟩:=mN hr hv
     have hlt:i.toNat<List.length xs:=(List.getElem?_eq_some_iff.1 hz).1
     obtain⟨ad,rfl,hf,ds,hat,eR⟩:=h5 (by omega)
     obtain⟨dd,T,pre,post,hdd,_,rfl,hp,_⟩:=bm.focus (λy c S h=>aQ F w de.ty _ y c S h) hz eR
     refine⟨_,_,hk,run_indexAt_slice hd hde h0 hlt,_,dd,rfl,by rw[jE];exact hf,?_,eI _ _ rfl _ _ _ _ hdd⟩
     rw[<-hp]
     exact At.part hat
   ·cases hk
  ·rename_i l0 n0 π0 c0
   obtain⟨l,b,π,c,hl,hk,hg,ho,ds,s,S',hr,bF,fy,fY,hv⟩:=fJ h hk he
   cases hud:decide (c.t=.sl de.ty)&&du b.t b.m (π++[.idx i])
   ·rw[hud]at hk;cases hk
   rw[hud]at hk
   simp only[cond_true]at hk
   simp only[ag,decide_eq_true_eq]at hud
   obtain⟨hct,ho2⟩:=hud
   obtain⟨ct,cx⟩:=c
   simp only at hct
   subst hct
   simp only at hk hg hr bF hv fY
   rw[gD]at hk
   obtain⟨c',hg',hk⟩:=b9.1 hk
   obtain⟨h0,y,hy,rfl⟩:=Iy hg'
   have hlt:i.toNat<List.length cx:=(List.getElem?_eq_some_iff.1 hy).1
   have hg2:get? b.t b.x (π++[.idx i])=some ⟨de.ty,y⟩:=by rw[mM,hg];exact hg'
   have hcr:eS (π++[.idx i])=true:=by
    exact zD π i
   obtain⟨ds2,p,o,S2,h3,_⟩:=Iu h hl hcr hg2 ho2
   have hat:=eJ _ _ _ _ hg
   simp only at hat
   have h3':=h3
   rw[iS,hr]at h3'
   simp only[ig]at h3'
   rw[<-hat]at h3'
   simp only[resolve]at h3'
   split at h3'
   ·rename_i bb off len cp
    split at h3'
    ·rename_i hc
     injection h3' with h3'
     injection h3' with _ h3'
     injection h3' with h3'
     injection h3' with q1 q2
     subst q1;subst q2
     simp[VR,Ty.agg]at hv
     obtain⟨rfl,_⟩:=hv
     refine⟨_,.pointer (some ⟨bb,off+i.toNat*de.ty.width,none⟩),hk,?_,Cn h hl hcr hg2 ho2 (λds3 s3 hr3=>?_)⟩
     ·rw[run_indexAt_slice hd hde h0 hc.2,cQ]
     ·rw[h3]at hr3
      injection hr3 with hr3
      injection hr3 with _ hr3
      exact hr3.symm
    ·cases h3'
   ·cases h3'
  ·cases hk
 ·rename_i n e hkd
  rw[hkd]at hd
  simp only at hd
  cases h2:TT e with
  |none=>rw[h2]at hk;cases hk
  |some de=>
  rw[h2]at hk
  simp only at hk
  have hde:=hT e de h2
  cases uc:ex.owned
  ·rw[uc]at hk
   simp only[cond_false]at hk
   obtain⟨t',x,ad,ds,hk,rfl,h3,h4,h5⟩:=pO hk he
   cases hud:decide (t'=.arr n de.ty)
   ·rw[hud]at hk;cases hk
   rw[hud]at hk
   simp only[cond_true]at hk
   have hud:=of_decide_eq_true hud
   subst hud
   rw[gD]at hk
   obtain⟨c,hg,hk⟩:=b9.1 hk
   obtain⟨h0,y,hy,rfl⟩:=D4 hg
   have hlt:i.toNat<n:=by rw[<-h5.1];exact(List.getElem?_eq_some_iff.1 hy).1
   have hin:bo (.arr n de.ty) [.ai i]=some (i.toNat*de.ty.width):=by
    have:bo de.ty []=some 0:=by cases de.ty <;> rfl
    simp[bo,this]
   obtain⟨ds',h6,h7⟩:=wH _ _ _ _ _ _ _ hin hg h4 h5
   exact⟨_,_,hk,run_indexAt_array hd hde h0 hlt,_,ds',rfl,by rw[jE];exact h3,h6,h7⟩
  ·rw[uc]at hk
   simp only[cond_true]at hk
   obtain⟨l,b,π,c,hl,hk,hc,hg,ho,ds,p,o,S',rfl,h3,h4,h5,h6⟩:=rA h hk he
   cases hud:decide (c.t=.arr n de.ty)
   ·rw[hud]at hk;cases hk
   rw[hud]at hk
   simp only[cond_true]at hk
   have hud:=of_decide_eq_true hud
   obtain⟨ct,cx⟩:=c
   simp only at hud
   subst hud
   rw[gD]at hk
   obtain⟨c',hg',hk⟩:=b9.1 hk
   obtain⟨h0,y,hy,rfl⟩:=D4 hg'
   have hlt:i.toNat<n:=by rw[<-h4.1];exact(List.getElem?_eq_some_iff.1 hy).1
   have hin:bo (.arr n de.ty) [.ai i]=some (i.toNat*de.ty.width):=by
    have:bo de.ty []=some 0:=by cases de.ty <;> rfl
    simp[bo,this]
   have hat:=eJ _ _ _ _ hg
   refine⟨_,.pointer (some ⟨p,o+i.toNat*de.ty.width,none⟩),hk,?_,Cn h hl (sI hc) (by rw[mM,hg];exact hg') (by rw[ua,ho,<-hat,lJ _ _ _ _ hin];rfl) (λds2 s2 hr=>?_)⟩
   ·rw[run_indexAt_array hd hde h0 hlt,cQ]
   ·rw[iS,h3]at hr
    simp only[ig]at hr
    rw[<-hat]at hr
    exact pn _ _ _ _ _ _ _ _ hin hr
 ·cases hk
end
theorem dH(b:Nat):∀ (es:List Value) (o:Nat) (w:World) (c:Array Value) (e:TypeId) (fr:Nat×Nat),w.heap[b]?=some (.cells c e fr)->o+es.length<=c.size->
 (∀ k,k≠b->(w.setCells b o es).heap[k]?=w.heap[k]?)/\(∃ c',(w.setCells b o es).heap[b]?=some (.cells c' e fr)/\c'.toList=c.toList.take o++es++c.toList.drop (o+es.length))/\
 (w.setCells b o es).heap.size=w.heap.size/\(w.setCells b o es).os=w.os/\(w.setCells b o es).tape=w.tape/\(w.setCells b o es).output=w.output
 |[],o,w,c,e,fr,hb,hc=>⟨λ_ _=>rfl,⟨c,hb,by simp⟩,rfl,rfl,rfl,rfl⟩
 |v::r,o,w,c,e,fr,hb,hc=>by
  simp only[aO]at hc
  have hlt:b<w.heap.size:=(Array.getElem?_eq_some_iff.1 hb).1
  have h1:(w.setCell ⟨b,o,none⟩ v).heap[b]?=some (.cells (c.setIfInBounds o v) e fr):=by grind [World.setCell]
  have h2:∀ k,k≠b->(w.setCell ⟨b,o,none⟩ v).heap[k]?=w.heap[k]?:=by
   intro k hk
   simp[World.setCell,Array.getElem?_modify,Ne.symm hk]
  obtain⟨i1,⟨c',i2,i3⟩,i4,i5,i6,i7⟩:=dH b r (o+1) (w.setCell ⟨b,o,none⟩ v) (c.setIfInBounds o v) e fr h1 (by simp;omega)
  refine⟨λk hk=>(i1 k hk).trans (h2 k hk),⟨c',i2,?_⟩,i4.trans (by simp[World.setCell]),i5,i6,i7⟩
  rw[i3]
  have ho:o<c.toList.length:=by simp;omega
  rw[Array.toList_setIfInBounds,List.take_set,List.drop_set_of_lt (by omega)]
  rw[nQ ho,List.set_append_right _ _ (by rw[aL];omega)]
  have e1:o-(List.take o c.toList).length=0:=by rw[aL];omega
  grind
theorem ud{w:World}{p o:Nat}{ds es:List Value}(h:rq w p o ds)(he:es.length=ds.length):
 Upd w (w.setCells p o es) p o ds es/\(∀ k,k≠p->(w.setCells p o es).heap[k]?=w.heap[k]?)/\(w.setCells p o es).heap.size=w.heap.size/\(w.setCells p o es).os=w.os/\(w.setCells p o es).tape=w.tape/\(w.setCells p o es).output=w.output:=by
 obtain⟨c,e,hb,l,r,hc,hl⟩:=h
 have hlen:o+es.length<=c.size:=by grind [List.length_append]
 obtain⟨i1,⟨c',i2,i3⟩,i4,i5,i6,i7⟩:=dH p es o w c e.t (e.a,e.b) hb hlen
 refine⟨⟨c,c',e,l,r,hb,i2,hc,?_,hl⟩,i1,i4,i5,i6,i7⟩
 rw[i3,hc,<-hl]
 grind
theorem po{P:Program}{w:World}{p o:Nat}{ds:List Value}(h:rq w p o ds){t:TypeId}{d:TD}(hd:TOk P t d){v:Value}{es:List Value}(hv:v.cells.toList=es)(hw:es.length=d.ty.width)(hl:es.length=ds.length)(h1:∀ u∈es,u.oneCell'=true):
 (Instr.storeAt t (.pointer (some ⟨p,o,none⟩)) v).run P w=.ok () (w.setCells p o es):=by
 obtain⟨c,e,hb,l,r,hc,hlo⟩:=h
 have hlen:o+es.length<=c.size:=by grind [List.length_append]
 have hst:=run_storeCells_cells (P:=P) p o es 0 w (λj hj=>by
  simp only[ik]
  simp[World.cell?,hb]
  omega)
  (λj hj=>by simp only[ik];exact Mark.frz (e:=e) hb rfl (by show o+j<c.size;omega)) h1
 have hsz:v.cells.size=d.ty.width:=by rw[<-bg,hv,hw]
 simp only[ik]at hst
 simp[Instr.storeAt,Instr.sureAddr,storeVar,run_sizeOf hd,hsz,hv,hst]
section
variable {P:Program} {B:dD} {F:af} {Sg:Nat->af} {cg:Nat->List Value} {σ:St} {a:Act} {w:World}
theorem aP.sJ(h:aP B F Sg cg σ a w){w':World}(ho:w'.os=w.os)(ht:w'.tape=w.tape)(hou:w'.output=w.output)(hs:w.heap.size<=w'.heap.size){l:Nat}{b b':Lab}(hl:σ.L l=some b)
 (hb:∀ k,k<w.heap.size->¬Sg l k->w'.heap[k]?=w.heap[k]?) (hVR:∀ v,VR b.t (cg l) v->VR b'.t (cg l) v) (hRA:∀ π q,bc b'.t (cg l) none π=some q->bc b.t (cg l) none π=some q) (hv:b.v<b'.v) {F':af} (hFF:Sub F F') {S2:af} (bF:Rep F' w' b'.t b'.m b'.x (cg l) S2) (L':Nat->Option Lab) (hLl:L' l=some b') (hL:∀ j,j≠l->L' j=none\/L' j=σ.L j)
 (hF':∀ k,F' k->F k\/(w.heap.size<=k/\k<w'.heap.size/\¬S2 k))
 (hS2:∀ k,S2 k->Sg l k\/(∃ l2 b2,l2≠l/\σ.L l2=some b2/\L' l2=none/\Sg l2 k)\/(w.heap.size<=k/\k<w'.heap.size)):aP B F' (λj=>if j=l then S2 else Sg j) cg {σ with L:=L'} a w':=by
 have hLs:∀ j bj,j≠l->L' j=some bj->σ.L j=some bj:=λj bj hj hb=>by grind
 have hFw:∀ k,F k->w'.heap[k]?=w.heap[k]?:=λk hk=>hb k (h.fl k hk) (λhs=>h.ek l b hl k hs hk)
 have mO:∀ j bj,j≠l->σ.L j=some bj->∀ k,Sg j k->w'.heap[k]?=w.heap[k]?:=λj bj hj hbj k hk=>hb k (h.lt j bj hbj k hk) (λhs=>h.dis j l bj b hj hbj hl k hk hs)
 have ue:∀ j bj,j≠l->L' j=some bj->Dis S2 (Sg j):=by
  intro j bj hj hbj k h2 hk
  have iw:=hLs j bj hj hbj
  rcases hS2 k h2 with h3|⟨l2,b2,hne,hb2,hn2,h3⟩|h3
  ·exact h.dis l j b bj (Ne.symm hj) hl iw k h3 hk
  ·by_cases e:l2=j
   ·simp_all
   ·exact h.dis l2 j b2 bj e hb2 iw k h3 hk
  grind
 refine
 {fr:=⟨ho.trans h.fr.os,ht.trans h.fr.tape,hou.trans h.fr.output,bE h.fr.size hs,λk hk hn=>(hb k (bz hk h.fr.size) (λhsk=>hn (h.may l b hl k hsk hk))).trans (h.fr.block k hk hn)⟩
  size:=h.size
  defers:=h.defers
  f0:=h.f0.trans hFF
  fl:=λk hk=>by
   rcases hF' k hk with hk|hk
   ·exact bz (h.fl k hk) hs
   ·exact hk.2.1
  fs:=λk hk h1 h2=>by
   rcases hF' k hk with hk|hk
   ·exact h.fs k hk h1 h2
   ·have:=h.fr.size;omega
  lab:=?_
  dis:=?_
  ek:=?_
  lt:=?_
  may:=?_
  used:=?_
  fix:=λl' cs' hf=>⟨(h.fix l' cs' hf).1,λb2 hb2=>by
   by_cases e:l'=l
   ·subst e;exact(h.fix l' cs' hf).2 b hl
   ·exact(h.fix l' cs' hf).2 b2 (hLs l' b2 e hb2)⟩
  ent:=?_}
 ·intro j bj hbj
  by_cases hj:j=l
  ·subst hj;simp only at hbj;rw[hLl]at hbj;injection hbj with hbj;subst hbj;rw[if_pos rfl];exact bF
  ·simp only[if_neg hj];exact aU hFF hFw _ _ _ _ _ _ (h.lab j bj (hLs j bj hj hbj)) (Sub.refl _) (mO j bj hj (hLs j bj hj hbj))
 ·intro i j bi bj hij hbi hbj
  simp only at hbi hbj
  by_cases hi:i=l
  ·subst hi;rw[if_pos rfl,if_neg (Ne.symm hij)];exact ue j bj (Ne.symm hij) hbj
  ·by_cases hj:j=l
   ·subst hj;rw[if_neg hi,if_pos rfl];exact(ue i bi hi hbi).symm
   ·rw[if_neg hi,if_neg hj];exact h.dis i j bi bj hij (hLs i bi hi hbi) (hLs j bj hj hbj)
 ·intro j bj hbj
  simp only at hbj
  by_cases hj:j=l
  ·subst hj;rw[if_pos rfl]
   intro k h2 hf
   rcases hF' k hf with hf|hf
   ·rcases hS2 k h2 with h3|⟨l2,b2,hne,hb2,hn2,h3⟩|h3
    ·exact h.ek _ b hl k h3 hf
    ·exact h.ek l2 b2 hb2 k h3 hf
    ·have:=h.fl k hf;omega
   ·exact hf.2.2 h2
  ·rw[if_neg hj]
   intro k hk hf
   rcases hF' k hf with hf|hf
   ·exact h.ek j bj (hLs j bj hj hbj) k hk hf
   ·have:=h.lt j bj (hLs j bj hj hbj) k hk;omega
 ·intro j bj hbj k hk
  simp only at hbj
  by_cases hj:j=l
  ·subst hj;rw[if_pos rfl]at hk
   rcases hS2 k hk with h3|⟨l2,b2,hne,hb2,hn2,h3⟩|h3
   ·exact bz (h.lt _ b hl k h3) hs
   ·exact bz (h.lt l2 b2 hb2 k h3) hs
   ·exact h3.2
  ·rw[if_neg hj]at hk;exact bz (h.lt j bj (hLs j bj hj hbj) k hk) hs
 ·intro j bj hbj k hk hlt
  simp only at hbj
  by_cases hj:j=l
  ·subst hj;rw[if_pos rfl]at hk
   rcases hS2 k hk with h3|⟨l2,b2,hne,hb2,hn2,h3⟩|h3
   ·exact h.may _ b hl k h3 hlt
   ·exact h.may l2 b2 hb2 k h3 hlt
   ·have:=h.fr.size;omega
  ·rw[if_neg hj]at hk;exact h.may j bj (hLs j bj hj hbj) k hk hlt
 ·intro j bj hbj
  simp only at hbj |-
  by_cases hj:j=l
  ·subst hj;exact h.used _ b hl
  ·exact h.used j bj (hLs j bj hj hbj)
 ·intro t e he
  refine(h.ent t e he).imp λe v hv=>?_
  cases e with
  |val t x=>
   obtain⟨cs,h1,h2⟩:=hv
   exact⟨cs,aU hFF hFw t .ro x cs _ _ h1 (Sub.refl _) (λ_ h=>h.elim),h2⟩
  |cst u=>exact hv
  |view j te lo hi=>
   refine⟨hv.1,λbj hbj=>?_⟩
   have hbj:L' j=some bj:=hbj
   by_cases hj:j=l
   ·subst hj;exact hv.2 b hl
   ·exact hv.2 bj (hLs j bj hj hbj)
  |kT t x=>
   obtain⟨ad,ds,h1,h2,h3,h4⟩:=hv
   exact⟨ad,ds,h1,hFF _ h2,h3.congr (hFw _ h2),aU hFF hFw t .ro x ds _ _ h4 (Sub.refl _) (λ_ h=>h.elim)⟩
  |hdr j n π c=>
   refine⟨hv.1,λbj hbj=>?_⟩
   have hbj:L' j=some bj:=hbj
   by_cases hj:j=l
   ·subst hj
    rw[hLl]at hbj;injection hbj with hbj;subst hbj
    obtain⟨h0,h1,h2⟩:=hv.2 b hl
    exact⟨by omega,λhp=>hVR _ (h1 hp),λhn=>by omega⟩
   ·have iw:=hLs j bj hj hbj
    obtain⟨h0,h1,h2⟩:=hv.2 bj iw
    refine⟨h0,h1,λhn=>?_⟩
    obtain⟨h3,h4,h5⟩:=h2 hn
    refine⟨h3,h4,?_⟩
    rw[resolve_congr π bj.t bj.m bj.x (cg j) (Sg j) none (h.lab j bj iw) h3 (by rw[h4];rfl) (mO j bj hj iw)]
    exact h5
  |adr j n π c=>
   refine⟨hv.1,λbj hbj=>?_⟩
   have hbj:L' j=some bj:=hbj
   by_cases hj:j=l
   ·subst hj
    rw[hLl]at hbj;injection hbj with hbj;subst hbj
    obtain⟨h0,h1,h2⟩:=hv.2 b hl
    exact⟨by omega,λhp p o hr=>h1 hp p o (hRA _ _ hr),λhn=>by omega⟩
   ·have iw:=hLs j bj hj hbj
    obtain⟨h0,h1,h2⟩:=hv.2 bj iw
    refine⟨h0,h1,λhn=>?_⟩
    obtain⟨h3,h4,h5⟩:=h2 hn
    refine⟨h3,h4,?_⟩
    rw[resolve_congr π bj.t bj.m bj.x (cg j) (Sg j) none (h.lab j bj iw) h3 (by rw[h4];rfl) (mO j bj hj iw)]
    exact h5
end
section
variable {P:Program} {B:dD} {F:af} {Sg:Nat->af} {cg:Nat->List Value} {σ:St} {a:Act} {w:World}
theorem aP.jQ(h:aP B F Sg cg σ a w){w':World}(ho:w'.os=w.os)(ht:w'.tape=w.tape)(hou:w'.output=w.output)(hs:w.heap.size<=w'.heap.size){l:Nat}{b:Lab}(hU:σ.U l=false)(L':Nat->Option Lab)
 (hb:∀ k,k<w.heap.size->¬(∃ l2 b2,σ.L l2=some b2/\L' l2=none/\Sg l2 k)->w'.heap[k]?=w.heap[k]?) {cs:List Value} {S2:af} (bF:Rep F w' b.t b.m b.x cs S2) (hLl:L' l=some b) (hL:∀ j,j≠l->L' j=none\/L' j=σ.L j)
 (hS2:∀ k,S2 k->(∀ j bj,j≠l->L' j=some bj->¬Sg j k)/\¬F k/\k<w'.heap.size/\(k<B.w0.heap.size->B.S0 k)):
 aP B F (λj=>if j=l then S2 else Sg j) (λj=>if j=l then cs else cg j) {σ with L:=L',U:=λj=>Nat.beq j l||σ.U j} a w':=by
 have hLn:σ.L l=none:=by
  cases hl:σ.L l with
  |none=>rfl
  |some b=>have:=h.used l b hl;rw[hU]at this;cases this
 have hLs:∀ j bj,j≠l->L' j=some bj->σ.L j=some bj:=λj bj hj hb=>by grind
 have hFw:∀ k,F k->w'.heap[k]?=w.heap[k]?:=λk hk=>hb k (h.fl k hk) (λ⟨l2,b2,h1,_,h3⟩=>h.ek l2 b2 h1 k h3 hk)
 have mO:∀ j bj,j≠l->L' j=some bj->∀ k,Sg j k->w'.heap[k]?=w.heap[k]?:=λj bj hj hbj k hk=>by
  have iw:=hLs j bj hj hbj
  refine hb k (h.lt j bj iw k hk) (λ⟨l2,b2,h1,h2,h3⟩=>?_)
  by_cases e:l2=j
  ·simp_all
  ·exact h.dis l2 j b2 bj e h1 iw k h3 hk
 have ue:∀ j bj,j≠l->L' j=some bj->Dis S2 (Sg j):=by
  intro j bj hj hbj k h2 hk
  simp_all
 refine
 {fr:=⟨ho.trans h.fr.os,ht.trans h.fr.tape,hou.trans h.fr.output,bE h.fr.size hs,λk hk hn=>(hb k (bz hk h.fr.size) (λ⟨l2,b2,h1,_,h3⟩=>hn (h.may l2 b2 h1 k h3 hk))).trans (h.fr.block k hk hn)⟩
  size:=h.size
  defers:=h.defers
  f0:=h.f0
  fl:=λk hk=>bz (h.fl k hk) hs
  fs:=h.fs
  lab:=?_
  dis:=?_
  ek:=?_
  lt:=?_
  may:=?_
  used:=?_
  fix:=λl' cs' hf=>by
   have hne:l'≠l:=λe=>by have:=(h.fix l' cs' hf).1.1;rw[e,hU]at this;cases this
   refine⟨⟨by simp[(h.fix l' cs' hf).1.1],(h.fix l' cs' hf).1.2⟩,λb2 hb2=>?_⟩
   simp only[if_neg hne]
   exact(h.fix l' cs' hf).2 b2 (hLs l' b2 hne hb2)
  ent:=?_}
 ·intro j bj hbj
  simp only at hbj
  by_cases hj:j=l
  ·subst hj;rw[hLl]at hbj;injection hbj with hbj;subst hbj;rw[if_pos rfl,if_pos rfl];exact bF
  ·rw[if_neg hj,if_neg hj];exact aU (Sub.refl _) hFw _ _ _ _ _ _ (h.lab j bj (hLs j bj hj hbj)) (Sub.refl _) (mO j bj hj hbj)
 ·intro i j bi bj hij hbi hbj
  simp only at hbi hbj
  by_cases hi:i=l
  ·subst hi;rw[if_pos rfl,if_neg (Ne.symm hij)];exact ue j bj (Ne.symm hij) hbj
  ·by_cases hj:j=l
   ·subst hj;rw[if_neg hi,if_pos rfl];exact(ue i bi hi hbi).symm
   ·rw[if_neg hi,if_neg hj];exact h.dis i j bi bj hij (hLs i bi hi hbi) (hLs j bj hj hbj)
 ·intro j bj hbj
  simp only at hbj
  by_cases hj:j=l
  ·subst hj;rw[if_pos rfl]
   intro k h2 hf
   exact(hS2 k h2).2.1 hf
  ·rw[if_neg hj];exact h.ek j bj (hLs j bj hj hbj)
 ·intro j bj hbj k hk
  simp only at hbj
  by_cases hj:j=l
  ·subst hj;rw[if_pos rfl]at hk
   exact(hS2 k hk).2.2.1
  ·rw[if_neg hj]at hk;exact bz (h.lt j bj (hLs j bj hj hbj) k hk) hs
 ·intro j bj hbj k hk hlt
  simp only at hbj
  by_cases hj:j=l
  ·subst hj;rw[if_pos rfl]at hk
   exact(hS2 k hk).2.2.2 hlt
  ·rw[if_neg hj]at hk;exact h.may j bj (hLs j bj hj hbj) k hk hlt
 ·intro j bj hbj
  simp only at hbj |-
  by_cases hj:j=l
  ·subst hj;simp[fc]
  ·rw[h.used j bj (hLs j bj hj hbj)];simp
 ·intro t e he
  refine(h.ent t e he).imp λe v hv=>?_
  have old:∀ j,σ.U j=true->j≠l:=λj hu e=>by subst e;rw[hU]at hu;cases hu
  cases e with
  |val t x=>
   obtain⟨cs,h1,h2⟩:=hv
   exact⟨cs,aU (Sub.refl _) hFw t .ro x cs _ _ h1 (Sub.refl _) (λ_ h=>h.elim),h2⟩
  |cst u=>exact hv
  |view j te lo hi=>
   have hj:=old j hv.1
   refine⟨by simp[hv.1],λbj hbj=>?_⟩
   have hbj:L' j=some bj:=hbj
   simp only[if_neg hj]
   exact hv.2 bj (hLs j bj hj hbj)
  |kT t x=>
   obtain⟨ad,ds,h1,h2,h3,h4⟩:=hv
   exact⟨ad,ds,h1,h2,h3.congr (hFw _ h2),aU (Sub.refl _) hFw t .ro x ds _ _ h4 (Sub.refl _) (λ_ h=>h.elim)⟩
  |hdr j n π c=>
   have hj:=old j hv.1
   refine⟨by simp[hv.1],λbj hbj=>?_⟩
   have hbj:L' j=some bj:=hbj
   obtain⟨h0,h1,h2⟩:=hv.2 bj (hLs j bj hj hbj)
   simp only[if_neg hj]
   refine⟨h0,h1,λhn=>?_⟩
   obtain⟨h3,h4,h5⟩:=h2 hn
   refine⟨h3,h4,?_⟩
   rw[resolve_congr π bj.t bj.m bj.x (cg j) (Sg j) none (h.lab j bj (hLs j bj hj hbj)) h3 (by rw[h4];rfl) (mO j bj hj hbj)]
   exact h5
  |adr j n π c=>
   have hj:=old j hv.1
   refine⟨by simp[hv.1],λbj hbj=>?_⟩
   have hbj:L' j=some bj:=hbj
   obtain⟨h0,h1,h2⟩:=hv.2 bj (hLs j bj hj hbj)
   simp only[if_neg hj]
   refine⟨h0,h1,λhn=>?_⟩
   obtain⟨h3,h4,h5⟩:=h2 hn
   refine⟨h3,h4,?_⟩
   rw[resolve_congr π bj.t bj.m bj.x (cg j) (Sg j) none (h.lab j bj (hLs j bj hj hbj)) h3 (by rw[h4];rfl) (mO j bj hj hbj)]
   exact h5
theorem aP.freeze(h:aP B F Sg cg σ a w){l:Nat}{b:Lab}(hl:σ.L l=some b):aP B (F.or (Sg l)) Sg cg {σ with L:=upd σ.L l none} a w:=by
 have hLs:∀ j bj,upd σ.L l none j=some bj->j≠l/\σ.L j=some bj:=λj bj hb=>by grind [fv]
 have hF:Sub F (F.or (Sg l)):=λk h=>.inl h
 refine
 {fr:=h.fr
  size:=h.size
  defers:=h.defers
  f0:=h.f0.trans hF
  fl:=λk hk=>hk.elim (h.fl k) (h.lt l b hl k)
  fs:=λk hk h1 h2=>hk.elim (λhk=>h.fs k hk h1 h2) (λhk=>absurd (h.may l b hl k hk h1) h2)
  lab:=λj bj hbj=>aU hF (λ_ _=>rfl) _ _ _ _ _ _ (h.lab j bj (hLs j bj hbj).2) (Sub.refl _) (λ_ _=>rfl)
  dis:=λi j bi bj hij hbi hbj=>h.dis i j bi bj hij (hLs i bi hbi).2 (hLs j bj hbj).2
  ek:=λj bj hbj k hk hf=>hf.elim (h.ek j bj (hLs j bj hbj).2 k hk) (λhf=>h.dis j l bj b (hLs j bj hbj).1 (hLs j bj hbj).2 hl k hk hf)
  lt:=λj bj hbj=>h.lt j bj (hLs j bj hbj).2
  may:=λj bj hbj=>h.may j bj (hLs j bj hbj).2
  used:=λj bj hbj=>h.used j bj (hLs j bj hbj).2
  fix:=λj cs' hf=>⟨(h.fix j cs' hf).1,λb2 hb2=>(h.fix j cs' hf).2 b2 (hLs j b2 hb2).2⟩
  ent:=?_}
 intro t e he
 refine(h.ent t e he).imp λe v hv=>?_
 cases e with
 |val t x=>obtain⟨cs,h1,h2⟩:=hv;exact⟨cs,aU hF (λ_ _=>rfl) t .ro x cs _ _ h1 (Sub.refl _) (λ_ h=>h.elim),h2⟩
 |cst u=>exact hv
 |kT t x=>obtain⟨ad,ds,h1,h2,h3,h4⟩:=hv;exact⟨ad,ds,h1,.inl h2,h3,aU hF (λ_ _=>rfl) t .ro x ds _ _ h4 (Sub.refl _) (λ_ h=>h.elim)⟩
 |hdr j n π c=>exact⟨hv.1,λbj hbj=>hv.2 bj (hLs j bj hbj).2⟩
 |adr j n π c=>exact⟨hv.1,λbj hbj=>hv.2 bj (hLs j bj hbj).2⟩
 |view j te lo hi=>exact⟨hv.1,λbj hbj=>hv.2 bj (hLs j bj hbj).2⟩
def zM:Ty->Md
 |.sl _=>.own .ro
 |.pair a b=>.pr (zM a) (zM b)
 |.st t=>zM t
 |.ptr _=>.own .ro
 |_=>.ro
theorem xJ:∀ (t:Ty),okM t (zM t)=true:=by
 intro t
 induction t with
 |pair a b iha ihb=>simp[okM,zM,Md.fst,Md.snd,iha,ihb]
 |st t ih=>exact ih
 |arr n t ih=>exact Cj t
 |_=>rfl
def uf(e:ar)(u:Ty):Md:=match e with|.cst _=>zM u|_=>.ro
theorem pP{R:Type}{L:Nat->Option Lab}{U:Nat->Bool}{e:ar}{want:Ty}{K:want.T->Option R}{r:R}(h:asT e want K=some r){v:Value}(he:aF F w L U cg e v):
 ∃ x cs,K x=some r/\Rep F w want (uf e want) x cs af.none/\VR want cs v:=by
 unfold asT at h
 split at h
 ·rename_i t x
  split at h
  ·rename_i ht
   subst ht
   obtain⟨cs,h1,h2⟩:=he
   exact⟨x,cs,h,h1,h2⟩
  ·cases h
 ·rename_i u
  have hv:v=u:=he
  subst hv
  cases hb:vrC want v
  ·simp_all
  ·rw[hb]at h
   simp only[cond_true]at h
   cases hc:rdC want v.cells.toList with
   |none=>rw[hc]at h;cases h
   |some x=>rw[hc]at h;exact⟨x,_,h,tY _ _ _ _ (by unfold uf;exact xJ _) hc,Ip hb⟩
 ·cases h
theorem pQ:∀ (π:List Stp) (t:Ty) (m m' r:Md),gk t m π m'=some r->pK t m π m' r:=by
 intro π
 induction π with
 |nil=>intro t m m' r h;cases t <;> (simp only[gk,bh]at h;exact h.symm)
 |cons p π ih=>
  intro t m m' r h
  cases t <;> cases p <;> simp only[gk,reduceCtorEq]at h <;> simp only[pK]
  all_goals grind
def St.jR(σ:St)(L:Nat->Option Lab):St:={σ with L:=L}
def lK{R:Type}(d:TD)(σ:St)(ep ev:ar)(K:St->Option R):Option R:=
 plc σ ep λl b π c=>
  bif decide (c.t=d.ty)&&c.t.vty then
   (match ev with
   |.hdr l2 _ π2 _=>bif π2.isEmpty&&!(Nat.beq l l2)then(match σ.L l2 with
    |some b2=>match gk b.t b.m π b2.m with
     |some mr=>iR b.t b.x π b2.t b2.x λx'=>bif decide (b2.t=c.t)then K (σ.jR (upd (upd σ.L l2 none) l (some ⟨b.v+1,b.t,mr,x'⟩)))else none
     |none=>none
    |none=>none)else none
   |ev=>asT ev c.t λy=>match gk b.t b.m π (bif c.t.flat then atM b.t b.m π else uf ev c.t)with
    |some mr=>iR b.t b.x π c.t y λx'=>K (σ.jR (upd σ.L l (some ⟨b.v+1,b.t,mr,x'⟩)))
    |none=>none)
  else none
theorem FT(h:aP B F Sg cg σ a w){R:Type}{t:TypeId}{d:TD}(hd:TOk P t d){ep ev:ar}{K:St->Option R}{r:R}(hk:lK d σ ep ev K=some r){vp v:Value}(hp:aF F w σ.L σ.U cg ep vp)(hv:aF F w σ.L σ.U cg ev v):
 ∃ σ' w' Sg',K σ'=some r/\(Instr.storeAt t vp v).run P w=.ok () w'/\aP B F Sg' cg σ' a w'/\σ'.E=σ.E:=by
 unfold lK at hk
 obtain⟨l,b,π,c,hl,hk,hc,hg,ho,ds,p,o,S',rfl,h1,h2,h3,h4⟩:=rA h hk hp
 cases hud:decide (c.t=d.ty)&&c.t.vty
 ·simp_all
 rw[hud]at hk
 simp only[cond_true]at hk
 simp only[ag,decide_eq_true_eq]at hud
 obtain⟨hct,hvt⟩:=hud
 obtain⟨hSp,hnp,fu,lH⟩:=h4
 have hdl:=aQ _ _ _ _ _ _ _ h2
 -- the QK end
 have fin:∀ (es:List Value) (y:c.t.T) (m' mr:Md) (x':b.t.T) (Rw:af) (L':Nat->Option Lab),Rep F w c.t m' y es Rw->VR c.t es v->pK b.t b.m π m' mr->jM b.t b.x π c.t y=some x'->
  (∀ k,Rw k->∃ l2 b2,l2≠l/\σ.L l2=some b2/\L' l2=none/\Sg l2 k)->L' l=some ⟨b.v+1,b.t,mr,x'⟩->(∀ j,j≠l->L' j=none\/L' j=σ.L j)->
  ∃ w' Sg',(Instr.storeAt t (.pointer (some ⟨p,o,none⟩)) v).run P w=.ok () w'/\aP B F Sg' cg (σ.jR L') a w':=by
  intro es y m' mr x' Rw L' hy hv hM db hR hLl hL
  have hel:=aQ _ _ _ _ _ _ _ hy
  have ug:es.length=ds.length:=by rw[hel,hdl]
  obtain⟨u1,u2,u3,u4,u5,u6⟩:=ud fu ug
  have bX:=po fu hd hv.cells (by rw[hel,hct]) ug (pL _ _ _ _ _ hy)
  have hRp:¬Rw p:=λhrp=>by
   obtain⟨l2,b2,hne,hb2,_,hk2⟩:=hR p hrp
   exact h.dis l2 l b2 b hne hb2 hl p hk2 hSp
  have hFp:∀ k,F k->k≠p:=λk hk e=>h.ek l b hl p hSp (e ▸ hk)
  have hy':Rep F (w.setCells p o es) c.t m' y es Rw:=aU (Sub.refl _) (λk hk=>u2 k (hFp k hk)) _ _ _ _ _ _ hy (Sub.refl _) (λk hk=>u2 k (λe=>hRp (e ▸ hk)))
  have bF:=lH F (w.setCells p o es) y es Rw x' m' mr hM (Sub.refl _) db hy' ug
   (λk hk hs=>by obtain⟨l2,b2,hne,hb2,_,hk2⟩:=hR k hk;exact(h.dis l2 l b2 b hne hb2 hl k hk2 hs).elim)
   (λk _ _ hne=>u2 k hne) u1 (λk hk=>u2 k (hFp k hk))
  refine⟨_,_,bX,h.sJ u4 u5 u6 (by rw[u3];exact aw _) hl (λk _ hn=>u2 k (λe=>hn (e ▸ hSp))) (b':=⟨b.v+1,b.t,mr,x'⟩) (λ_ h=>h) (λ_ _ h=>h) (cH _) (Sub.refl _) bF L' hLl hL (λk hk=>.inl hk) (λk hk=>?_)⟩
  rcases hk with hk|hk
  ·exact .inl hk.1
  ·exact .inr (.inl (hR k hk))
 split at hk
 ·rename_i l2 n2 π2 c2 _hk0
  cases hb:π2.isEmpty&&!(Nat.beq l l2)
  ·rw[hb]at hk;cases hk
  rw[hb]at hk
  simp only[cond_true]at hk
  simp only[ag,bC]at hb
  have hp2:π2=[]:=by cases π2 <;> simp_all
  subst hp2
  have hne:l≠l2:=λe=>by subst e;simp[fc]at hb
  cases hl2:σ.L l2 with
  |none=>rw[hl2]at hk;cases hk
  |some b2=>
  rw[hl2]at hk
  simp only at hk
  cases hM:gk b.t b.m π b2.m with
  |none=>rw[hM]at hk;cases hk
  |some mr=>
  rw[hM]at hk
  simp only at hk
  rw[iJ]at hk
  obtain⟨x',db,hk'⟩:=b9.1 hk
  cases hud:decide (b2.t=c.t)
  ·rw[hud]at hk';cases hk'
  rw[hud]at hk'
  simp only[cond_true]at hk'
  have hud:=of_decide_eq_true hud
  have hv2:=(hv.2 b2 hl2).2.1 rfl
  have mu:=h.lab l2 b2 hl2
  obtain⟨v2,t2,m2,x2⟩:=b2
  simp only at hud hM db hv2 mu
  subst hud
  obtain⟨w',Sg',e1,e2⟩:=fin (cg l2) x2 m2 mr x' (Sg l2) (upd (upd σ.L l2 none) l (some ⟨b.v+1,b.t,mr,x'⟩)) mu hv2 (pQ _ _ _ _ _ hM) db
   (λk hk=>⟨l2,_,Ne.symm hne,hl2,by rw[aW _ _ (Ne.symm hne),aG],hk⟩) (aG _ _ _)
   (λj hj=>by
    rw[aW _ _ hj]
    by_cases e:j=l2
    ·subst e;rw[aG];exact .inl rfl
    ·rw[aW _ _ e];exact .inr rfl)
  exact⟨_,w',Sg',hk',e1,e2,rfl⟩
 ·skip
  obtain⟨y,es,hk,hy,hvr⟩:=pP hk hv
  cases hM:gk b.t b.m π (bif c.t.flat then atM b.t b.m π else uf ev c.t)with
  |none=>rw[hM]at hk;cases hk
  |some mr=>
  rw[hM]at hk
  simp only at hk
  rw[iJ]at hk
  obtain⟨x',db,hk⟩:=b9.1 hk
  have hy':Rep F w c.t (bif c.t.flat then atM b.t b.m π else uf ev c.t) y es af.none:=by
   cases hf:c.t.flat
   ·exact hy
   ·exact kS _ hf _ _ _ _ _ _ hy
  obtain⟨w',Sg',e1,e2⟩:=fin es y _ mr x' af.none (upd σ.L l (some ⟨b.v+1,b.t,mr,x'⟩)) hy' hvr (pQ _ _ _ _ _ hM) db (λk hk=>hk.elim) (aG _ _ _) (λj hj=>by rw[aW _ _ hj];exact .inr rfl)
  exact⟨_,w',Sg',hk,e1,e2,rfl⟩
end
def cL:(t:Ty)->t.T->List Stp->V->Option V
 |_,_,[],c=>some c
 |.st t,x,.st::π,c=>match cL t x π c with|some v=>some ⟨.st v.t,v.x⟩|none=>none
 |.pair a b,x,.fst::π,c=>match cL a x.1 π c with|some v=>some ⟨.pair v.t b,(v.x,x.2)⟩|none=>none
 |.pair a b,x,.snd::π,c=>match cL b x.2 π c with|some v=>some ⟨.pair a v.t,(x.1,v.x)⟩|none=>none
 |.box t,x,.deref::π,c=>match cL t x π c with|some v=>some ⟨.box v.t,v.x⟩|none=>none
 |_,_,_::_,_=>none
def fR:Md->List Stp->Md->Md
 |_,[],m'=>m'
 |m,.st::π,m'=>fR m π m'
 |m,.fst::π,m'=>.pr (fR m.fst π m') m.snd
 |m,.snd::π,m'=>.pr m.fst (fR m.snd π m')
 |m,.deref::π,m'=>.own (fR m.el π m')
 |m,_::_,_=>m
def We(F:af)(w:World)(t:Ty)(m:Md)(x:t.T)(cs:List Value)(S:af)(s:Option (Nat×Nat))(π:List Stp)(ds:List Value)(s':Option (Nat×Nat))(S':af):Prop:=
 (∃ pre post,cs=pre++ds++post/\s'=s.map (λp=>(p.1,p.2+pre.length))/\
  ∀ F' w' (c:V) es R v' m',cL t x π c=some v'->Sub F F'->Rep F' w' c.t m' c.x es R->es.length=ds.length->(∀ k,R k->S k->S' k)->
   (∀ k,S k->¬S' k->w'.heap[k]?=w.heap[k]?)->(∀ k,F k->w'.heap[k]?=w.heap[k]?)->
   Rep F' w' v'.t (fR m π m') v'.x (pre++es++post) (λk=>(S k/\¬S' k)\/R k))\/
 (∃ b o,s'=some (b,o)/\S b/\¬S' b/\rq w b o ds/\
  ∀ F' w' (c:V) es R v' m',cL t x π c=some v'->Sub F F'->Rep F' w' c.t m' c.x es R->es.length=ds.length->(∀ k,R k->S k->S' k)->
   (∀ k,S k->¬S' k->k≠b->w'.heap[k]?=w.heap[k]?)->Upd w w' b o ds es->(∀ k,F k->w'.heap[k]?=w.heap[k]?)->
   Rep F' w' v'.t (fR m π m') v'.x cs (λk=>(S k/\¬S' k)\/R k))
theorem Iz(F:af)(w:World):∀ (π:List Stp) (t:Ty) (m:Md) (x:t.T) (cs:List Value) (S:af) (s:Option (Nat×Nat)) (c:V),
 Rep F w t m x cs S->get? t x π=some c->du t m π=true->(∃ c' v,cL t x π c'=some v)->
 ∃ ds s' S',resolve w t cs s π=some (ds,s')/\Rep F w c.t (atM t m π) c.x ds S'/\Sub S' S/\We F w t m x cs S s π ds s' S':=by
 intro π
 induction π with
 |nil=>
  intro t m x cs S s c h hg _ _
  rw[eV]at hg
  injection hg with hg
  subst hg
  refine⟨cs,s,S,fx _ _ _ _,?_,Sub.refl _,.inl ⟨[],[],by simp,?_,?_⟩⟩
  ·cases t <;> exact h
  ·cases s <;> rfl
  ·intro F' w' c es R v' m' hs _ hy _ _ _ _
   have hx:v'=c:=by cases t <;> (simp only[cL,bh]at hs;exact hs.symm)
   subst hx
   simp_all [fR]
 |cons p0 π ih=>
  intro t m x cs S s c h hg ho hx
  unfold get? at hg
  obtain⟨c0,v0,hx⟩:=hx
  cases t <;> cases p0 <;> simp only[ft,reduceCtorEq]at hg <;> simp only[cL,reduceCtorEq]at hx
  case st.st t=>
   simp only[du]at ho
   have hx':∃ c' v,cL t x π c'=some v:=by grind
   obtain⟨ds,s',S',h1,h2,h3,h4⟩:=ih t m x cs S s c h hg ho hx'
   refine⟨ds,s',S',h1,h2,h3,?_⟩
   have key:∀ {c:V} {v':V},cL (.st t) x (.st::π) c=some v'->∃ v,cL t x π c=some v/\v'=⟨.st v.t,v.x⟩:=by
    intro c v' hs
    simp only[cL]at hs
    split at hs
    ·rename_i v hv;injection hs with hs;exact⟨v,hv,hs.symm⟩
    ·cases hs
   rcases h4 with⟨pre,post,e1,e2,w2⟩|⟨b,o,e1,e2,e3,e4,w2⟩
   ·refine .inl ⟨pre,post,e1,e2,?_⟩
    intro F' w' c es R v' m' hs hF hy he hR hS hFw
    obtain⟨v,hv,rfl⟩:=key hs
    exact w2 F' w' c es R v m' hv hF hy he hR hS hFw
   ·refine .inr ⟨b,o,e1,e2,e3,e4,?_⟩
    intro F' w' c es R v' m' hs hF hy he hR hS hU hFw
    obtain⟨v,hv,rfl⟩:=key hs
    exact w2 F' w' c es R v m' hv hF hy he hR hS hU hFw
  case pair.fst a b=>
   obtain⟨c1,c2,S1,S2,rfl,h1,h2,s1,s2,d⟩:=h
   simp only[du]at ho
   have hx':∃ c' v,cL a x.1 π c'=some v:=by
    split at hx
    ·exact⟨_,_,by assumption⟩
    ·cases hx
   have hcl:=aQ _ _ _ _ _ _ _ h1
   obtain⟨ds,s',S',cf,bF,s3,fY⟩:=ih a m.fst x.1 c1 S1 s c h1 hg ho hx'
   have key:∀ {c:V} {v':V},cL (.pair a b) x (.fst::π) c=some v'->∃ v,cL a x.1 π c=some v/\v'=⟨.pair v.t b,(v.x,x.2)⟩:=by
    intro c v' hs
    simp only[cL]at hs
    split at hs
    ·rename_i v hv;injection hs with hs;exact⟨v,hv,hs.symm⟩
    ·cases hs
   refine⟨ds,s',S',?_,bF,s3.trans s1,?_⟩
   ·simp only[resolve];rw[eQ hcl];exact cf
   ·rcases fY with⟨eO,dv,rfl,rfl,w2⟩|⟨b2,o2,rfl,hb2,ru,hl2,w2⟩
    ·refine .inl ⟨eO,dv++c2,by simp,rfl,?_⟩
     intro F' w' c es R v' m' hs hF hy he hR hS hFw
     obtain⟨z,hz,rfl⟩:=key hs
     refine⟨eO++es++dv,c2,λk=>(S1 k/\¬S' k)\/R k,S2,by simp,?_,?_,?_,?_,?_⟩
     ·exact w2 F' w' c es R z m' hz hF hy he (λk a b=>hR k a (s1 k b)) (λk a b=>hS k (s1 k a) b) hFw
     ·exact aU hF hFw _ _ _ _ _ _ h2 (Sub.refl _) (λk hk=>hS k (s2 k hk) (λh'=>d k (s3 k h') hk))
     ·exact λk hk=>hk.imp (λh=>⟨s1 k h.1,h.2⟩) id
     ·exact λk hk=>.inl ⟨s2 k hk,λh'=>d k (s3 k h') hk⟩
     ·exact λk a b=>a.elim (λa=>d k a.1 b) (λa=>d k (s3 k (hR k a (s2 k b))) b)
    ·refine .inr ⟨b2,o2,rfl,s1 _ hb2,ru,hl2,?_⟩
     intro F' w' c es R v' m' hs hF hy he hR hS hU hFw
     obtain⟨z,hz,rfl⟩:=key hs
     refine⟨c1,c2,λk=>(S1 k/\¬S' k)\/R k,S2,rfl,?_,?_,?_,?_,?_⟩
     ·exact w2 F' w' c es R z m' hz hF hy he (λk a b=>hR k a (s1 k b)) (λk a b c=>hS k (s1 k a) b c) hU hFw
     ·exact aU hF hFw _ _ _ _ _ _ h2 (Sub.refl _) (λk hk=>hS k (s2 k hk) (λh'=>d k (s3 k h') hk) (λe=>d k (e ▸ hb2) hk))
     ·exact λk hk=>hk.imp (λh=>⟨s1 k h.1,h.2⟩) id
     ·exact λk hk=>.inl ⟨s2 k hk,λh'=>d k (s3 k h') hk⟩
     ·exact λk a b=>a.elim (λa=>d k a.1 b) (λa=>d k (s3 k (hR k a (s2 k b))) b)
  case pair.snd a b=>
   obtain⟨c1,c2,S1,S2,rfl,h1,h2,s1,s2,d⟩:=h
   simp only[du]at ho
   have hx':∃ c' v,cL b x.2 π c'=some v:=by
    split at hx
    ·exact⟨_,_,by assumption⟩
    ·cases hx
   have hcl:=aQ _ _ _ _ _ _ _ h1
   obtain⟨ds,s',S',cf,bF,s3,fY⟩:=ih b m.snd x.2 c2 S2 (s.map λp=>(p.1,p.2+a.width)) c h2 hg ho hx'
   have key:∀ {c:V} {v':V},cL (.pair a b) x (.snd::π) c=some v'->∃ v,cL b x.2 π c=some v/\v'=⟨.pair a v.t,(x.1,v.x)⟩:=by
    intro c v' hs
    simp only[cL]at hs
    split at hs
    ·rename_i v hv;injection hs with hs;exact⟨v,hv,hs.symm⟩
    ·cases hs
   refine⟨ds,s',S',?_,bF,s3.trans s2,?_⟩
   ·simp only[resolve];rw[ir hcl];exact cf
   ·rcases fY with⟨eO,dv,rfl,rfl,w2⟩|⟨b2,o2,rfl,hb2,ru,hl2,w2⟩
    ·refine .inl ⟨c1++eO,dv,by simp,?_,?_⟩
     ·cases s with
      |none=>rfl
      |some p=>simp[hcl,cX]
     intro F' w' c es R v' m' hs hF hy he hR hS hFw
     obtain⟨z,hz,rfl⟩:=key hs
     refine⟨c1,eO++es++dv,S1,λk=>(S2 k/\¬S' k)\/R k,by simp,?_,?_,?_,?_,?_⟩
     ·exact aU hF hFw _ _ _ _ _ _ h1 (Sub.refl _) (λk hk=>hS k (s1 k hk) (λh'=>d k hk (s3 k h')))
     ·exact w2 F' w' c es R z m' hz hF hy he (λk a b=>hR k a (s2 k b)) (λk a b=>hS k (s2 k a) b) hFw
     ·exact λk hk=>.inl ⟨s1 k hk,λh'=>d k hk (s3 k h')⟩
     ·exact λk hk=>hk.imp (λh=>⟨s2 k h.1,h.2⟩) id
     ·exact λk a b=>b.elim (λb=>d k a b.1) (λb=>d k a (s3 k (hR k b (s1 k a))))
    ·refine .inr ⟨b2,o2,rfl,s2 _ hb2,ru,hl2,?_⟩
     intro F' w' c es R v' m' hs hF hy he hR hS hU hFw
     obtain⟨z,hz,rfl⟩:=key hs
     refine⟨c1,c2,S1,λk=>(S2 k/\¬S' k)\/R k,rfl,?_,?_,?_,?_,?_⟩
     ·exact aU hF hFw _ _ _ _ _ _ h1 (Sub.refl _) (λk hk=>hS k (s1 k hk) (λh'=>d k hk (s3 k h')) (λe=>d k hk (e ▸ hb2)))
     ·exact w2 F' w' c es R z m' hz hF hy he (λk a b=>hR k a (s2 k b)) (λk a b c=>hS k (s2 k a) b c) hU hFw
     ·exact λk hk=>.inl ⟨s1 k hk,λh'=>d k hk (s3 k h')⟩
     ·exact λk hk=>hk.imp (λh=>⟨s2 k h.1,h.2⟩) id
     ·exact λk a b=>b.elim (λb=>d k a b.1) (λb=>d k a (s3 k (hR k b (s1 k a))))
  case box.deref t=>
   simp only[du,ag]at ho
   have hx':∃ c' v,cL t x π c'=some v:=by
    split at hx
    ·exact⟨_,_,by assumption⟩
    ·cases hx
   cases m with
   |ro=>simp[Md.eU]at ho
   |pr _ _=>simp[Md.eU]at ho
   |own m=>
    obtain⟨p,cc,e,rfl,hb,hS0,S1,hr,s1,n1⟩:=h
    have hcl:=aQ F w t m x _ _ hr
    have fu:rq w p 0 cc.toList:=⟨cc,e,hb,[],[],by simp,rfl⟩
    obtain⟨ds,s',S',cf,bF,s2,fY⟩:=ih t m x cc.toList S1 (some (p,0)) c hr hg ho.2 hx'
    have hcc:=fI fu
    rw[hcl]at hcc
    have np:¬S' p:=λh'=>n1 (s2 p h')
    have key:∀ {c:V} {v':V},cL (.box t) x (.deref::π) c=some v'->∃ v,cL t x π c=some v/\v'=⟨.box v.t,v.x⟩:=by
     intro c v' hs
     simp only[cL]at hs
     split at hs
     ·rename_i v hv;injection hs with hs;exact⟨v,hv,hs.symm⟩
     ·cases hs
    refine⟨ds,s',S',by simp only[resolve];rw[hcc];exact cf,bF,s2.trans s1,?_⟩
    rcases fY with⟨eO,dv,hc2,rfl,w2⟩|⟨b2,o2,rfl,hb2,ru,hl2,w2⟩
    ·refine .inr ⟨p,0+eO.length,rfl,hS0,np,⟨cc,e,hb,eO,dv,hc2,by simp⟩,?_⟩
     intro F' w' c es R v' m' hs hF hy he hR hk hU hFw
     obtain⟨z,hz,rfl⟩:=key hs
     obtain⟨c1,c',e1,l,r,hb1,hb',hc1,hc',hl⟩:=hU
     have hcc:c1=cc:=by rw[hb]at hb1;injection hb1 with hb1;injection hb1 with hb1 _ _;exact hb1.symm
     subst hcc
     have hsz:c'.size=c1.size:=by
      rw[<-bg,<-bg,hc1,hc'];simp[he]
     refine⟨p,c',e1.to (il hsz),rfl,hb',.inl ⟨hS0,np⟩,λk=>(S1 k/\¬S' k)\/R k,?_,λk hk=>hk.imp (λh=>⟨s1 k h.1,h.2⟩) id,?_⟩
     ·have:=w2 F' w' c es R z m' hz hF hy he (λk a b=>hR k a (s1 k b)) (λk a b=>hk k (s1 k a) b (λe=>n1 (e ▸ a))) hFw
      have e3:l++(ds++r)=eO++(ds++dv):=by rw[<-aT,<-hc1,<-aT];exact hc2
      obtain⟨k1,k2⟩:=kM e3 (by omega)
      have k3:=qT k2
      rw[hc',k1,k3]
      exact this
     ·rintro(⟨a,_⟩|a)
      ·exact n1 a
      ·exact np (hR p a hS0)
    ·refine .inr ⟨b2,o2,rfl,s1 _ hb2,ru,hl2,?_⟩
     intro F' w' c es R v' m' hs hF hy he hR hk hU hFw
     obtain⟨z,hz,rfl⟩:=key hs
     have hne:p≠b2:=λe=>n1 (e ▸ hb2)
     refine⟨p,cc,e,rfl,(hk p hS0 np hne).trans hb,.inl ⟨hS0,np⟩,λk=>(S1 k/\¬S' k)\/R k,?_,λk hk=>hk.imp (λh=>⟨s1 k h.1,h.2⟩) id,?_⟩
     ·exact w2 F' w' c es R z m' hz hF hy he (λk a b=>hR k a (s1 k b)) (λk a b c=>hk k (s1 k a) b c) hU hFw
     ·rintro(⟨a,_⟩|a)
      ·exact n1 a
      ·exact np (hR p a hS0)
def Ty.atom:Ty->Bool
 |.sl _|.box _|.ptr _|.jI|.int _|.bool|.str=>true
 |_=>false
theorem pp{t:Ty}(h:t.atom=true):t.width=1:=by cases t <;> simp[Ty.atom]at h <;> rfl
theorem vW{t:Ty}(h:t.atom=true)(cs:List Value)(p q:Nat×Nat)(ρ:List Stp)(hr:bc t cs (some p) ρ=some q):ρ=[]/\p=q:=by
 cases ρ with
 |nil=>cases t <;> (simp only[bc,bh]at hr;exact⟨rfl,hr⟩)
 |cons s ρ=>cases t <;> simp[Ty.atom]at h <;> cases s <;> simp[bc]at hr
theorem pR:∀ (ρ:List Stp) (t:Ty) (cs cs':List Value) (p q:Nat×Nat),bc t cs' (some p) ρ=some q->bc t cs (some p) ρ=some q:=by
 intro ρ
 induction ρ with
 |nil=>intro t cs cs' p q h;cases t <;> exact h
 |cons s ρ ih=>
  intro t cs cs' p q h
  cases t <;> cases s <;> simp only[bc,reduceCtorEq,dy]at h |-
  all_goals grind
theorem FU:∀ (π:List Stp) (t:Ty) (x:t.T) (c c':V) (v:V) (cs cs':List Value) (p q:Nat×Nat) (ρ:List Stp),get? t x π=some c->c.t.atom=true->c'.t.atom=true->cL t x π c'=some v->
 bc v.t cs' (some p) ρ=some q->bc t cs (some p) ρ=some q/\v.t.width=t.width:=by
 intro π
 induction π with
 |nil=>
  intro t x c c' v cs cs' p q ρ hg h1 h2 hr ha
  rw[eV]at hg
  injection hg with hg
  subst hg
  have hv:v=c':=by cases t <;> (simp only[cL,bh]at hr;exact hr.symm)
  subst hv
  obtain⟨rfl,rfl⟩:=vW h2 _ _ _ _ ha
  exact⟨by cases t <;> rfl,by rw[pp h1,pp h2]⟩
 |cons p0 π ih=>
  intro t x c c' v cs cs' p q ρ hg h1 h2 hr ha
  unfold get? at hg
  cases t <;> cases p0 <;> simp only[ft,reduceCtorEq]at hg <;> simp only[cL,reduceCtorEq]at hr
  case st.st t=>
   split at hr
   ·rename_i v2 hv2
    injection hr with hr
    subst hr
    cases ρ with
    |nil=>simp only[bc]at ha |-;exact⟨ha,(ih t x c c' v2 cs cs' p p [] hg h1 h2 hv2 (by cases v2.t <;> rfl)).2⟩
    |cons s ρ=>
     cases s <;> simp only[bc,reduceCtorEq]at ha |-
     exact ih t x c c' v2 cs cs' p q ρ hg h1 h2 hv2 ha
   ·cases hr
  case pair.fst a b=>
   split at hr
   ·rename_i v2 hv2
    injection hr with hr
    subst hr
    have hw:=(ih a x.1 c c' v2 cs cs' p p [] hg h1 h2 hv2 (by cases v2.t <;> rfl)).2
    cases ρ with
    |nil=>simp only[bc]at ha |-;exact⟨ha,by simp only[Ty.width,hw]⟩
    |cons s ρ=>
     cases s <;> simp only[bc,reduceCtorEq]at ha |-
     ·exact⟨(ih a x.1 c c' v2 _ _ p q ρ hg h1 h2 hv2 ha).1,by simp only[Ty.width,hw]⟩
     ·simp only[dy,hw]at ha |-
      refine⟨?_,by simp only[Ty.width,hw]⟩
      have:∀ (t:Ty) (cs cs':List Value) (p q:Nat×Nat) (ρ:List Stp),bc t cs' (some p) ρ=some q->bc t cs (some p) ρ=some q:=λt cs cs' p q ρ h=>pR ρ t cs cs' p q h
      exact this _ _ _ _ _ _ ha
   ·cases hr
  case pair.snd a b=>
   split at hr
   ·rename_i v2 hv2
    injection hr with hr
    subst hr
    have hw:=(ih b x.2 c c' v2 cs cs' p p [] hg h1 h2 hv2 (by cases v2.t <;> rfl)).2
    cases ρ with
    |nil=>simp only[bc]at ha |-;exact⟨ha,by simp only[Ty.width,hw]⟩
    |cons s ρ=>
     cases s <;> simp only[bc,reduceCtorEq]at ha |-
     ·exact⟨pR ρ a _ _ _ _ ha,by simp only[Ty.width,hw]⟩
     ·simp only[dy]at ha |-
      exact⟨(ih b x.2 c c' v2 _ _ _ q ρ hg h1 h2 hv2 ha).1,by simp only[Ty.width,hw]⟩
   ·cases hr
  case box.deref t=>
   split at hr
   ·rename_i v2 hv2
    injection hr with hr
    subst hr
    cases ρ with
    |nil=>simp only[bc]at ha |-;exact⟨ha,rfl⟩
    |cons s ρ=>cases s <;> simp only[bc,reduceCtorEq]at ha
   ·cases hr
section
variable {P:Program} {B:dD} {F:af} {Sg:Nat->af} {cg:Nat->List Value} {σ:St} {a:Act} {w:World}
theorem zF{p o:Nat}{ds:List Value}(h:rq w p o ds):Upd w w p o ds ds:=by
 obtain⟨c,e,hb,l,r,hc,hl⟩:=h
 exact⟨c,c,e,l,r,hb,hb,hc,hc,hl⟩
theorem IA{t0:Ty}{x:(Ty.box t0).T}{π:List Stp}{c':V}{v:V}(h:cL (.box t0) x (.deref::π) c'=some v):∃ v0,cL t0 x π c'=some v0/\v=⟨.box v0.t,v0.x⟩:=by grind [cL]
theorem zG{t0:Ty}{x:(Ty.box t0).T}{π:List Stp}{c c' v:V}(hg:get? (.box t0) x (.deref::π)=some c)(h1:c.t.atom=true)(h2:c'.t.atom=true)(hr:cL (.box t0) x (.deref::π) c'=some v)(cs:List Value):
 (∀ u,VR (.box t0) cs u->VR v.t cs u)/\(∀ ρ q,bc v.t cs none ρ=some q->bc (.box t0) cs none ρ=some q):=by
 obtain⟨v0,hv0,rfl⟩:=IA hr
 refine⟨λu hu=>hu,λρ q ha=>?_⟩
 cases ρ with
 |nil=>simp[bc]at ha
 |cons s ρ=>
  cases s <;> simp only[bc,reduceCtorEq]at ha |-
  split at ha
  ·exact(FU π t0 x c c' v0 _ _ _ q ρ hg h1 h2 hv0 ha).1
  ·cases ha
theorem aP.take(h:aP B F Sg cg σ a w){l:Nat}{v0:Nat}{t0:Ty}{m0:Md}{x0:(Ty.box t0).T}(hl:σ.L l=some ⟨v0,.box t0,m0,x0⟩){π:List Stp}{c:V}(hg:get? (.box t0) x0 (.deref::π)=some c)(ho:du (.box t0) m0 (.deref::π)=true)(hat:c.t.atom=true)
 {v':V} (hr:cL (.box t0) x0 (.deref::π) ⟨.jI,()⟩=some v') {d:Nat} (hU:σ.U d=false) (hv:∃ t',c.t=.sl t'):
 ∃ ds s Sg' cg',resolve w (.box t0) (cg l) none (.deref::π)=some (ds,s)/\
  aP B F Sg' cg' {σ with L:=upd (upd σ.L l (some ⟨v0+1,v'.t,fR m0 (.deref::π) .ro,v'.x⟩)) d (some ⟨0,c.t,atM (.box t0) m0 (.deref::π),c.x⟩),U:=λj=>Nat.beq j d||σ.U j} a w/\cg' d=ds/\(∀ j,j≠d->cg' j=cg j):=by
 obtain⟨ds,s',S',h1,h2,h3,h4⟩:=Iz F w (.deref::π) (.box t0) m0 x0 (cg l) (Sg l) none c (h.lab l _ hl) hg ho ⟨_,_,hr⟩
 obtain⟨⟨p,o⟩,rfl⟩:=iM (.deref::π) _ _ _ _ _ rfl h1
 have hdl:l≠d:=λe=>by subst e;rw[h.used l _ hl]at hU;cases hU
 obtain⟨z,rfl,hz⟩:∃ z,ds=[z]/\z.oneCell'=true:=by
  obtain⟨t',ht⟩:=hv
  obtain⟨ct,cx⟩:=c
  simp only at ht
  subst ht
  exact eW rfl h2
 rcases h4 with⟨_,_,_,h5,_⟩|⟨p',o',h5,hSp,hnp,fu,lH⟩
 ·simp at h5
 injection h5 with h5
 injection h5 with e1 e2
 subst e1;subst e2
 have bF:=lH F w ⟨.jI,()⟩ [z] af.none v' .ro hr (Sub.refl _) ⟨z,rfl,hz⟩ rfl (λk hk=>hk.elim) (λ_ _ _ _=>rfl) (zF fu) (λ_ _=>rfl)
 have uh:=zG hg hat rfl hr (cg l)
 have i1:=h.sJ rfl rfl rfl (aw _) hl (λ_ _ _=>rfl) (b':=⟨v0+1,v'.t,fR m0 (.deref::π) .ro,v'.x⟩) uh.1 uh.2 (cH _) (Sub.refl _) bF (upd σ.L l (some ⟨v0+1,v'.t,fR m0 (.deref::π) .ro,v'.x⟩)) (aG _ _ _) (λj hj=>by rw[aW _ _ hj];exact .inr rfl) (λk hk=>.inl hk)
  (λk hk=>by rcases hk with hk|hk;exact .inl hk.1;exact hk.elim)
 have i2:=i1.jQ (w':=w) rfl rfl rfl (aw _) (l:=d) (b:=⟨0,c.t,atM (.box t0) m0 (.deref::π),c.x⟩) hU (upd (upd σ.L l (some ⟨v0+1,v'.t,fR m0 (.deref::π) .ro,v'.x⟩)) d (some ⟨0,c.t,atM (.box t0) m0 (.deref::π),c.x⟩)) (λ_ _ _=>rfl) h2 (aG _ _ _)
  (λj hj=>by rw[aW _ _ hj];exact .inr rfl)
  (λk hk=>⟨λj bj hj hbj hs=>by
   rw[aW _ _ hj]at hbj
   by_cases e:j=l
   ·subst e;rw[if_pos rfl]at hs;rcases hs with hs|hs;exact hs.2 hk;exact hs.elim
   ·rw[if_neg e]at hs;rw[aW _ _ e]at hbj;exact h.dis j l bj _ e hbj hl k hs (h3 k hk),
   λhf=>h.ek l _ hl k (h3 k hk) hf,h.lt l _ hl k (h3 k hk),h.may l _ hl k (h3 k hk)⟩)
 refine⟨[z],some (p,o),_,_,h1,i2,by simp,λj hj=>by simp[hj]⟩
def Co:Ty->Bool
 |.jI=>true
 |_=>false
def xK{R:Type}(d:TD)(σ:St)(ep ev:ar)(K:St->Option R):Option R:=
 plc σ ep λl b π c=>
  bif Co c.t&&d.ty.atom&&d.ty.vty then
   (match b,π with
   |⟨v0,.box t0,m0,x0⟩,.deref::π0=>
    (match ev with
    |.hdr l2 _ π2 _=>bif π2.isEmpty&&!(Nat.beq l l2)then(match σ.L l2 with
     |some b2=>bif decide (b2.t=d.ty)then(match cL (.box t0) x0 (.deref::π0) ⟨b2.t,b2.x⟩with
      |some v'=>K (σ.jR (upd (upd σ.L l2 none) l (some ⟨v0+1,v'.t,fR m0 (.deref::π0) b2.m,v'.x⟩)))
      |none=>none)else none
     |none=>none)else none
    |ev=>asT ev d.ty λy=>match cL (.box t0) x0 (.deref::π0) ⟨d.ty,y⟩with
     |some v'=>K (σ.jR (upd σ.L l (some ⟨v0+1,v'.t,fR m0 (.deref::π0) (uf ev d.ty),v'.x⟩)))
     |none=>none)
   |_,_=>none)
  else none
theorem Mz(h:aP B F Sg cg σ a w){R:Type}{t:TypeId}{d:TD}(hd:TOk P t d){ep ev:ar}{K:St->Option R}{r:R}(hk:xK d σ ep ev K=some r){vp v:Value}(hp:aF F w σ.L σ.U cg ep vp)(hv:aF F w σ.L σ.U cg ev v):
 ∃ σ' w' Sg',K σ'=some r/\(Instr.storeAt t vp v).run P w=.ok () w'/\aP B F Sg' cg σ' a w'/\σ'.E=σ.E:=by
 unfold xK at hk
 obtain⟨l,b,π,c,hl,hk1,hc,hg,ho,ds,p,o,S',rfl,h1,h2,h3,h4⟩:=rA h hk hp
 clear hk
 cases hud:Co c.t&&d.ty.atom&&d.ty.vty
 ·simp_all
 rw[hud]at hk1
 simp only[cond_true]at hk1
 simp only[ag]at hud
 obtain⟨⟨hjk,hat⟩,hvt⟩:=hud
 have hjt:c.t=.jI:=by cases hct:c.t <;> rw[hct]at hjk <;> first|rfl|cases hjk
 obtain⟨v0,bt,m0,x0⟩:=b
 cases bt with
 |box t0=>
  cases π with
  |nil=>simp at hk1
  |cons s0 π0=>
  cases s0 with
  |deref=>
   simp only at hk1 hg ho h1 h2 h4 h3
   have fin:∀ (es:List Value) (y:d.ty.T) (m':Md) (v':V) (Rw:af) (L':Nat->Option Lab),Rep F w d.ty m' y es Rw->VR d.ty es v->cL (.box t0) x0 (.deref::π0) ⟨d.ty,y⟩=some v'->
    (∀ k,Rw k->∃ l2 b2,l2≠l/\σ.L l2=some b2/\L' l2=none/\Sg l2 k)->L' l=some ⟨v0+1,v'.t,fR m0 (.deref::π0) m',v'.x⟩->(∀ j,j≠l->L' j=none\/L' j=σ.L j)->
    ∃ w' Sg',(Instr.storeAt t (.pointer (some ⟨p,o,none⟩)) v).run P w=.ok () w'/\aP B F Sg' cg (σ.jR L') a w':=by
    intro es y m' v' Rw L' hy hv db hR hLl hL
    obtain⟨ds2,s2,S2,f1,f2,f3,f4⟩:=Iz F w (.deref::π0) (.box t0) m0 x0 (cg l) (Sg l) none c (h.lab l _ hl) hg ho ⟨_,_,db⟩
    rw[h1]at f1
    injection f1 with f1
    injection f1 with f1 f1'
    subst f1;subst f1'
    rcases f4 with⟨_,_,_,f5,_⟩|⟨p',o',f5,hSp,hnp,fu,lH⟩
    ·simp at f5
    injection f5 with f5
    injection f5 with e1 e2
    subst e1;subst e2
    have hel:=aQ _ _ _ _ _ _ _ hy
    have hdl:=aQ _ _ _ _ _ _ _ h2
    have ug:es.length=ds.length:=by rw[hel,hdl,hjt,pp hat];rfl
    obtain⟨u1,u2,u3,u4,u5,u6⟩:=ud fu ug
    have bX:=po fu hd hv.cells hel ug (pL _ _ _ _ _ hy)
    have hRp:¬Rw p:=λhrp=>by
     obtain⟨l2,b2,hne,hb2,_,hk2⟩:=hR p hrp
     exact h.dis l2 l b2 _ hne hb2 hl p hk2 hSp
    have hFp:∀ k,F k->k≠p:=λk hk e=>h.ek l _ hl p hSp (e ▸ hk)
    have hy':Rep F (w.setCells p o es) d.ty m' y es Rw:=aU (Sub.refl _) (λk hk=>u2 k (hFp k hk)) _ _ _ _ _ _ hy (Sub.refl _) (λk hk=>u2 k (λe=>hRp (e ▸ hk)))
    have bF:=lH F (w.setCells p o es) ⟨d.ty,y⟩ es Rw v' m' db (Sub.refl _) hy' ug
     (λk hk hs=>by obtain⟨l2,b2,hne,hb2,_,hk2⟩:=hR k hk;exact(h.dis l2 l b2 _ hne hb2 hl k hk2 hs).elim)
     (λk _ _ hne=>u2 k hne) u1 (λk hk=>u2 k (hFp k hk))
    have uh:=zG hg (by rw[hjt];rfl) hat db (cg l)
    refine⟨_,_,bX,h.sJ u4 u5 u6 (by rw[u3];exact aw _) hl (λk _ hn=>u2 k (λe=>hn (e ▸ hSp))) (b':=⟨v0+1,v'.t,fR m0 (.deref::π0) m',v'.x⟩) uh.1 uh.2 (cH _) (Sub.refl _) bF L' hLl hL (λk hk=>.inl hk) (λk hk=>?_)⟩
    rcases hk with hk|hk
    ·exact .inl hk.1
    ·exact .inr (.inl (hR k hk))
   split at hk1
   ·rename_i l2 n2 π2 c2
    cases hb:π2.isEmpty&&!(Nat.beq l l2)
    ·rw[hb]at hk1;cases hk1
    rw[hb]at hk1
    simp only[cond_true]at hk1
    simp only[ag,bC]at hb
    have hp2:π2=[]:=by cases π2 <;> simp_all
    subst hp2
    have hne:l≠l2:=λe=>by subst e;simp[fc]at hb
    cases hl2:σ.L l2 with
    |none=>rw[hl2]at hk1;cases hk1
    |some b2=>
    rw[hl2]at hk1
    simp only at hk1
    cases hud:decide (b2.t=d.ty)
    ·rw[hud]at hk1;cases hk1
    rw[hud]at hk1
    simp only[cond_true]at hk1
    have hud:=of_decide_eq_true hud
    have hv2:=(hv.2 b2 hl2).2.1 rfl
    have mu:=h.lab l2 b2 hl2
    cases db:cL (.box t0) x0 (.deref::π0) ⟨b2.t,b2.x⟩with
    |none=>rw[db]at hk1;cases hk1
    |some v'=>
    rw[db]at hk1
    simp only at hk1
    obtain⟨d1,d2,dty,d4⟩:=d
    simp only at hud
    subst hud
    obtain⟨w',Sg',e1,e2⟩:=fin (cg l2) b2.x b2.m v' (Sg l2) (upd (upd σ.L l2 none) l (some ⟨v0+1,v'.t,fR m0 (.deref::π0) b2.m,v'.x⟩)) mu hv2 db
     (λk hk=>⟨l2,_,Ne.symm hne,hl2,by rw[aW _ _ (Ne.symm hne),aG],hk⟩) (aG _ _ _)
     (λj hj=>by
      rw[aW _ _ hj]
      by_cases e:j=l2
      ·subst e;rw[aG];exact .inl rfl
      ·rw[aW _ _ e];exact .inr rfl)
    exact⟨_,w',Sg',hk1,e1,e2,rfl⟩
   ·obtain⟨y,es,hk2,hy,hvr⟩:=pP hk1 hv
    cases db:cL (.box t0) x0 (.deref::π0) ⟨d.ty,y⟩with
    |none=>rw[db]at hk2;cases hk2
    |some v'=>
    rw[db]at hk2
    simp only at hk2
    obtain⟨w',Sg',e1,e2⟩:=fin es y _ v' af.none (upd σ.L l (some ⟨v0+1,v'.t,fR m0 (.deref::π0) (uf ev d.ty),v'.x⟩)) hy hvr db (λk hk=>hk.elim) (aG _ _ _) (λj hj=>by rw[aW _ _ hj];exact .inr rfl)
    exact⟨_,w',Sg',hk2,e1,e2,rfl⟩
  |_=>simp at hk1
 |_=>simp at hk1
end
def zH:Ty->Bool
 |.sl _=>true
 |_=>false
theorem xL{t:Ty}(h:zH t=true):∃ t',t=.sl t':=by cases t <;> simp[zH]at h;exact⟨_,rfl⟩
section
variable {α:Type} {R:α->List Value->af->Prop}
theorem FV(hw:∀ y c S,R y c S->c.length=1):∀ {x:List α} {cs:List Value} {S:af},bm R x cs S->bm (Mt R) (x.map some) cs S:=by
 intro x
 induction x with
 |nil=>intro cs S h;exact h
 |cons y ys ih=>
  rintro cs S ⟨c1,c2,S1,S2,rfl,h1,h2,r⟩
  exact⟨c1,c2,S1,S2,rfl,⟨h1,hw _ _ _ h1⟩,ih h2,r⟩
theorem zI:∀ {x:List α} {cs:List Value} {S:af},bm (Mt R) (x.map some) cs S->bm R x cs S:=by
 intro x
 induction x with
 |nil=>intro cs S h;exact h
 |cons y ys ih=>
  rintro cs S ⟨c1,c2,S1,S2,rfl,h1,h2,r⟩
  exact⟨c1,c2,S1,S2,rfl,h1.1,ih h2,r⟩
theorem FW(x:List α)(j:Nat)(y:α):(jK x j).set j (some y)=(x.set j y).map some:=by
 unfold jK
 simp_all
end
theorem Cp{F:af}{w:World}{t:Ty}(ht:t.width=1){m:Md}{x:List t.T}{cs:List Value}{S:af}(h:Rep F w (.sl t) (.own m) x cs S):Rep F w (.sl (.may t)) (.own m) (x.map some) cs S:=by
 obtain⟨a,cap,rfl,h1,h2,h3⟩:=h
 refine⟨a,cap,by rw[bq],by rw[bq];exact h1,h2,h3.imp id ?_⟩
 rintro⟨b,off,c,e,rfl,hb,hc,hS,S1,hr,s1,n1⟩
 rw[ht]at hc hr
 refine⟨b,off,c,e.any,rfl,hb,hc,hS,S1,?_,s1,n1⟩
 rw[bq]
 exact FV (λy c S h=>by rw[aQ _ _ _ _ _ _ _ h,ht]) hr
theorem Cq{F:af}{w:World}{t:Ty}(ht:t.width=1){m:Md}{x:List t.T}{cs:List Value}{S:af}(h:Rep F w (.sl (.may t)) (.own m) (x.map some) cs S):Rep F w (.sl t) (.own m) x cs S:=by
 obtain⟨a,cap,rfl,h1,h2,h3⟩:=h
 refine⟨a,cap,by rw[bq],by rw[bq]at h1;exact h1,h2,h3.imp id ?_⟩
 rintro⟨b,off,c,e,rfl,hb,hc,hS,S1,hr,s1,n1⟩
 rw[bq]at hr
 refine⟨b,off,c,e.cast ht,rfl,hb,by rw[ht];exact hc,hS,S1,?_,s1,n1⟩
 rw[ht]
 exact zI hr
theorem MA{F:af}{w:World}{t:Ty}{m:Md}{x:List t.T}{j:Nat}(hj:j<x.length){cs:List Value}{S:af}(h:Rep F w (.sl (.may t)) (.own m) (jK x j) cs S):Rep F w (.hol t) (.own m) (x,j) cs S:=⟨hj,h⟩
theorem MB{F:af}{w:World}{t:Ty}{m:Md}{x:List t.T×Nat}{cs:List Value}{S:af}(h:Rep F w (.hol t) (.own m) x cs S):x.2<x.1.length/\Rep F w (.sl (.may t)) (.own m) (jK x.1 x.2) cs S:=h
theorem zJ{w:World}{t:Ty}(ht:t.width=1)(cs:List Value)(s:Option (Nat×Nat))(i:Int):resolve w (.sl t) cs s [.idx i]=resolve w (.sl (.may t)) cs s [.idx i]:=by
 have e:(Ty.may t).width=1:=rfl
 simp_all [resolve]
section
variable {P:Program} {B:dD} {F:af} {Sg:Nat->af} {cg:Nat->List Value} {σ:St} {a:Act} {w:World}
theorem aP.TH(h:aP B F Sg cg σ a w){l:Nat}{v0:Nat}{t0:Ty}{m0:Md}{x0:List t0.T}(hl:σ.L l=some ⟨v0,.sl t0,.own m0,x0⟩){i:Int}(hi:0<=i){y:t0.T}(hy:x0[i.toNat]?=some y)(ht:∃ t',t0=.sl t'){d:Nat}(hU:σ.U d=false):
 ∃ ds s Sg' cg',resolve w (.sl t0) (cg l) none [.idx i]=some (ds,s)/\
  aP B F Sg' cg' {σ with L:=upd (upd σ.L l (some ⟨v0+1,.hol t0,.own m0,(x0,i.toNat)⟩)) d (some ⟨0,t0,m0,y⟩),U:=λj=>Nat.beq j d||σ.U j} a w/\cg' d=ds/\(∀ j,j≠d->cg' j=cg j):=by
 have hw1:t0.width=1:=by obtain⟨t',rfl⟩:=ht;rfl
 have hm:=Cp hw1 (h.lab l _ hl)
 have hlen:i.toNat<x0.length:=(List.getElem?_eq_some_iff.1 hy).1
 have hg:get? (.sl (.may t0)) (x0.map some) [.idx i]=some ⟨.may t0,some y⟩:=by simp[get?,ft,hi,hy]
 obtain⟨ds,s',S',h1,h2,h3,h4⟩:=focus F w [.idx i] (.sl (.may t0)) (.own m0) (x0.map some) (cg l) (Sg l) none (.may t0) (some y) hm hg rfl
 obtain⟨⟨p,o⟩,rfl⟩:=iM [.idx i] _ _ _ _ _ rfl h1
 have hdl:l≠d:=λe=>by subst e;rw[h.used l _ hl]at hU;cases hU
 have h2':Rep F w t0 m0 y ds S':=h2.1
 obtain⟨z,rfl,hz⟩:∃ z,ds=[z]/\z.oneCell'=true:=by
  obtain⟨t',rfl⟩:=ht
  exact eW rfl h2'
 rcases h4 with⟨_,_,_,h5,_⟩|⟨p',o',h5,hSp,hnp,fu,lH⟩
 ·simp at h5
 injection h5 with h5
 injection h5 with e1 e2
 subst e1;subst e2
 have db:jM (.sl (.may t0)) (x0.map some) [.idx i] (.may t0) none=some ((x0.map some).set i.toNat none):=by simp[jM,iR,hi,hy]
 have TI:=lH F w none [z] af.none _ m0 (.own m0) ⟨m0,rfl,rfl,rfl⟩ (Sub.refl _) db ⟨z,rfl,hz⟩ rfl (λk hk=>hk.elim) (λ_ _ _ _=>rfl) (zF fu) (λ_ _=>rfl)
 have bF:=MA (t:=t0) hlen TI
 have i1:=h.sJ rfl rfl rfl (aw _) hl (λ_ _ _=>rfl) (b':=⟨v0+1,.hol t0,.own m0,(x0,i.toNat)⟩) (λu hu=>hu) (λρ q ha=>by
  cases ρ with
  |nil=>simp[bc]at ha
  |cons s ρ=>cases s <;> simp only[bc,reduceCtorEq]at ha |-;exact ha) (cH _) (Sub.refl _) bF (upd σ.L l (some ⟨v0+1,.hol t0,.own m0,(x0,i.toNat)⟩)) (aG _ _ _) (λj hj=>by rw[aW _ _ hj];exact .inr rfl) (λk hk=>.inl hk)
  (λk hk=>by rcases hk with hk|hk;exact .inl hk.1;exact hk.elim)
 have i2:=i1.jQ (w':=w) rfl rfl rfl (aw _) (l:=d) (b:=⟨0,t0,m0,y⟩) hU (upd (upd σ.L l (some ⟨v0+1,.hol t0,.own m0,(x0,i.toNat)⟩)) d (some ⟨0,t0,m0,y⟩)) (λ_ _ _=>rfl) h2' (aG _ _ _)
  (λj hj=>by rw[aW _ _ hj];exact .inr rfl)
  (λk hk=>⟨λj bj hj hbj hs=>by
   rw[aW _ _ hj]at hbj
   by_cases e:j=l
   ·subst e;rw[if_pos rfl]at hs;rcases hs with hs|hs;exact hs.2 hk;exact hs.elim
   ·rw[if_neg e]at hs;rw[aW _ _ e]at hbj;exact h.dis j l bj _ e hbj hl k hs (h3 k hk),
   λhf=>h.ek l _ hl k (h3 k hk) hf,h.lt l _ hl k (h3 k hk),h.may l _ hl k (h3 k hk)⟩)
 exact⟨[z],some (p,o),_,_,(zJ hw1 _ _ _).trans h1,i2,by simp,λj hj=>by simp[hj]⟩
def Cr(σ:St)(ep:ar):Bool:=match ep with
 |.adr l _ [.idx _] _=>(match σ.L l with
  |some ⟨_,.hol _,_,_⟩=>true
  |_=>false)
 |_=>false
def ui{R:Type}(d:TD)(σ:St)(ep ev:ar)(K:St->Option R):Option R:=
 match ep with
 |.adr l _ [.idx i] _=>(match σ.L l with
  |some ⟨v0,.hol t0,.own m0,x0⟩=>(match ev with
   |.hdr l2 _ [] _=>(match σ.L l2 with
    |some b2=>bif !(Nat.beq l l2)&&zH t0&&decide (d.ty=t0)&&decide (b2.m=m0)then
     (if h:b2.t=t0 then(if 0<=i/\i.toNat=x0.2 then K (σ.jR (upd (upd σ.L l2 none) l (some ⟨v0+1,.sl t0,.own m0,(x0.1.set x0.2 (h ▸ b2.x):List t0.T)⟩)))else none)else none)else none
    |none=>none)
   |_=>none)
  |_=>none)
 |_=>none
theorem IB(h:aP B F Sg cg σ a w){R:Type}{t:TypeId}{d:TD}(hd:TOk P t d){ep ev:ar}{K:St->Option R}{r:R}(hk:ui d σ ep ev K=some r){vp v:Value}(hp:aF F w σ.L σ.U cg ep vp)(hv:aF F w σ.L σ.U cg ev v):
 ∃ σ' w' Sg',K σ'=some r/\(Instr.storeAt t vp v).run P w=.ok () w'/\aP B F Sg' cg σ' a w'/\σ'.E=σ.E:=by
 unfold ui at hk
 split at hk
 case h_2=>cases hk
 rename_i l n i c
 split at hk
 case h_2=>cases hk
 rename_i v0 t0 m0 x0 hl
 split at hk
 case h_2=>cases hk
 rename_i l2 n2 c2
 cases hl2:σ.L l2 with
 |none=>rw[hl2]at hk;cases hk
 |some b2=>
 rw[hl2]at hk
 simp only at hk
 cases hud:!(Nat.beq l l2)&&zH t0&&decide (d.ty=t0)&&decide (b2.m=m0)
 ·simp_all
 rw[hud]at hk
 simp only[cond_true]at hk
 simp only[ag,bC,decide_eq_true_eq]at hud
 obtain⟨⟨⟨hne,hsl⟩,hdt⟩,hm2⟩:=hud
 have hne:l≠l2:=λe=>by subst e;simp[fc]at hne
 split at hk
 case isFalse=>cases hk
 rename_i ht2
 split at hk
 case isFalse=>cases hk
 rename_i Wf
 obtain⟨hi0,hij⟩:=Wf
 have hw1:t0.width=1:=by obtain⟨t',rfl⟩:=xL hsl;rfl
 obtain⟨hj,bF⟩:=MB (h.lab l _ hl)
 obtain⟨v2,t2,m2,x2⟩:=b2
 simp only at ht2 hm2
 subst ht2
 subst hm2
 have hlen:x0.2<(jK x0.1 x0.2).length:=by unfold jK;simpa using hj
 have vX:(jK x0.1 x0.2)[i.toNat]?=some none:=by grind [jK]
 have hg:get? (.sl (.may t2)) (jK x0.1 x0.2) [.idx i]=some ⟨.may t2,none⟩:=by simp[get?,ft,hi0,vX]
 obtain⟨ds,s',S',h1,h2,h3,h4⟩:=focus F w [.idx i] (.sl (.may t2)) (.own m2) (jK x0.1 x0.2) (cg l) (Sg l) none (.may t2) none bF hg rfl
 obtain⟨⟨p,o⟩,rfl⟩:=iM [.idx i] _ _ _ _ _ rfl h1
 obtain⟨z,rfl,hz⟩:=h2
 rcases h4 with⟨_,_,_,h5,_⟩|⟨p',o',h5,hSp,hnp,fu,lH⟩
 ·simp at h5
 injection h5 with h5
 injection h5 with e1 e2
 subst e1;subst e2
 have hvp:vp=.pointer (some ⟨p,o,none⟩):=by
  refine(hp.2 _ hl).2.1 rfl p o ?_
  have e:(Ty.may t2).width=1:=rfl
  simp only[resolve,e,iq]at h1
  simp only[bc,hw1,iq]
  split at h1
  ·rename_i b off len _ hcs
   simp only[hcs]
   split at h1
   ·rename_i hlt
    rw[if_pos hlt]
    injection h1 with h1
    injection h1 with _ h1
   ·cases h1
  ·cases h1
 have hv2:=(hv.2 _ hl2).2.1 rfl
 have mu:=h.lab l2 _ hl2
 have hel:=aQ _ _ _ _ _ _ _ mu
 simp only[hw1]at hel
 have ug:(cg l2).length=[z].length:=hel
 obtain⟨u1,u2,u3,u4,u5,u6⟩:=ud fu ug
 have bX:=po fu hd hv2.cells (by rw[hdt,hw1];exact hel) ug (pL _ _ _ _ _ mu)
 have hRp:¬Sg l2 p:=λhk2=>h.dis l2 l _ _ (Ne.symm hne) hl2 hl p hk2 hSp
 have hFp:∀ k,F k->k≠p:=λk hk e=>h.ek l _ hl p hSp (e ▸ hk)
 have hy':Rep F (w.setCells p o (cg l2)) t2 m2 x2 (cg l2) (Sg l2):=aU (Sub.refl _) (λk hk=>u2 k (hFp k hk)) _ _ _ _ _ _ mu (Sub.refl _) (λk hk=>u2 k (λe=>hRp (e ▸ hk)))
 have db:jM (.sl (.may t2)) (jK x0.1 x0.2) [.idx i] (.may t2) (some x2)=some ((jK x0.1 x0.2).set i.toNat (some x2)):=by simp[jM,iR,hi0,vX]
 have Qa:=lH F (w.setCells p o (cg l2)) (some x2) (cg l2) (Sg l2) _ m2 (.own m2) ⟨m2,rfl,rfl,rfl⟩ (Sub.refl _) db ⟨hy',hel⟩ ug
  (λk hk hs=>(h.dis l2 l _ _ (Ne.symm hne) hl2 hl k hk hs).elim) (λk _ _ hne=>u2 k hne) u1 (λk hk=>u2 k (hFp k hk))
 rw[hij,FW]at Qa
 have TJ:=Cq hw1 Qa
 refine⟨_,_,_,hk,by rw[hvp];exact bX,h.sJ u4 u5 u6 (by rw[u3];exact aw _) hl (λk _ hn=>u2 k (λe=>hn (e ▸ hSp))) (b':=⟨v0+1,.sl t2,.own m2,x0.1.set x0.2 x2⟩) (λu hu=>hu) (λρ q ha=>by
  cases ρ with
  |nil=>simp[bc]at ha
  |cons s ρ=>cases s <;> simp only[bc,reduceCtorEq]at ha |-;exact ha) (cH _) (Sub.refl _) TJ _ (aG _ _ _) (λj hj=>by
   rw[aW _ _ hj]
   by_cases e:j=l2
   ·subst e;rw[aG];exact .inl rfl
   ·rw[aW _ _ e];exact .inr rfl) (λk hk=>.inl hk) (λk hk=>?_),rfl⟩
 rcases hk with hk|hk
 ·exact .inl hk.1
 ·exact .inr (.inl ⟨l2,_,Ne.symm hne,hl2,by rw[aW _ _ (Ne.symm hne),aG],hk⟩)
def xSt{R:Type}(d:TD)(σ:St)(ep ev:ar)(K:St->Option R):Option R:=bif Cr σ ep then ui d σ ep ev K else lK d σ ep ev K
theorem QL(h:aP B F Sg cg σ a w){R:Type}{t:TypeId}{d:TD}(hd:TOk P t d){ep ev:ar}{K:St->Option R}{r:R}(hk:xSt d σ ep ev K=some r){vp v:Value}(hp:aF F w σ.L σ.U cg ep vp)(hv:aF F w σ.L σ.U cg ev v):
 ∃ σ' w' Sg',K σ'=some r/\(Instr.storeAt t vp v).run P w=.ok () w'/\aP B F Sg' cg σ' a w'/\σ'.E=σ.E:=by grind [xSt,FT,IB]
def QM(σ:St)(ex:ar):Bool:=match ex with
 |.hdr l _ [] _=>(match σ.L l with
  |some ⟨_,.hol _,_,_⟩=>true
  |_=>false)
 |_=>false
def jF{R:Type}(TT:Tab)(σ:St)(t:TypeId)(ex ei:ar)(K:ar->Option R):Option R:=
 match ex with
 |.hdr l _ [] _=>(match σ.L l with
  |some ⟨v0,.hol t0,.own _,x0⟩=>jP ei λi=>(match TT t with
   |some d=>(match d.kd with
    |.slice e=>(match TT e with
     |some de=>bif Nat.blt 0 v0&&decide (de.ty=t0)then(if 0<=i/\i.toNat=x0.2 then K (.adr l 0 [.idx i] ⟨.jI,()⟩)else none)else none
     |none=>none)
    |_=>none)
   |none=>none)
  |_=>none)
 |_=>none
theorem xM(h:aP B F Sg cg σ a w){R:Type}{TT:Tab}(hT:cK P TT){t:TypeId}{ex ei:ar}{K:ar->Option R}{r:R}(hk:jF TT σ t ex ei K=some r){v vi:Value}(he:aF F w σ.L σ.U cg ex v)(hi:aF F w σ.L σ.U cg ei vi):
 ∃ e' z,K e'=some r/\(Instr.indexAt t v vi).run P w=.ok z w/\aF F w σ.L σ.U cg e' z:=by
 unfold jF at hk
 split at hk
 case h_2=>cases hk
 rename_i l n c
 split at hk
 case h_2=>cases hk
 rename_i v0 t0 m0 x0 hl
 obtain⟨k,i,hk,rfl,_⟩:=gF hk hi
 cases h1:TT t with
 |none=>rw[h1]at hk;cases hk
 |some d=>
 rw[h1]at hk
 simp only at hk
 have hd:=(hT t d h1).desc
 split at hk
 case h_2=>cases hk
 rename_i e hkd
 rw[hkd]at hd
 simp only at hd
 cases h2:TT e with
 |none=>rw[h2]at hk;cases hk
 |some de=>
 rw[h2]at hk
 simp only at hk
 have hde:=hT e de h2
 cases hb:Nat.blt 0 v0&&decide (de.ty=t0)
 ·simp_all
 rw[hb]at hk
 simp only[cond_true]at hk
 simp only[ag,decide_eq_true_eq]at hb
 obtain⟨hv0,hty⟩:=hb
 have hv0:0<v0:=kJ hv0
 split at hk
 case isFalse=>cases hk
 rename_i hij
 obtain⟨i0,hij⟩:=hij
 obtain⟨hj,ao,cap,hcs,hlc,_,h3⟩:=h.lab l _ hl
 have hlen:List.length (jK x0.1 x0.2)=x0.1.length:=by unfold jK;simp
 simp only at hj
 have hvr:=(he.2 _ hl).2.1 rfl
 simp only[VR,Ty.agg]at hvr
 rcases h3 with h3|⟨b,off,c',e',rfl,_⟩
 ·simp_all
 simp only[hlen]at hcs
 have hvv:v=.slice (some ⟨b,off,none⟩) x0.1.length cap:=by simp_all
 subst hvv
 refine⟨_,_,hk,run_indexAt_slice hd hde i0 (by omega),he.1,λbb hbb=>?_⟩
 rw[hl]at hbb
 injection hbb with hbb
 subst hbb
 refine⟨az _,λ_ p o hr=>?_,λh0=>absurd h0 (Nat.ne_of_lt hv0)⟩
 simp only[hcs,bc]at hr
 rw[if_pos ⟨i0,by omega⟩]at hr
 have hr':(b,off+i.toNat*t0.width)=(p,o):=dz hr
 injection hr' with e1 e2
 rw[cQ,hty,<-e1,<-e2]
def FX{R:Type}(TT:Tab)(σ:St)(t:TypeId)(ex ei:ar)(K:ar->Option R):Option R:=bif QM σ ex then jF TT σ t ex ei K else gl TT σ t ex ei K
theorem MC(h:aP B F Sg cg σ a w){R:Type}{TT:Tab}(hT:cK P TT){t:TypeId}{ex ei:ar}{K:ar->Option R}{r:R}(hk:FX TT σ t ex ei K=some r){v vi:Value}(he:aF F w σ.L σ.U cg ex v)(hi:aF F w σ.L σ.U cg ei vi):
 ∃ e' z,K e'=some r/\(Instr.indexAt t v vi).run P w=.ok z w/\aF F w σ.L σ.U cg e' z:=by grind [FX,o9,xM]
end
end
end Go.Proofs.YtphipehmbefejaaGreat.Rf
