/- A part of a proof that a given statement (the one of this claim: the name of its theorem ends in _holds) is true of the program, with no condition ahead of it. Printed by wip/dev/pack2.py out of the texts in wip. -/
import Derived.Below
import Derived.Calls
import Derived.Orders
import Derived.Laws.IdiomCopy
import Derived.Laws.Cells
import Derived.Laws.Entries
import Derived.Deep.AppendSrc
import Derived.Laws.StructEq
import Derived.Laws.Small
import Derived.Deep.Upon
import Derived.Laws.AppendOwn
import Derived.Laws.Append
import Derived.Conc.LoneSelectN
import Derived.Laws.BytesArg
import Derived.ChangeKeysEq
import Derived.Laws.IdiomStrings
import Derived.Laws.Pointers
import Derived.MapKept
import Derived.Laws.Cover3
import Derived.Lib.SliceRun
import Derived.WalkSpells
import Derived.Conc.LoneSelect
import Derived.Test.YtphipehmbefejaaGreatProg
import Derived.KernelRfl
import Derived.ProofKit
import Derived.OpenShut
import Derived.WalkKit
import Derived.Lib.Hide
import Derived.Lib.AppendZerosOnto
import Derived.Lib.Overlaps
import Derived.Shelf.RegionOpenPlain
import Derived.Laws.Externs
import Derived.Shelf.SlSortCmp.NoneTotal
import Derived.Test.YtphipehmbefejaaGreatRows
set_option linter.unusedVariables false
set_option linter.unusedSimpArgs false
namespace Go.Proofs.YtphipehmbefejaaGreat.Rf
open Go
noncomputable section
abbrev qK:=@List.take_succ_eq_append_getElem
abbrev qL:=@Nat.testBit_eq_decide_div_mod_eq
abbrev gy:=@List.drop_append_of_le_length
abbrev dB:=@List.eq_nil_of_length_eq_zero
abbrev fJ:=@List.take_append_of_le_length
abbrev wz:=@Nat.two_pow_add_eq_or_of_lt
abbrev nM:=@Int.fdiv_eq_ediv_of_nonneg
abbrev ij:=@Classical.byContradiction
abbrev cL:=@List.drop_eq_getElem_cons
abbrev nN:=@List.pairwise_iff_getElem
abbrev kL:=@Option.isSome_iff_exists
abbrev qM:=@List.append_cancel_left
abbrev kM:=@List.length_eq_zero_iff
abbrev nO:=@List.pairwise_singleton
abbrev qN:=@Nat.add_sub_cancel_left
abbrev cf:=@Option.bind_eq_some_iff
abbrev eo:=@List.drop_eq_nil_of_le
abbrev kN:=@List.drop_of_length_le
abbrev nP:=@List.length_pos_of_mem
abbrev bP:=@List.take_of_length_le
abbrev gz:=@MapKept.run_getObj_map
abbrev nQ:=@Nat.div_div_eq_div_mul
abbrev jB:=@Nat.testBit_lt_two_pow
abbrev qO:=@Option.map_eq_some_iff
abbrev ik:=@Bool.and_eq_false_iff
abbrev gA:=@List.length_filter_le
abbrev il:=@List.length_replicate
abbrev im:=@List.length_singleton
abbrev eE:=@List.take_append_drop
abbrev bh:=@Nat.eq_of_beq_eq_true
abbrev gB:=@Nat.le_of_ble_eq_true
abbrev iq:=@Array.toArray_toList
abbrev eF:=@Bool.or_eq_false_iff
abbrev bw:=@List.mem_cons_of_mem
abbrev fa:=@List.mem_iff_getElem
abbrev ir:=@List.mem_of_mem_drop
abbrev qP:=@List.mem_of_mem_take
abbrev gC:=@List.pairwise_append
abbrev fK:=@Nat.eq_of_testBit_eq
abbrev fL:=@Nat.mul_le_mul_right
abbrev iu:=@Nat.pow_le_pow_right
abbrev nS:=@Nat.pow_lt_pow_right
abbrev aW:=@Array.length_toList
abbrev qQ:=@Array.toList_append
abbrev qR:=@Array.toList_modify
abbrev dl:=@Int.toNat_of_nonneg
abbrev gD:=@List.flatMap_append
abbrev kO:=@List.map_congr_left
abbrev qS:=@List.take_succ_cons
abbrev qT:=@Nat.add_le_add_left
abbrev kP:=@Nat.testBit_two_pow
abbrev nT:=@BitVec.toNat_ofInt
abbrev ap:=@Bool.false_eq_true
abbrev jC:=@Bool.false_ne_true
abbrev aJ:=@Int.natCast_nonneg
abbrev kQ:=@List.filter_append
abbrev aj:=@List.length_append
abbrev bm:=@List.mem_cons_self
abbrev aL:=@List.mem_singleton
abbrev dC:=@List.pairwise_cons
abbrev qU:=@List.set_cons_zero
abbrev du:=@Nat.eq_zero_or_pos
abbrev nU:=@Nat.lt_of_le_of_lt
abbrev bA:=@Nat.lt_of_lt_of_le
abbrev nV:=@Array.size_append
abbrev bx:=@Bool.not_eq_true'
abbrev aa:=@Int.toNat_natCast
abbrev aO:=@List.append_assoc
abbrev jD:=@List.flatMap_cons
abbrev fc:=@List.foldl_append
abbrev kR:=@List.length_range
abbrev qV:=@List.size_toArray
abbrev jE:=@List.take_add_one
abbrev fe:=@Nat.lt_succ_of_lt
abbrev qW:=@Nat.or_lt_two_pow
abbrev qX:=@Option.bind_assoc
abbrev bn:=@Option.some.injEq
abbrev aQ:=@Result.andThen_ok
abbrev iw:=@Array.toList_map
abbrev qY:=@BitVec.toNat_and
abbrev ag:=@Bool.and_eq_true
abbrev dm:=@Bool.cond_eq_ite
abbrev cD:=@List.all_eq_true
abbrev gE:=@List.any_eq_true
abbrev dN:=@List.cons_append
abbrev qZ:=@List.countP_cons
abbrev ff:=@List.drop_length
abbrev nW:=@List.filter_cons
abbrev q8:=@List.flatMap_nil
abbrev ba:=@List.getElem_mem
abbrev aM:=@List.length_cons
abbrev bB:=@List.length_drop
abbrev aN:=@List.length_take
abbrev dD:=@List.mem_flatMap
abbrev bX:=@List.not_mem_nil
abbrev cE:=@List.take_length
abbrev cF:=@Nat.lt_succ_self
abbrev q9:=@Nat.min_eq_right
abbrev nX:=@Option.bind_none
abbrev gF:=@Option.bind_some
abbrev jF:=@Option.getD_some
abbrev rc:=@BitVec.toNat_or
abbrev bZ:=@Bool.eq_iff_iff
abbrev aG:=@Bool.or_eq_true
abbrev kS:=@List.append_inj
abbrev b9:=@List.append_nil
abbrev eG:=@List.cons.injEq
abbrev ix:=@List.foldl_cons
abbrev bJ:=@List.length_map
abbrev bD:=@List.length_nil
abbrev fg:=@List.length_set
abbrev nY:=@List.length_zip
abbrev dO:=@List.map_append
abbrev nZ:=@List.map_const'
abbrev au:=@List.mem_append
abbrev fh:=@List.mem_filter
abbrev bL:=@List.nil_append
abbrev n5:=@List.nodup_cons
abbrev gG:=@List.range_succ
abbrev n9:=@List.take_left'
abbrev rf:=@Nat.div_le_self
abbrev cS:=@Nat.min_eq_left
abbrev rh:=@Nat.min_le_left
abbrev cT:=@Option.map_some
abbrev cu:=@Option.some.inj
abbrev oa:=@Bool.and_assoc
abbrev dE:=@Bool.false_and
abbrev aI:=@Bool.not_false
abbrev kT:=@Int.ofNat_tdiv
abbrev oc:=@Int.ofNat_tmod
abbrev gH:=@List.drop_drop
abbrev od:=@List.drop_left
abbrev kU:=@List.drop_take
abbrev cU:=@List.drop_zero
abbrev cz:=@List.mem_range
abbrev kV:=@List.take_take
abbrev kW:=@Nat.testBit_or
abbrev cV:=@Bool.false_or
abbrev aA:=@Bool.not_true
abbrev jG:=@Bool.or_false
abbrev bG:=@Bool.true_and
abbrev oe:=@Int.lt_irrefl
abbrev oh:=@List.all_cons
abbrev fi:=@List.map_cons
abbrev ay:=@List.mem_cons
abbrev cG:=@Nat.add_assoc
abbrev eH:=@Nat.lt_irrefl
abbrev cW:=@Addr.add_lit
abbrev fj:=@Bool.or_true
abbrev dP:=@Bool.true_or
abbrev fM:=@List.mem_map
abbrev kX:=@Nat.add_comm
abbrev fN:=@Nat.add_zero
abbrev cX:=@Nat.beq_refl
abbrev iy:=@Nat.le_of_eq
abbrev oi:=@Nat.le_of_lt
abbrev bu:=@Nat.le_trans
abbrev ak:=@Nat.lt_or_ge
abbrev kY:=@Nat.mul_zero
abbrev iz:=@Nat.pow_succ
abbrev kZ:=@Nat.pow_zero
abbrev jH:=@Nat.succ_mul
abbrev et:=@Nat.zero_add
abbrev aP:=@Sem.run_bind
abbrev bo:=@Sem.run_pure
abbrev iA:=@Int.le_refl
abbrev fO:=@Nat.add_mul
abbrev lc:=@Nat.div_one
abbrev ar:=@Nat.le_refl
abbrev gI:=@Nat.mul_one
abbrev oj:=@Nat.sub_mul
abbrev aC:=@Nat.zero_le
abbrev lg:=@Nat.blt_eq
abbrev eI:=@Nat.mod_lt
abbrev jI:=@Iff.rfl
end
noncomputable section
inductive Ty where
 |int (k:IntKind)
 |bool
 |str
 |unit
 |pair (a b:Ty)
 |st (t:Ty)
 |sl (t:Ty)
 |arr (n:Nat) (t:Ty)
 |box (t:Ty)
 |ptr (t:Ty)
 |jM
 |hol (t:Ty)
 |may (t:Ty)
 |chan
 |fn (f:Nat)
 |map (k v:Ty)
 |nl (t:Ty)
 deriving DecidableEq,Inhabited
inductive Md where
 |ro
 |own (e:Md)
 |pr (a b:Md)
 deriving DecidableEq,Inhabited
def Md.fst:Md->Md
 |.pr a _=>a
 |_=>.ro
def Md.snd:Md->Md
 |.pr _ b=>b
 |_=>.ro
def Md.el:Md->Md
 |.own e=>e
 |_=>.ro
abbrev Ty.T:Ty->Type
 |.int _=>Int
 |.bool=>Bool
 |.str=>List Int
 |.unit=>Unit
 |.pair a b=>a.T×b.T
 |.st t=>t.T
 |.sl t=>List t.T
 |.arr _ t=>List t.T
 |.box t=>t.T
 |.ptr t=>Option t.T
 |.jM=>Unit
 |.hol t=>List t.T×Nat
 |.may t=>Option t.T
 |.chan=>Nat×List Int
 |.fn _=>Unit
 |.map k v=>List (k.T×v.T)
 |.nl t=>List t.T
def Ty.width:Ty->Nat
 |.unit=>0
 |.pair a b=>a.width+b.width
 |.st t=>t.width
 |.arr n t=>n*t.width
 |_=>1
def Ty.flat:Ty->Bool
 |.pair a b=>a.flat&&b.flat
 |.st t=>t.flat
 |.arr _ t=>t.flat
 |.sl _|.box _|.ptr _|.hol _|.may _|.chan|.map _ _|.nl _=>false
 |_=>true
def Ty.agg:Ty->Bool
 |.st _|.arr _ _=>true
 |_=>false
def kLo:IntKind->Int
 |.i8=>-128
 |.i16=>-32768
 |.i32=>-2147483648
 |.i64=>-9223372036854775808
 |_=>0
def kHi:IntKind->Int
 |.i8=>127
 |.i16=>32767
 |.i32=>2147483647
 |.i64=>9223372036854775807
 |.u8=>255
 |.u16=>65535
 |.u32=>4294967295
 |.u64=>18446744073709551615
def inK(k:IntKind)(n:Int):Prop:=kLo k<=n/\n<=kHi k
theorem eJ(k:IntKind)(n:Int):inK k (k.wrap n):=by
 cases k <;> simp[inK,kLo,kHi,IntKind.wrap,IntKind.bits,IntKind.signed] <;> (try split) <;> omega
theorem jN{k:IntKind}{n:Int}(h:inK k n):k.wrap n=n:=by
 obtain⟨h1,h2⟩:=h
 cases k <;> simp[kLo,kHi]at h1 h2 <;> simp[IntKind.wrap,IntKind.bits,IntKind.signed] <;> (try split) <;> omega
def cn(u:ByteArray):List Int:=u.data.toList.map λb=>(b.toNat:Int)
abbrev af:=Nat->Prop
def af.none:af:=λ_=>False
def af.or(A B:af):af:=λk=>A k\/B k
def Dis(A B:af):Prop:=∀ k,A k->B k->False
def Sub(A B:af):Prop:=∀ k,A k->B k
theorem Sub.refl(A:af):Sub A A:=λ_ h=>h
theorem Sub.trans{A B C:af}(h:Sub A B)(k:Sub B C):Sub A C:=λx hx=>k x (h x hx)
theorem Dis.symm{A B:af}(h:Dis A B):Dis B A:=λk a b=>h k b a
theorem Dis.mono{A B A' B':af}(h:Dis A B)(ha:Sub A' A)(hb:Sub B' B):Dis A' B':=λk a b=>h k (ha k a) (hb k b)
theorem Dis.none(A:af):Dis A af.none:=λ_ _ h=>h
def At(w:World)(a:Addr)(ds:List Value):Prop:=∀ j v,ds[j]?=some v->w.cell? (a.add j)=some v
def bp{α:Type}(R:α->List Value->af->Prop):List α->List Value->af->Prop
 |[],cs,_=>cs=[]
 |y::ys,cs,S=>∃ c1 c2 S1 S2,cs=c1++c2/\R y c1 S1/\bp R ys c2 S2/\Sub S1 S/\Sub S2 S/\Dis S1 S2
structure Mark(n:Nat)(z:Nat:=1)where
 t:TypeId
 a:Nat
 b:Nat
 ok:∀ j,j<n->¬(a<=j/\j<b)
 en:z≠1->¬(a<=n/\n<b)
def Mark.free(n:Nat){z:Nat}(t:TypeId):Mark n z:=⟨t,0,0,λj _ h=>by omega,λ_ h=>by omega⟩
def Mark.to{n m z:Nat}(e:Mark n z)(h:m<=n):Mark m z:=⟨e.t,e.a,e.b,λj hj=>e.ok j (bA hj h),λhz=>(ak m n).elim (λhl=>e.ok m hl) (λhg=>by rw[Nat.le_antisymm h hg];exact e.en hz)⟩
def Mark.cast{n z z':Nat}(e:Mark n z)(h:z'=z):Mark n z':=⟨e.t,e.a,e.b,e.ok,λhz=>e.en (λh'=>hz (h.trans h'))⟩
def Mark.any{n z:Nat}(e:Mark n z):Mark n:=⟨e.t,e.a,e.b,e.ok,λh=>absurd rfl h⟩
theorem Mark.frz{w:World}{b z:Nat}{c:Array Value}{e:Mark c.size z}(hb:w.heap[b]?=some (.cells c e.t (e.a,e.b))){a:Addr}(ha:a.block=b)(hj:a.off<c.size):w.frozen? a=false:=by
 have h:=e.ok a.off hj
 simp only[World.frozen?,ha,hb]
 rcases ak a.off e.a with h1|h1
 ·have:decide (e.a<=a.off)=false:=decide_eq_false (by omega)
  simp[this]
 ·have:decide (a.off<e.b)=false:=decide_eq_false (λh2=>h ⟨h1,h2⟩)
  simp[this]
def DD(w:World)(sz:Nat){α:Type}(R:α->List Value->af->Prop)(x:List α)(cs:List Value)(S:af):Prop:=
 ∃ a cap,cs=[.slice a x.length cap]/\x.length<=cap/\cap<=maxLen/\
  (cap=0\/∃ (b off:Nat) (c:Array Value) (e:Mark c.size sz),a=some ⟨b,off,none⟩/\w.heap[b]?=some (.cells c e.t (e.a,e.b))/\off+cap*sz<=c.size/\S b/\
   ∃ S',bp R x ((c.toList.drop off).take (x.length*sz)) S'/\Sub S' S/\¬S' b)
def B9(F:af)(w:World){α:Type}(R:α->List Value->af->Prop)(x:List α)(cs:List Value):Prop:=
 ∃ a cap,cs=[.slice a x.length cap]/\x.length<=cap/\cap<=maxLen/\
  (0<x.length->∃ ad,a=some ad/\F ad.block/\∃ ds,At w ad ds/\bp R x ds af.none)
def xB(w:World){α:Type}(R:α->List Value->af->Prop)(x:α)(cs:List Value)(S:af):Prop:=
 ∃ (b:Nat) (c:Array Value) (e:Mark c.size),cs=[.pointer (some ⟨b,0,none⟩)]/\w.heap[b]?=some (.cells c e.t (e.a,e.b))/\S b/\∃ S',R x c.toList S'/\Sub S' S/\¬S' b
def DE(F:af)(w:World){α:Type}(R:α->List Value->af->Prop)(x:α)(cs:List Value):Prop:=
 ∃ ad,cs=[.pointer (some ad)]/\F ad.block/\∃ ds,At w ad ds/\R x ds af.none
def jO{α:Type}(x:List α)(j:Nat):List (Option α):=(x.map some).set j none
def LX{α:Type}(R:α->List Value->af->Prop):Option α->List Value->af->Prop
 |some y,c,S=>R y c S/\c.length=1
 |none,c,_=>∃ z:Value,c=[z]/\z.oneCell'=true
def VR(t:Ty)(cs:List Value)(v:Value):Prop:=if t.agg then v=.agg cs.toArray else cs=[v]/\v.oneCell'=true
def dR{α β:Type}(Rk:α->Value->Prop)(Rv:β->Value->Prop):List (α×β)->List MapEntry->Nat->Prop
 |[],es,_=>es=[]
 |x::xs,es,i=>∃ e r,es=e::r/\e.born=i/\Rk x.1 e.key/\Rv x.2 e.val/\dR Rk Rv xs r (i+1)
theorem dR.imp{α β:Type}{Rk Rk':α->Value->Prop}{Rv Rv':β->Value->Prop}(h1:∀ x v,Rk x v->Rk' x v)(h2:∀ x v,Rv x v->Rv' x v):∀ {xs:List (α×β)} {es:List MapEntry} {i:Nat},dR Rk Rv xs es i->dR Rk' Rv' xs es i:=by
 intro xs
 induction xs with
 |nil=>intro es i h;exact h
 |cons x xs ih=>rintro es i ⟨e,r,rfl,hb,hk,hv,hr⟩;exact⟨e,r,rfl,hb,h1 _ _ hk,h2 _ _ hv,ih hr⟩
def RV{t:Ty}(R:t.T->List Value->af->Prop)(x:t.T)(v:Value):Prop:=∃ c,R x c af.none/\VR t c v
def P7(w:World){α β:Type}(Rk:α->Value->Prop)(Rv:β->Value->Prop)(x:List (α×β))(cs:List Value)(S:af):Prop:=
 ∃ (b:Nat) (es:Array MapEntry),cs=[.map (some b)]/\w.heap[b]?=some (.map es es.size)/\S b/\dR Rk Rv x es.toList 0
def tN(F:af)(w:World){α β:Type}(Rk:α->Value->Prop)(Rv:β->Value->Prop)(x:List (α×β))(cs:List Value):Prop:=
 (cs=[.map none]/\x=[])\/∃ (b:Nat) (es:Array MapEntry),cs=[.map (some b)]/\w.heap[b]?=some (.map es es.size)/\F b/\dR Rk Rv x es.toList 0
def Rep(F:af)(w:World):(t:Ty)->Md->t.T->List Value->af->Prop
 |.int k,_,n,cs,_=>cs=[.int k n]/\inK k n
 |.bool,_,b,cs,_=>cs=[.bool b]
 |.str,_,s,cs,_=>∃ u:ByteArray,cs=[.string u]/\s=cn u/\u.size<=maxLen
 |.unit,_,_,cs,_=>cs=[]
 |.pair a b,m,x,cs,S=>∃ c1 c2 S1 S2,cs=c1++c2/\Rep F w a m.fst x.1 c1 S1/\Rep F w b m.snd x.2 c2 S2/\Sub S1 S/\Sub S2 S/\Dis S1 S2
 |.st t,m,x,cs,S=>Rep F w t m x cs S
 |.sl t,.own m,x,cs,S=>DD w t.width (Rep F w t m) x cs S
 |.sl t,.ro,x,cs,_=>B9 F w (Rep F w t .ro) x cs
 |.sl t,.pr _ _,x,cs,_=>B9 F w (Rep F w t .ro) x cs
 |.arr n t,m,x,cs,S=>x.length=n/\bp (Rep F w t m.el) x cs S
 |.box t,.own m,x,cs,S=>xB w (Rep F w t m) x cs S
 |.box t,.ro,x,cs,_=>DE F w (Rep F w t .ro) x cs
 |.box t,.pr _ _,x,cs,_=>DE F w (Rep F w t .ro) x cs
 |.ptr _,_,none,cs,_=>cs=[.pointer none]
 |.ptr t,.own m,some x,cs,S=>xB w (Rep F w t m) x cs S
 |.ptr t,.ro,some x,cs,_=>DE F w (Rep F w t .ro) x cs
 |.ptr t,.pr _ _,some x,cs,_=>DE F w (Rep F w t .ro) x cs
 |.jM,_,_,cs,_=>∃ z:Value,cs=[z]/\z.oneCell'=true
 |.may t,m,x,cs,S=>LX (Rep F w t m) x cs S
 |.hol t,.own m,x,cs,S=>x.2<x.1.length/\DD w 1 (LX (Rep F w t m)) (jO x.1 x.2) cs S
 |.hol _,.ro,_,cs,_=>∃ z:Value,cs=[z]/\z.oneCell'=true
 |.hol _,.pr _ _,_,cs,_=>∃ z:Value,cs=[z]/\z.oneCell'=true
 |.chan,.own _,x,cs,S=>∃ (b:Nat) (buf:Array Value) (s r:Nat),cs=[.chan (some b)]/\w.heap[b]?=some (.chan x.1 buf false s r false)/\buf.toList=x.2.map (λn=>.int .i64 n)/\((∀ n∈x.2,inK .i64 n)/\x.2.length<=x.1/\x.1<=maxLen)/\S b
 |.chan,.ro,_,cs,_=>∃ z:Value,cs=[z]/\z.oneCell'=true
 |.chan,.pr _ _,_,cs,_=>∃ z:Value,cs=[z]/\z.oneCell'=true
 |.fn f,_,_,cs,_=>cs=[.func (.func f) #[] #[]]
 |.nl t,_,x,cs,_=>B9 F w (Rep F w t .ro) x cs/\(x=[]->cs=[.slice none 0 0])
 |.map k v,.own _,x,cs,S=>P7 w (RV (Rep F w k .ro)) (RV (Rep F w v .ro)) x cs S
 |.map k v,.ro,x,cs,_=>tN F w (RV (Rep F w k .ro)) (RV (Rep F w v .ro)) x cs
 |.map k v,.pr _ _,x,cs,_=>tN F w (RV (Rep F w k .ro)) (RV (Rep F w v .ro)) x cs
section
variable {α:Type} {R R':α->List Value->af->Prop}
theorem bp.mono{x:List α}:∀ {cs:List Value} {S S':af},bp R x cs S->Sub S S'->bp R x cs S':=by
 induction x with
 |nil=>intro cs S S' h _;exact h
 |cons y ys ih=>
  rintro cs S S' ⟨c1,c2,S1,S2,rfl,h1,h2,s1,s2,d⟩ hs
  exact⟨c1,c2,S1,S2,rfl,h1,h2,s1.trans hs,s2.trans hs,d⟩
theorem bp.imp{x:List α}:∀ {cs:List Value} {S:af},(∀ y∈x,∀ c T,Sub T S->R y c T->R' y c T)->bp R x cs S->bp R' x cs S:=by
 induction x with
 |nil=>intro cs S _ h;exact h
 |cons y ys ih=>
  rintro cs S hi ⟨c1,c2,S1,S2,rfl,h1,h2,s1,s2,d⟩
  exact⟨c1,c2,S1,S2,rfl,hi y (by simp) _ _ s1 h1,ih (λz hz c T hT hr=>hi z (by simp[hz]) c T (hT.trans s2) hr) h2,s1,s2,d⟩
theorem bp.nil{S:af}:bp R [] [] S:=rfl
theorem bp.len{sz:Nat}(hw:∀ y c S,R y c S->c.length=sz):∀ {x:List α} {cs:List Value} {S:af},bp R x cs S->cs.length=x.length*sz:=by
 intro x
 induction x with
 |nil=>intro cs S h;cases h;simp
 |cons y ys ih=>
  rintro cs S ⟨c1,c2,S1,S2,rfl,h1,h2,_,_,_⟩
  rw[aj,hw _ _ _ h1,ih h2,aM,fO,Nat.one_mul,kX]
theorem bp.append{x y:List α}:∀ {cs ds:List Value} {S T:af},bp R x cs S->bp R y ds T->Dis S T->bp R (x++y) (cs++ds) (S.or T):=by
 induction x with
 |nil=>rintro cs ds S T h hy _;cases h;exact hy.mono (λk h=>.inr h)
 |cons z zs ih=>
  rintro cs ds S T ⟨c1,c2,S1,S2,rfl,h1,h2,s1,s2,d⟩ hy hd
  refine⟨c1,c2++ds,S1,S2.or T,by simp,h1,ih h2 hy (hd.mono s2 (Sub.refl _)),λk h=>.inl (s1 k h),λk h=>h.imp (s2 k) id,λk a b=>?_⟩
  exact b.elim (λb=>d k a b) (λb=>hd k (s1 k a) b)
theorem bp.split{x y:List α}:∀ {cs:List Value} {S:af},bp R (x++y) cs S->∃ c1 c2 S1 S2,cs=c1++c2/\bp R x c1 S1/\bp R y c2 S2/\Sub S1 S/\Sub S2 S/\Dis S1 S2:=by
 induction x with
 |nil=>intro cs S h;exact⟨[],cs,af.none,S,rfl,rfl,h,λ_ h=>h.elim,Sub.refl _,λ_ h=>h.elim⟩
 |cons z zs ih=>
  rintro cs S ⟨c1,c2,S1,S2,rfl,h1,h2,s1,s2,d⟩
  obtain⟨d1,d2,T1,T2,rfl,k1,k2,t1,t2,e⟩:=ih h2
  refine⟨c1++d1,d2,S1.or T1,T2,by simp,⟨c1,d1,S1,T1,rfl,h1,k1,λk h=>.inl h,λk h=>.inr h,d.mono (Sub.refl _) t1⟩,k2,λk h=>h.elim (s1 k) (λh=>s2 k (t1 k h)),t2.trans s2,λk a b=>?_⟩
  exact a.elim (λa=>d k a (t2 k b)) (λa=>e k a b)
end
theorem aT(F:af)(w:World):∀ (t:Ty) (m:Md) (x:t.T) (cs:List Value) (S:af),Rep F w t m x cs S->cs.length=t.width:=by
 intro t
 induction t with
 |int k=>rintro m x cs S ⟨rfl,_⟩;rfl
 |bool=>rintro m x cs S rfl;rfl
 |str=>rintro m x cs S ⟨u,rfl,_⟩;rfl
 |unit=>rintro m x cs S rfl;rfl
 |jM=>rintro m x cs S ⟨z,rfl,_⟩;rfl
 |fn f=>rintro m x cs S rfl;rfl
 |nl t _=>rintro m x cs S ⟨⟨a,cap,rfl,_⟩,_⟩;rfl
 |map k v _ _=>
  intro m x cs S h
  cases m with
  |own m=>obtain⟨b,es,rfl,_⟩:=h;rfl
  |ro=>rcases h with⟨rfl,_⟩|⟨b,es,rfl,_⟩ <;> rfl
  |pr _ _=>rcases h with⟨rfl,_⟩|⟨b,es,rfl,_⟩ <;> rfl
 |chan=>
  intro m x cs S h
  cases m with
  |own m=>obtain⟨b,buf,s,r,rfl,_⟩:=h;rfl
  |ro=>obtain⟨z,rfl,_⟩:=h;rfl
  |pr _ _=>obtain⟨z,rfl,_⟩:=h;rfl
 |hol t ih=>
  intro m x cs S h
  cases m with
  |own m=>obtain⟨_,a,cap,rfl,_⟩:=h;rfl
  |ro=>obtain⟨z,rfl,_⟩:=h;rfl
  |pr _ _=>obtain⟨z,rfl,_⟩:=h;rfl
 |may t ih=>
  intro m x cs S h
  cases x with
  |none=>obtain⟨z,rfl,_⟩:=h;rfl
  |some x=>exact h.2
 |pair a b iha ihb=>rintro m x cs S ⟨c1,c2,S1,S2,rfl,h1,h2,_⟩;simp[Ty.width,iha _ _ _ _ h1,ihb _ _ _ _ h2]
 |st t ih=>intro m x cs S h;exact ih m x cs S h
 |sl t ih=>
  intro m x cs S h
  cases m with
  |own m=>obtain⟨a,cap,rfl,_⟩:=h;rfl
  |ro=>obtain⟨a,cap,rfl,_⟩:=h;rfl
  |pr _ _=>obtain⟨a,cap,rfl,_⟩:=h;rfl
 |arr n t ih=>
  rintro m x cs S ⟨hn,h⟩
  simp only[Ty.width]
  rw[bp.len (λy c S h=>ih m.el y c S h) h,hn]
 |box t ih=>
  intro m x cs S h
  cases m with
  |own m=>obtain⟨b,c,e,rfl,_⟩:=h;rfl
  |ro=>obtain⟨a,rfl,_⟩:=h;rfl
  |pr _ _=>obtain⟨a,rfl,_⟩:=h;rfl
 |ptr t ih=>
  intro m x cs S h
  cases x with
  |none=>simp only[Rep]at h;subst h;rfl
  |some x=>
   cases m with
   |own m=>obtain⟨b,c,e,rfl,_⟩:=h;rfl
   |ro=>obtain⟨a,rfl,_⟩:=h;rfl
   |pr _ _=>obtain⟨a,rfl,_⟩:=h;rfl
theorem tO{w w':World}{a:Addr}(h:w'.heap[a.block]?=w.heap[a.block]?):w'.cell? a=w.cell? a:=by simp[World.cell?,h]
theorem jJ(a:Addr)(n:Nat):(a.add n).block=a.block:=by unfold Addr.add;split <;> rfl
theorem At.congr{w w':World}{a:Addr}{ds:List Value}(h:At w a ds)(hb:w'.heap[a.block]?=w.heap[a.block]?):At w' a ds:=by
 intro j v hj
 exact(tO (a:=a.add j) (by rw[jJ];exact hb)).trans (h j v hj)
theorem aX{F F':af}{w w':World}(hF:Sub F F')(hFw:∀ k,F k->w'.heap[k]?=w.heap[k]?):
 ∀ (t:Ty) (m:Md) (x:t.T) (cs:List Value) (S S':af),Rep F w t m x cs S->Sub S S'->(∀ k,S k->w'.heap[k]?=w.heap[k]?)->Rep F' w' t m x cs S':=by
 intro t
 induction t with
 |int k=>intro m x cs S S' h _ _;exact h
 |bool=>intro m x cs S S' h _ _;exact h
 |str=>intro m x cs S S' h _ _;exact h
 |unit=>intro m x cs S S' h _ _;exact h
 |jM=>intro m x cs S S' h _ _;exact h
 |fn f=>intro m x cs S S' h _ _;exact h
 |nl t ih=>
  rintro m x cs S S' ⟨⟨a,cap,rfl,h1,h2,h3⟩,h4⟩ hs hw
  refine⟨⟨a,cap,rfl,h1,h2,λhp=>?_⟩,h4⟩
  obtain⟨ad,rfl,hf,ds,hat,hr⟩:=h3 hp
  exact⟨ad,rfl,hF _ hf,ds,hat.congr (hFw _ hf),bp.imp (λy _ c T hT hr=>ih .ro y c T T hr (Sub.refl _) (λk hk=>(hT k hk).elim)) hr⟩
 |map k v ihk ihv=>
  intro m x cs S S' h hs hw
  have hk:∀ y u,RV (Rep F w k .ro) y u->RV (Rep F' w' k .ro) y u:=λy u ⟨c,h1,h2⟩=>⟨c,ihk .ro y c _ _ h1 (Sub.refl _) (λ_ h=>h.elim),h2⟩
  have hv:∀ y u,RV (Rep F w v .ro) y u->RV (Rep F' w' v .ro) y u:=λy u ⟨c,h1,h2⟩=>⟨c,ihv .ro y c _ _ h1 (Sub.refl _) (λ_ h=>h.elim),h2⟩
  have ro:tN F w (RV (Rep F w k .ro)) (RV (Rep F w v .ro)) x cs->tN F' w' (RV (Rep F' w' k .ro)) (RV (Rep F' w' v .ro)) x cs:=by
   rintro(h|⟨b,es,rfl,hb,hf,hr⟩)
   ·exact .inl h
   ·exact .inr ⟨b,es,rfl,(hFw b hf).trans hb,hF b hf,hr.imp hk hv⟩
  cases m with
  |ro=>exact ro h
  |pr _ _=>exact ro h
  |own m=>
   obtain⟨b,es,rfl,hb,hS,hr⟩:=h
   exact⟨b,es,rfl,(hw b hS).trans hb,hs _ hS,hr.imp hk hv⟩
 |chan=>
  intro m x cs S S' h hs hw
  cases m with
  |ro=>exact h
  |pr _ _=>exact h
  |own m=>
   obtain⟨b,buf,s,r,rfl,hb,h1,h2,hS⟩:=h
   exact⟨b,buf,s,r,rfl,(hw b hS).trans hb,h1,h2,hs _ hS⟩
 |hol t ih=>
  intro m x cs S S' h hs hw
  cases m with
  |ro=>exact h
  |pr _ _=>exact h
  |own m=>
   obtain⟨hj,a,cap,rfl,h1,h2,h3⟩:=h
   refine⟨hj,a,cap,rfl,h1,h2,h3.imp id ?_⟩
   rintro⟨b,off,c,e,rfl,hb,hc,hS,S1,hr,s1,n1⟩
   exact⟨b,off,c,e,rfl,(hw b hS).trans hb,hc,hs _ hS,S1,bp.imp (λy _ c T hT hr=>by
    cases y with
    |none=>exact hr
    |some y=>exact⟨ih m y c T T hr.1 (Sub.refl _) (λk hk=>hw k (s1 k (hT k hk))),hr.2⟩) hr,s1.trans hs,n1⟩
 |may t ih=>
  intro m x cs S S' h hs hw
  cases x with
  |none=>exact h
  |some x=>exact⟨ih m x cs S S' h.1 hs hw,h.2⟩
 |pair a b iha ihb=>
  rintro m x cs S S' ⟨c1,c2,S1,S2,rfl,h1,h2,s1,s2,d⟩ hs hw
  exact⟨c1,c2,S1,S2,rfl,iha _ _ _ _ _ h1 (Sub.refl _) (λk h=>hw k (s1 k h)),ihb _ _ _ _ _ h2 (Sub.refl _) (λk h=>hw k (s2 k h)),s1.trans hs,s2.trans hs,d⟩
 |st t ih=>intro m x cs S S' h hs hw;exact ih m x cs S S' h hs hw
 |arr n t ih=>
  rintro m x cs S S' ⟨hn,h⟩ hs hw
  exact⟨hn,(bp.imp (λy _ c T hT hr=>ih m.el y c T T hr (Sub.refl _) (λk hk=>hw k (hT k hk))) h).mono hs⟩
 |sl t ih=>
  have ro:∀ (x:List t.T) (cs:List Value),B9 F w (Rep F w t .ro) x cs->B9 F' w' (Rep F' w' t .ro) x cs:=by
   rintro x cs ⟨a,cap,rfl,h1,h2,h3⟩
   refine⟨a,cap,rfl,h1,h2,λhp=>?_⟩
   obtain⟨ad,rfl,hf,ds,hat,hr⟩:=h3 hp
   exact⟨ad,rfl,hF _ hf,ds,hat.congr (hFw _ hf),bp.imp (λy _ c T hT hr=>ih .ro y c T T hr (Sub.refl _) (λk hk=>(hT k hk).elim)) hr⟩
  intro m x cs S S' h hs hw
  cases m with
  |ro=>exact ro x cs h
  |pr _ _=>exact ro x cs h
  |own m=>
   obtain⟨a,cap,rfl,h1,h2,h3⟩:=h
   refine⟨a,cap,rfl,h1,h2,h3.imp id ?_⟩
   rintro⟨b,off,c,e,rfl,hb,hc,hS,S1,hr,s1,n1⟩
   exact⟨b,off,c,e,rfl,(hw b hS).trans hb,hc,hs _ hS,S1,bp.imp (λy _ c T hT hr=>ih m y c T T hr (Sub.refl _) (λk hk=>hw k (s1 k (hT k hk)))) hr,s1.trans hs,n1⟩
 |box t ih=>
  intro m x cs S S' h hs hw
  cases m with
  |own m=>
   obtain⟨b,c,e,rfl,hb,hS,S1,hr,s1,n1⟩:=h
   exact⟨b,c,e,rfl,(hw b hS).trans hb,hs _ hS,S1,ih m x _ _ _ hr (Sub.refl _) (λk hk=>hw k (s1 k hk)),s1.trans hs,n1⟩
  |ro=>
   obtain⟨ad,rfl,hf,ds,hat,hr⟩:=h
   exact⟨ad,rfl,hF _ hf,ds,hat.congr (hFw _ hf),ih .ro x _ _ _ hr (Sub.refl _) (λk hk=>hk.elim)⟩
  |pr _ _=>
   obtain⟨ad,rfl,hf,ds,hat,hr⟩:=h
   exact⟨ad,rfl,hF _ hf,ds,hat.congr (hFw _ hf),ih .ro x _ _ _ hr (Sub.refl _) (λk hk=>hk.elim)⟩
 |ptr t ih=>
  intro m x cs S S' h hs hw
  cases x with
  |none=>cases m <;> exact h
  |some x=>
  cases m with
  |own m=>
   obtain⟨b,c,e,rfl,hb,hS,S1,hr,s1,n1⟩:=h
   exact⟨b,c,e,rfl,(hw b hS).trans hb,hs _ hS,S1,ih m x _ _ _ hr (Sub.refl _) (λk hk=>hw k (s1 k hk)),s1.trans hs,n1⟩
  |ro=>
   obtain⟨ad,rfl,hf,ds,hat,hr⟩:=h
   exact⟨ad,rfl,hF _ hf,ds,hat.congr (hFw _ hf),ih .ro x _ _ _ hr (Sub.refl _) (λk hk=>hk.elim)⟩
  |pr _ _=>
   obtain⟨ad,rfl,hf,ds,hat,hr⟩:=h
   exact⟨ad,rfl,hF _ hf,ds,hat.congr (hFw _ hf),ih .ro x _ _ _ hr (Sub.refl _) (λk hk=>hk.elim)⟩
theorem tP{F:af}{w:World}{t:Ty}{m:Md}{x:t.T}{cs:List Value}{S S':af}(h:Rep F w t m x cs S)(hs:Sub S S'):Rep F w t m x cs S':=
 aX (Sub.refl F) (λ_ _=>rfl) t m x cs S S' h hs (λ_ _=>rfl)
theorem lh{F F':af}{w w':World}:∀ (t:Ty),t.flat=true->∀ (m m':Md) (x:t.T) (cs:List Value) (S S':af),Rep F w t m x cs S->Rep F' w' t m' x cs S':=by
 intro t
 induction t with
 |int k=>intro _ m m' x cs S S' h;exact h
 |bool=>intro _ m m' x cs S S' h;exact h
 |str=>intro _ m m' x cs S S' h;exact h
 |unit=>intro _ m m' x cs S S' h;exact h
 |jM=>intro _ m m' x cs S S' h;exact h
 |fn f=>intro _ m m' x cs S S' h;exact h
 |chan=>intro hf;simp[Ty.flat]at hf
 |map k v _ _=>intro hf;simp[Ty.flat]at hf
 |nl t _=>intro hf;simp[Ty.flat]at hf
 |pair a b iha ihb=>
  rintro hf m m' x cs S S' ⟨c1,c2,S1,S2,rfl,h1,h2,s1,s2,d⟩
  simp[Ty.flat]at hf
  exact⟨c1,c2,af.none,af.none,rfl,iha hf.1 _ _ _ _ _ _ h1,ihb hf.2 _ _ _ _ _ _ h2,λ_ h=>h.elim,λ_ h=>h.elim,λ_ h=>h.elim⟩
 |st t ih=>intro hf m m' x cs S S' h;exact ih hf m m' x cs S S' h
 |arr n t ih=>
  rintro hf m m' x cs S S' ⟨hn,h⟩
  refine⟨hn,?_⟩
  clear hn
  induction x generalizing cs S S' with
  |nil=>exact h
  |cons y ys ihx=>
   obtain⟨c1,c2,S1,S2,rfl,h1,h2,s1,s2,d⟩:=h
   exact⟨c1,c2,af.none,af.none,rfl,ih hf _ _ _ _ _ _ h1,ihx _ _ _ h2,λ_ h=>h.elim,λ_ h=>h.elim,λ_ h=>h.elim⟩
 |sl t ih=>intro hf;simp[Ty.flat]at hf
 |box t ih=>intro hf;simp[Ty.flat]at hf
 |ptr t ih=>intro hf;simp[Ty.flat]at hf
 |hol t ih=>intro hf;simp[Ty.flat]at hf
 |may t ih=>intro hf;simp[Ty.flat]at hf
theorem jP{F F':af}{w:World}(hF:Sub F F'):∀ (t:Ty) (m:Md) (x:t.T) (cs:List Value) (S S':af),Rep F w t m x cs S->Sub S F'->Rep F' w t .ro x cs S':=by
 intro t
 induction t with
 |int k=>intro m x cs S S' h _;exact h
 |bool=>intro m x cs S S' h _;exact h
 |str=>intro m x cs S S' h _;exact h
 |unit=>intro m x cs S S' h _;exact h
 |jM=>intro m x cs S S' h _;exact h
 |fn f=>intro m x cs S S' h _;exact h
 |nl t ih=>
  rintro m x cs S S' ⟨⟨a,cap,rfl,h1,h2,h3⟩,h4⟩ hs
  refine⟨⟨a,cap,rfl,h1,h2,λhp=>?_⟩,h4⟩
  obtain⟨ad,rfl,hf,ds,hat,hr⟩:=h3 hp
  exact⟨ad,rfl,hF _ hf,ds,hat,bp.imp (λy _ c T hT hr=>tP (ih .ro y c T T hr (λk hk=>(hT k hk).elim)) (Sub.refl _)) hr⟩
 |map k v ihk ihv=>
  intro m x cs S S' h hs
  have hk:∀ y u,RV (Rep F w k .ro) y u->RV (Rep F' w k .ro) y u:=λy u ⟨c,h1,h2⟩=>⟨c,ihk .ro y c _ _ h1 (λ_ h=>h.elim),h2⟩
  have hv:∀ y u,RV (Rep F w v .ro) y u->RV (Rep F' w v .ro) y u:=λy u ⟨c,h1,h2⟩=>⟨c,ihv .ro y c _ _ h1 (λ_ h=>h.elim),h2⟩
  have ro:tN F w (RV (Rep F w k .ro)) (RV (Rep F w v .ro)) x cs->tN F' w (RV (Rep F' w k .ro)) (RV (Rep F' w v .ro)) x cs:=by
   rintro(h|⟨b,es,rfl,hb,hf,hr⟩)
   ·exact .inl h
   ·exact .inr ⟨b,es,rfl,hb,hF b hf,hr.imp hk hv⟩
  cases m with
  |ro=>exact ro h
  |pr _ _=>exact ro h
  |own m=>
   obtain⟨b,es,rfl,hb,hS,hr⟩:=h
   exact .inr ⟨b,es,rfl,hb,hs b hS,hr.imp hk hv⟩
 |chan=>
  intro m x cs S S' h _
  cases m with
  |ro=>exact h
  |pr _ _=>exact h
  |own m=>obtain⟨b,buf,s,r,rfl,_⟩:=h;exact⟨_,rfl,rfl⟩
 |hol t ih=>
  intro m x cs S S' h _
  cases m with
  |ro=>exact h
  |pr _ _=>exact h
  |own m=>obtain⟨_,a,cap,rfl,_⟩:=h;exact⟨_,rfl,rfl⟩
 |may t ih=>
  intro m x cs S S' h hs
  cases x with
  |none=>exact h
  |some x=>exact⟨ih m x cs S S' h.1 hs,h.2⟩
 |pair a b iha ihb=>
  rintro m x cs S S' ⟨c1,c2,S1,S2,rfl,h1,h2,s1,s2,d⟩ hs
  exact⟨c1,c2,af.none,af.none,rfl,iha _ _ _ _ _ h1 (s1.trans hs),ihb _ _ _ _ _ h2 (s2.trans hs),λ_ h=>h.elim,λ_ h=>h.elim,λ_ h=>h.elim⟩
 |st t ih=>intro m x cs S S' h hs;exact ih m x cs S S' h hs
 |arr n t ih=>
  rintro m x cs S S' ⟨hn,h⟩ hs
  refine⟨hn,?_⟩
  clear hn
  induction x generalizing cs S S' with
  |nil=>exact h
  |cons y ys ihx=>
   obtain⟨c1,c2,S1,S2,rfl,h1,h2,s1,s2,d⟩:=h
   exact⟨c1,c2,af.none,af.none,rfl,ih _ _ _ _ _ h1 (s1.trans hs),ihx _ _ _ h2 (s2.trans hs),λ_ h=>h.elim,λ_ h=>h.elim,λ_ h=>h.elim⟩
 |sl t ih=>
  have row:∀ (m:Md) (x:List t.T) (cs:List Value) (S:af),bp (Rep F w t m) x cs S->Sub S F'->bp (Rep F' w t .ro) x cs af.none:=by
   intro m x
   induction x with
   |nil=>intro cs S h _;exact h
   |cons y ys ihx=>
    rintro cs S ⟨c1,c2,S1,S2,rfl,h1,h2,s1,s2,d⟩ hs
    exact⟨c1,c2,af.none,af.none,rfl,ih _ _ _ _ _ h1 (s1.trans hs),ihx _ _ h2 (s2.trans hs),λ_ h=>h.elim,λ_ h=>h.elim,λ_ h=>h.elim⟩
  intro m x cs S S' h hs
  cases m with
  |ro=>
   obtain⟨a,cap,rfl,h1,h2,h3⟩:=h
   refine⟨a,cap,rfl,h1,h2,λhp=>?_⟩
   obtain⟨ad,rfl,hf,ds,hat,hr⟩:=h3 hp
   exact⟨ad,rfl,hF _ hf,ds,hat,row _ _ _ _ hr (λ_ h=>h.elim)⟩
  |pr _ _=>
   obtain⟨a,cap,rfl,h1,h2,h3⟩:=h
   refine⟨a,cap,rfl,h1,h2,λhp=>?_⟩
   obtain⟨ad,rfl,hf,ds,hat,hr⟩:=h3 hp
   exact⟨ad,rfl,hF _ hf,ds,hat,row _ _ _ _ hr (λ_ h=>h.elim)⟩
  |own m=>
   obtain⟨a,cap,rfl,h1,h2,h3⟩:=h
   refine⟨a,cap,rfl,h1,h2,λhp=>?_⟩
   rcases h3 with rfl|⟨b,off,c,e,rfl,hb,hc,hS,S1,hr,s1,n1⟩
   ·omega
   ·refine⟨_,rfl,hs _ hS,_,?_,row _ _ _ _ hr (s1.trans hs)⟩
    intro j v hj
    rw[List.getElem?_take]at hj
    split at hj
    ·rw[List.getElem?_drop]at hj
     rw[cW]
     simp[World.cell?,hb]
     simpa using hj
    ·cases hj
 |box t ih=>
  intro m x cs S S' h hs
  cases m with
  |ro=>
   obtain⟨ad,rfl,hf,ds,hat,hr⟩:=h
   exact⟨ad,rfl,hF _ hf,ds,hat,ih _ _ _ _ _ hr (λ_ h=>h.elim)⟩
  |pr _ _=>
   obtain⟨ad,rfl,hf,ds,hat,hr⟩:=h
   exact⟨ad,rfl,hF _ hf,ds,hat,ih _ _ _ _ _ hr (λ_ h=>h.elim)⟩
  |own m=>
   obtain⟨b,c,e,rfl,hb,hS,S1,hr,s1,n1⟩:=h
   refine⟨_,rfl,hs _ hS,c.toList,?_,ih _ _ _ _ _ hr (s1.trans hs)⟩
   intro j v hj
   rw[cW]
   simp[World.cell?,hb]
   simpa using hj
 |ptr t ih=>
  intro m x cs S S' h hs
  cases x with
  |none=>cases m <;> exact h
  |some x=>
  cases m with
  |ro=>
   obtain⟨ad,rfl,hf,ds,hat,hr⟩:=h
   exact⟨ad,rfl,hF _ hf,ds,hat,ih _ _ _ _ _ hr (λ_ h=>h.elim)⟩
  |pr _ _=>
   obtain⟨ad,rfl,hf,ds,hat,hr⟩:=h
   exact⟨ad,rfl,hF _ hf,ds,hat,ih _ _ _ _ _ hr (λ_ h=>h.elim)⟩
  |own m=>
   obtain⟨b,c,e,rfl,hb,hS,S1,hr,s1,n1⟩:=h
   refine⟨_,rfl,hs _ hS,c.toList,?_,ih _ _ _ _ _ hr (s1.trans hs)⟩
   intro j v hj
   rw[cW]
   simp[World.cell?,hb]
   simpa using hj
def closed:Ty->Md->Bool
 |.pair a b,m=>closed a m.fst&&closed b m.snd
 |.st t,m=>closed t m
 |.arr _ t,m=>closed t m.el
 |.sl t,.own e=>closed t e
 |.sl _,_=>false
 |.box t,.own e=>closed t e
 |.box _,_=>false
 |.ptr t,.own e=>closed t e
 |.ptr _,_=>false
 |.hol t,.own e=>closed t e
 |.may t,m=>closed t m
 |.map k v,.own _=>closed k .ro&&closed v .ro
 |.map _ _,_=>false
 |.nl _,_=>false
 |_,_=>true
theorem Ca{F F':af}{w:World}:∀ (t:Ty) (m:Md),closed t m=true->∀ (x:t.T) (cs:List Value) (S:af),Rep F w t m x cs S->Rep F' w t m x cs S:=by
 intro t
 induction t with
 |int k=>intro m _ x cs S h;exact h
 |bool=>intro m _ x cs S h;exact h
 |str=>intro m _ x cs S h;exact h
 |unit=>intro m _ x cs S h;exact h
 |jM=>intro m _ x cs S h;exact h
 |fn f=>intro m _ x cs S h;exact h
 |nl t ih=>intro m hc x cs S h;simp[closed]at hc
 |map k v ihk ihv=>
  intro m hc x cs S h
  cases m with
  |ro=>simp[closed]at hc
  |pr _ _=>simp[closed]at hc
  |own m=>
   simp only[closed,ag]at hc
   obtain⟨b,es,rfl,hb,hS,hr⟩:=h
   exact⟨b,es,rfl,hb,hS,hr.imp (λy u ⟨c,h1,h2⟩=>⟨c,ihk .ro hc.1 y c _ h1,h2⟩) (λy u ⟨c,h1,h2⟩=>⟨c,ihv .ro hc.2 y c _ h1,h2⟩)⟩
 |chan=>intro m _ x cs S h;cases m <;> exact h
 |hol t ih=>
  intro m hc x cs S h
  cases m with
  |ro=>exact h
  |pr _ _=>exact h
  |own m=>
   obtain⟨hj,a,cap,rfl,h1,h2,h3⟩:=h
   refine⟨hj,a,cap,rfl,h1,h2,h3.imp id ?_⟩
   rintro⟨b,off,c,e,rfl,hb,hc',hS,S1,hr,r⟩
   exact⟨b,off,c,e,rfl,hb,hc',hS,S1,bp.imp (λy _ c T _ hr=>by
    cases y with
    |none=>exact hr
    |some y=>exact⟨ih m hc y c T hr.1,hr.2⟩) hr,r⟩
 |may t ih=>
  intro m hc x cs S h
  cases x with
  |none=>exact h
  |some x=>exact⟨ih m hc x cs S h.1,h.2⟩
 |pair a b iha ihb=>
  rintro m hc x cs S ⟨c1,c2,S1,S2,rfl,h1,h2,r⟩
  simp[closed]at hc
  exact⟨c1,c2,S1,S2,rfl,iha _ hc.1 _ _ _ h1,ihb _ hc.2 _ _ _ h2,r⟩
 |st t ih=>intro m hc x cs S h;exact ih m hc x cs S h
 |arr n t ih=>
  rintro m hc x cs S ⟨hn,h⟩
  exact⟨hn,bp.imp (λy _ c T _ hr=>ih m.el hc y c T hr) h⟩
 |sl t ih=>
  intro m hc x cs S h
  cases m with
  |ro=>simp[closed]at hc
  |pr _ _=>simp[closed]at hc
  |own m=>
   obtain⟨a,cap,rfl,h1,h2,h3⟩:=h
   refine⟨a,cap,rfl,h1,h2,h3.imp id ?_⟩
   rintro⟨b,off,c,e,rfl,hb,hc',hS,S1,hr,r⟩
   exact⟨b,off,c,e,rfl,hb,hc',hS,S1,bp.imp (λy _ c T _ hr=>ih m hc y c T hr) hr,r⟩
 |box t ih=>
  intro m hc x cs S h
  cases m with
  |ro=>simp[closed]at hc
  |pr _ _=>simp[closed]at hc
  |own m=>
   obtain⟨b,c,e,rfl,hb,hS,S1,hr,r⟩:=h
   exact⟨b,c,e,rfl,hb,hS,S1,ih m hc _ _ _ hr,r⟩
 |ptr t ih=>
  intro m hc x cs S h
  cases x with
  |none=>cases m <;> exact h
  |some x=>
  cases m with
  |ro=>simp[closed]at hc
  |pr _ _=>simp[closed]at hc
  |own m=>
   obtain⟨b,c,e,rfl,hb,hS,S1,hr,r⟩:=h
   exact⟨b,c,e,rfl,hb,hS,S1,ih m hc _ _ _ hr,r⟩
structure V where
 t:Ty
 x:t.T
inductive Stp where
 |st|fst|snd
 |idx (i:Int)
 |ai (i:Int)
 |deref
def fA{R:Type}:(t:Ty)->t.T->List Stp->((u:Ty)->u.T->Option R)->Option R
 |t,x,[],K=>K t x
 |.st t,x,.st::π,K=>fA t x π K
 |.pair a _,x,.fst::π,K=>fA a x.1 π K
 |.pair _ b,x,.snd::π,K=>fA b x.2 π K
 |.sl t,x,.idx i::π,K=>if 0<=i then(match(x:List t.T)[i.toNat]? with|some y=>fA t y π K|none=>none)else none
 |.arr _ t,x,.ai i::π,K=>if 0<=i then(match(x:List t.T)[i.toNat]? with|some y=>fA t y π K|none=>none)else none
 |.box t,x,.deref::π,K=>fA t x π K
 |.ptr t,x,.deref::π,K=>match(x:Option t.T)with|some y=>fA t y π K|none=>none
 |_,_,_::_,_=>none
def iB{R:Type}:(t:Ty)->t.T->List Stp->(u:Ty)->u.T->(t.T->Option R)->Option R
 |t,_,[],u,y,K=>if h:u=t then K (h ▸ y)else none
 |.st t,x,.st::π,u,y,K=>iB t x π u y K
 |.pair a _,x,.fst::π,u,y,K=>iB a x.1 π u y λz=>K (z,x.2)
 |.pair _ b,x,.snd::π,u,y,K=>iB b x.2 π u y λz=>K (x.1,z)
 |.sl t,x,.idx i::π,u,y,K=>if 0<=i then(match(x:List t.T)[i.toNat]? with|some z=>iB t z π u y λz'=>K ((x:List t.T).set i.toNat z')|none=>none)else none
 |.arr _ t,x,.ai i::π,u,y,K=>if 0<=i then(match(x:List t.T)[i.toNat]? with|some z=>iB t z π u y λz'=>K ((x:List t.T).set i.toNat z')|none=>none)else none
 |.box t,x,.deref::π,u,y,K=>iB t x π u y K
 |.ptr t,x,.deref::π,u,y,K=>match(x:Option t.T)with|some z=>iB t z π u y λz'=>K (some z')|none=>none
 |_,_,_::_,_,_,_=>none
def atM:Ty->Md->List Stp->Md
 |_,m,[]=>m
 |.st t,m,.st::π=>atM t m π
 |.pair a _,m,.fst::π=>atM a m.fst π
 |.pair _ b,m,.snd::π=>atM b m.snd π
 |.sl t,m,.idx _::π=>atM t m.el π
 |.arr _ t,m,.ai _::π=>atM t m.el π
 |.box t,m,.deref::π=>atM t m.el π
 |.ptr t,m,.deref::π=>atM t m.el π
 |_,_,_::_=>.ro
def atT:Ty->List Stp->Ty
 |t,[]=>t
 |.st t,.st::π=>atT t π
 |.pair a _,.fst::π=>atT a π
 |.pair _ b,.snd::π=>atT b π
 |.sl t,.idx _::π=>atT t π
 |.arr _ t,.ai _::π=>atT t π
 |.box t,.deref::π=>atT t π
 |.ptr t,.deref::π=>atT t π
 |_,_::_=>.unit
def Md.eX:Md->Bool
 |.own _=>true
 |_=>false
def pJ:Ty->Md->List Stp->Md->Md->Prop
 |_,_,[],m',r=>r=m'
 |.st t,m,.st::π,m',r=>pJ t m π m' r
 |.pair a _,m,.fst::π,m',r=>∃ q,pJ a m.fst π m' q/\((r=m/\q=m.fst)\/r=.pr q m.snd)
 |.pair _ b,m,.snd::π,m',r=>∃ q,pJ b m.snd π m' q/\((r=m/\q=m.snd)\/r=.pr m.fst q)
 |.sl t,m,.idx _::π,m',r=>∃ e,m=.own e/\pJ t e π m' e/\r=m
 |.arr _ t,m,.ai _::π,m',r=>pJ t m.el π m' m.el/\r=m
 |.box t,m,.deref::π,m',r=>∃ e q,m=.own e/\pJ t e π m' q/\r=.own q
 |.ptr t,m,.deref::π,m',r=>∃ e q,m=.own e/\pJ t e π m' q/\r=.own q
 |_,_,_::_,_,_=>False
def gp:Ty->Md->List Stp->Md->Option Md
 |_,_,[],m'=>some m'
 |.st t,m,.st::π,m'=>gp t m π m'
 |.pair a _,m,.fst::π,m'=>match gp a m.fst π m' with
  |some q=>some (if q=m.fst then m else .pr q m.snd)
  |none=>none
 |.pair _ b,m,.snd::π,m'=>match gp b m.snd π m' with
  |some q=>some (if q=m.snd then m else .pr m.fst q)
  |none=>none
 |.sl t,m,.idx _::π,m'=>match m with
  |.own e=>match gp t e π m' with
   |some q=>if q=e then some m else none
   |none=>none
  |_=>none
 |.arr _ t,m,.ai _::π,m'=>match gp t m.el π m' with
  |some q=>if q=m.el then some m else none
  |none=>none
 |.box t,m,.deref::π,m'=>match m with
  |.own e=>match gp t e π m' with
   |some q=>some (.own q)
   |none=>none
  |_=>none
 |.ptr t,m,.deref::π,m'=>match m with
  |.own e=>match gp t e π m' with
   |some q=>some (.own q)
   |none=>none
  |_=>none
 |_,_,_::_,_=>none
def dy:Ty->Md->List Stp->Bool
 |_,_,[]=>true
 |.st t,m,.st::π=>dy t m π
 |.pair a _,m,.fst::π=>dy a m.fst π
 |.pair _ b,m,.snd::π=>dy b m.snd π
 |.sl t,m,.idx _::π=>m.eX&&dy t m.el π
 |.arr _ t,m,.ai _::π=>dy t m.el π
 |.box t,m,.deref::π=>m.eX&&dy t m.el π
 |.ptr t,m,.deref::π=>m.eX&&dy t m.el π
 |_,_,_::_=>false
def eT(w:World)(b o n:Nat):List Value:=
 match w.heap[b]? with
 |some (.cells c _ _)=>(c.toList.drop o).take n
 |_=>[]
def resolve(w:World):Ty->List Value->Option (Nat×Nat)->List Stp->Option (List Value×Option (Nat×Nat))
 |_,cs,s,[]=>some (cs,s)
 |.st t,cs,s,.st::π=>resolve w t cs s π
 |.pair a _,cs,s,.fst::π=>resolve w a (cs.take a.width) s π
 |.pair a b,cs,s,.snd::π=>resolve w b (cs.drop a.width) (s.map λp=>(p.1,p.2+a.width)) π
 |.sl t,cs,_,.idx i::π=>match cs with
  |[.slice (some ⟨b,off,none⟩) len _]=>if 0<=i/\i.toNat<len then resolve w t (eT w b (off+i.toNat*t.width) t.width) (some (b,off+i.toNat*t.width)) π else none
  |_=>none
 |.arr n t,cs,s,.ai i::π=>if 0<=i/\i.toNat<n then resolve w t ((cs.drop (i.toNat*t.width)).take t.width) (s.map λp=>(p.1,p.2+i.toNat*t.width)) π else none
 |.box t,cs,_,.deref::π=>match cs with
  |[.pointer (some ⟨b,0,none⟩)]=>resolve w t (eT w b 0 t.width) (some (b,0)) π
  |_=>none
 |.ptr t,cs,_,.deref::π=>match cs with
  |[.pointer (some ⟨b,0,none⟩)]=>resolve w t (eT w b 0 t.width) (some (b,0)) π
  |_=>none
 |_,_,_,_::_=>none
def get?(t:Ty)(x:t.T)(π:List Stp):Option V:=fA t x π λu y=>some ⟨u,y⟩
def ji(t:Ty)(x:t.T)(π:List Stp)(u:Ty)(y:u.T):Option t.T:=iB t x π u y some
theorem gl:∀ (π:List Stp) {R:Type} (t:Ty) (x:t.T) (K:(u:Ty)->u.T->Option R),fA t x π K=(get? t x π).bind λv=>K v.t v.x:=by
 intro π
 induction π with
 |nil=>intro R t x K;cases t <;> rfl
 |cons s π ih=>
  intro R t x K
  unfold get?
  cases t <;> cases s <;> simp only[fA,nX] <;> first
   |rfl
   |exact ih _ _ K
   |(
    split
    ·split
     ·exact ih _ _ K
     ·rfl
    ·rfl)
   |(
    split
    ·exact ih _ _ K
    ·rfl)
theorem iO:∀ (π:List Stp) {R:Type} (t:Ty) (x:t.T) (u:Ty) (y:u.T) (K:t.T->Option R),iB t x π u y K=(ji t x π u y).bind K:=by
 intro π
 induction π with
 |nil=>intro R t x u y K;unfold ji;cases t <;> (simp only[iB];split <;> rfl)
 |cons s π ih=>
  intro R t x u y K
  have up:∀ {β:Type} (a:Ty) (z:a.T) (f:a.T->β) (K:β->Option R),(iB a z π u y λw=>K (f w))=(iB a z π u y λw=>some (f w)).bind K:=by
   intro β a z f K
   rw[ih]
   have:(iB a z π u y λw=>some (f w))=(ji a z π u y).bind λw=>some (f w):=by
    exact ih _ _ _ _ _
   rw[this]
   cases ji a z π u y <;> rfl
  unfold ji
  cases t <;> cases s <;> simp only[iB,nX]
  case st.st=>exact ih _ _ _ _ _
  case box.deref=>exact ih _ _ _ _ _
  case pair.fst=>exact up _ _ (λz=>(z,x.2)) K
  case pair.snd=>exact up _ _ (λz=>(x.1,z)) K
  case sl.idx i=>
   split
   ·cases hx:(x:List _)[i.toNat]? with
    |none=>rfl
    |some z=>exact up _ z (λz'=>(x:List _).set i.toNat z') K
   ·rfl
  case arr.ai i=>
   split
   ·cases hx:(x:List _)[i.toNat]? with
    |none=>rfl
    |some z=>exact up _ z (λz'=>(x:List _).set i.toNat z') K
   ·rfl
  case ptr.deref=>
   cases x with
   |none=>rfl
   |some z=>exact up _ z some K
section
variable {α:Type} {R:α->List Value->af->Prop} {sz:Nat}
theorem bp.focus(hw:∀ y c S,R y c S->c.length=sz):∀ {x:List α} {i:Nat} {y:α} {cs:List Value} {S:af},x[i]?=some y->bp R x cs S->
 ∃ c S1 pre post,R y c S1/\Sub S1 S/\cs=pre++c++post/\pre.length=i*sz/\
  ∀ (R':α->List Value->af->Prop) (y':α) (c':List Value) (Q:af),(∀ z c T,Sub T S->(∀ k,T k->¬S1 k)->R z c T->R' z c T)->R' y' c' Q->(∀ k,Q k->S k->S1 k)->
   bp R' (x.set i y') (pre++c'++post) (λk=>(S k/\¬S1 k)\/Q k):=by
 intro x
 induction x with
 |nil=>intro i y cs S hy;simp at hy
 |cons z zs ih=>
  rintro i y cs S hy ⟨c1,c2,S1,S2,rfl,h1,h2,s1,s2,d⟩
  cases i with
  |zero=>
   simp only[List.getElem?_cons_zero,bn]at hy
   subst hy
   refine⟨c1,S1,[],c2,h1,s1,by simp,by simp,λR' y' c' Q hR hy' hQ=>?_⟩
   refine⟨c',c2,Q,S2,by simp,hy',bp.imp (λz _ c T hT hr=>hR z c T (hT.trans s2) (λk hk hk1=>d k hk1 (hT k hk)) hr) h2,λk h=>.inr h,λk h=>.inl ⟨s2 k h,λh1=>d k h1 h⟩,λk a b=>d k (hQ k a (s2 k b)) b⟩
  |succ i=>
   simp only[List.getElem?_cons_succ]at hy
   obtain⟨c,T1,pre,post,hr,t1,rfl,hp,SL⟩:=ih hy h2
   refine⟨c,T1,c1++pre,post,hr,t1.trans s2,by simp,by rw[aj,hw _ _ _ h1,hp,fO,Nat.one_mul,kX],λR' y' c' Q hR hy' hQ=>?_⟩
   refine⟨c1,pre++c'++post,S1,λk=>(S2 k/\¬T1 k)\/Q k,by simp,hR _ _ _ s1 (λk a b=>d k a (t1 k b)) h1,SL R' y' c' Q (λz c T hT hn hr=>hR z c T (hT.trans s2) hn hr) hy' (λk a b=>hQ k a (s2 k b)),λk h=>.inl ⟨s1 k h,λh1=>d k h (t1 k h1)⟩,λk h=>h.imp (λh=>⟨s2 k h.1,h.2⟩) id,λk a b=>?_⟩
   exact b.elim (λb=>d k a b.1) (λb=>d k a (t1 k (hQ k b (s1 k a))))
end
def ri(w:World)(b o:Nat)(cs:List Value):Prop:=∃ (c:Array Value) (e:Mark c.size),w.heap[b]?=some (.cells c e.t (e.a,e.b))/\(∃ l r,c.toList=l++cs++r/\l.length=o)
def Upd(w w':World)(b o:Nat)(ds es:List Value):Prop:=∃ (c c':Array Value) (e:Mark c.size) (l r:List Value),w.heap[b]?=some (.cells c e.t (e.a,e.b))/\w'.heap[b]?=some (.cells c' e.t (e.a,e.b))/\c.toList=l++ds++r/\c'.toList=l++es++r/\l.length=o
def Foc(F:af)(w:World)(t:Ty)(m:Md)(x:t.T)(cs:List Value)(S:af)(s:Option (Nat×Nat))(π:List Stp)(u:Ty)(ds:List Value)(s':Option (Nat×Nat))(S':af):Prop:=
 (∃ pre post,cs=pre++ds++post/\s'=s.map (λp=>(p.1,p.2+pre.length))/\
  ∀ F' w' y' es R x' m' mr,pJ t m π m' mr->Sub F F'->ji t x π u y'=some x'->Rep F' w' u m' y' es R->es.length=ds.length->(∀ k,R k->S k->S' k)->
   (∀ k,S k->¬S' k->w'.heap[k]?=w.heap[k]?)->(∀ k,F k->w'.heap[k]?=w.heap[k]?)->
   Rep F' w' t mr x' (pre++es++post) (λk=>(S k/\¬S' k)\/R k))\/
 (∃ b o,s'=some (b,o)/\S b/\¬S' b/\ri w b o ds/\
  ∀ F' w' y' es R x' m' mr,pJ t m π m' mr->Sub F F'->ji t x π u y'=some x'->Rep F' w' u m' y' es R->es.length=ds.length->(∀ k,R k->S k->S' k)->
   (∀ k,S k->¬S' k->k≠b->w'.heap[k]?=w.heap[k]?)->Upd w w' b o ds es->(∀ k,F k->w'.heap[k]?=w.heap[k]?)->
   Rep F' w' t mr x' cs (λk=>(S k/\¬S' k)\/R k))
theorem eU{a b:List Value}{n:Nat}(h:a.length=n):(a++b).take n=a:=by rw[<-h];simp
theorem iC{a b:List Value}{n:Nat}(h:a.length=n):(a++b).drop n=b:=by rw[<-h];simp
theorem fP{w:World}{b o:Nat}{cs:List Value}(h:ri w b o cs):eT w b o cs.length=cs:=by
 obtain⟨c,e,hb,l,r,hc,hl⟩:=h
 unfold eT
 rw[hb]
 simp only[hc]
 rw[<-hl,aO,gy (ar _),ff,bL,fJ (ar _),cE]
theorem Cb{c c' l ds r:List Value}{off n:Nat}{pre d post:List Value}(fB:(c.drop off).take n=pre++d++post)(hn:off+n<=c.length)(hc:c=l++ds++r)
 {eC dq es:List Value} (hd:d=eC++ds++dq) (hl:l.length=off+pre.length+eC.length) (hc':c'=l++es++r) (he:es.length=ds.length):
 (c'.drop off).take n=pre++(eC++es++dq)++post:=by
 subst hd
 have hlen:n=(pre++(eC++ds++dq)++post).length:=by
  rw[<-fB,aN,bB];omega
 have e1:c=c.take off++((pre++(eC++ds++dq)++post)++(c.drop off).drop n):=by
  rw[<-fB,eE,eE]
 have e2:c=(c.take off++pre++eC)++ds++(dq++post++(c.drop off).drop n):=by
  rw[e1]
  have:(c.take off++((pre++(eC++ds++dq)++post)++(c.drop off).drop n)).take off=c.take off:=by rw[<-e1]
  have h3:((c.take off++((pre++(eC++ds++dq)++post)++(c.drop off).drop n)).drop off).drop n=(c.drop off).drop n:=by rw[<-e1]
  rw[this,h3]
  simp
 have ht:(c.take off).length=off:=by rw[aN];omega
 have hl2:l.length=(c.take off++pre++eC).length:=by simp only[aj,ht];omega
 have e3:l++(ds++r)=(c.take off++pre++eC)++(ds++(dq++post++(c.drop off).drop n)):=by
  rw[<-aO,<-hc,<-aO];exact e2
 obtain⟨k1,k2⟩:=kS e3 hl2
 have k3:=qM k2
 rw[hc',k1,k3]
 rw[aO,aO,aO (c.take off),gy (by omega)]
 rw[show(c.take off).drop off=[]from eo (by omega),bL]
 rw[show pre++(eC++(es++(dq++post++(c.drop off).drop n)))=(pre++(eC++es++dq)++post)++(c.drop off).drop n by simp]
 have hn2:n=(pre++(eC++es++dq)++post).length:=by rw[hlen];simp only[aj];omega
 conv=>lhs;rw[hn2]
 rw[fJ (ar _),cE]
theorem eY(t:Ty)(x:t.T):get? t x []=some ⟨t,x⟩:=by unfold get?;cases t <;> rfl
theorem HU{F:af}{w:World}{n:Nat}{t:Ty}{m:Md}{x:List t.T}{cs:List Value}{S:af}{s:Option (Nat×Nat)}{π:List Stp}{u:Ty}{y:u.T}{z:t.T}{i:Int}
 (ih:∀ (m:Md) (x:t.T) (cs:List Value) (S:af) (s:Option (Nat×Nat)),Rep F w t m x cs S->get? t x π=some ⟨u,y⟩->dy t m π=true->∃ ds s' S',resolve w t cs s π=some (ds,s')/\Rep F w u (atM t m π) y ds S'/\Sub S' S/\Foc F w t m x cs S s π u ds s' S')
 (h0:0<=i) (hz:x[i.toNat]?=some z) (hg:get? t z π=some ⟨u,y⟩) (ho:dy t m.el π=true) (hn:x.length=n) (h:bp (Rep F w t m.el) x cs S):
 ∃ ds s' S',resolve w (.arr n t) cs s (.ai i::π)=some (ds,s')/\Rep F w u (atM t m.el π) y ds S'/\Sub S' S/\Foc F w (.arr n t) m x cs S s (.ai i::π) u ds s' S':=by
 obtain⟨c,S1,pre,post,hr,s1,rfl,hp,lM⟩:=bp.focus (λy c S h=>aT F w t m.el y c S h) hz h
 have hcl:=aT F w t _ _ _ _ hr
 have hi:i.toNat<n:=by rw[<-hn];exact(List.getElem?_eq_some_iff.1 hz).1
 have hc:((pre++c++post).drop (i.toNat*t.width)).take t.width=c:=by rw[aO,iC hp,eU hcl]
 obtain⟨ds,s',S',cq,bF,s2,gd⟩:=ih m.el z c S1 (s.map λp=>(p.1,p.2+i.toNat*t.width)) hr hg ho
 refine⟨ds,s',S',?_,bF,s2.trans s1,?_⟩
 ·simp only[resolve]
  rw[if_pos ⟨h0,hi⟩,hc]
  exact cq
 ·have dv:∀ (y':u.T) (x':List t.T),ji (.arr n t) x (.ai i::π) u y'=some x'->∃ z',ji t z π u y'=some z'/\x'=x.set i.toNat z':=by
   intro y' x' hs
   unfold ji at hs
   simp only[iB]at hs
   rw[if_pos h0,hz]at hs
   simp only at hs
   rw[iO]at hs
   obtain⟨z',h1,h2⟩:=cf.1 hs
   exact⟨z',h1,(cu h2).symm⟩
  rcases gd with⟨eC,dq,rfl,rfl,w2⟩|⟨b,o,rfl,hb,hnb,hl,w2⟩
  ·refine .inl ⟨pre++eC,dq++post,by simp,?_,?_⟩
   ·cases s with
    |none=>rfl
    |some p=>simp[hp,cG]
   ·intro F' w' y' es R x' m' mr hM hF hs hy he hR hS hFw
    obtain⟨z',hz',rfl⟩:=dv _ _ hs
    obtain⟨hM,rfl⟩:=hM
    refine⟨by rw[fg];exact hn,?_⟩
    have:=lM (Rep F' w' t mr.el) z' (eC++es++dq) (λk=>(S1 k/\¬S' k)\/R k)
     (λq c T hT hn hr=>aX hF hFw t _ _ _ _ _ hr (Sub.refl _) (λk hk=>hS k (hT k hk) (λh'=>hn k hk (s2 k h'))))
     (w2 F' w' y' es R z' m' _ hM hF hz' hy he (λk a b=>hR k a (s1 k b)) (λk a b=>hS k (s1 k a) b) hFw)
     (λk a b=>a.elim (λa=>a.1) (λa=>s2 k (hR k a b)))
    have e:pre++eC++es++(dq++post)=pre++(eC++es++dq)++post:=by simp
    rw[e]
    refine this.mono (λk hk=>?_)
    rcases hk with⟨a,b⟩|(⟨a,b⟩|a)
    ·exact .inl ⟨a,λh'=>b (s2 k h')⟩
    ·exact .inl ⟨s1 k a,b⟩
    ·exact .inr a
  ·refine .inr ⟨b,o,rfl,s1 b hb,hnb,hl,?_⟩
   intro F' w' y' es R x' m' mr hM hF hs hy he hR hS hU hFw
   obtain⟨z',hz',rfl⟩:=dv _ _ hs
   obtain⟨hM,rfl⟩:=hM
   refine⟨by rw[fg];exact hn,?_⟩
   have:=lM (Rep F' w' t mr.el) z' c (λk=>(S1 k/\¬S' k)\/R k)
    (λq c T hT hn hr=>aX hF hFw t _ _ _ _ _ hr (Sub.refl _) (λk hk=>hS k (hT k hk) (λh'=>hn k hk (s2 k h')) (λe=>hn k hk (e ▸ hb))))
    (w2 F' w' y' es R z' m' _ hM hF hz' hy he (λk a b=>hR k a (s1 k b)) (λk a b c=>hS k (s1 k a) b c) hU hFw)
    (λk a b=>a.elim (λa=>a.1) (λa=>s2 k (hR k a b)))
   refine this.mono (λk hk=>?_)
   rcases hk with⟨a,b⟩|(⟨a,b⟩|a)
   ·exact .inl ⟨a,λh'=>b (s2 k h')⟩
   ·exact .inl ⟨s1 k a,b⟩
   ·exact .inr a
theorem Fy{F:af}{w:World}{t:Ty}{m:Md}{x:List t.T}{cs:List Value}{S:af}{s:Option (Nat×Nat)}{π:List Stp}{u:Ty}{y:u.T}{z:t.T}{i:Int}
 (ih:∀ (m:Md) (x:t.T) (cs:List Value) (S:af) (s:Option (Nat×Nat)),Rep F w t m x cs S->get? t x π=some ⟨u,y⟩->dy t m π=true->∃ ds s' S',resolve w t cs s π=some (ds,s')/\Rep F w u (atM t m π) y ds S'/\Sub S' S/\Foc F w t m x cs S s π u ds s' S')
 (h0:0<=i) (hz:x[i.toNat]?=some z) (hg:get? t z π=some ⟨u,y⟩) (ho:dy t m π=true) (h:DD w t.width (Rep F w t m) x cs S):
 ∃ ds s' S',resolve w (.sl t) cs s (.idx i::π)=some (ds,s')/\Rep F w u (atM t m π) y ds S'/\Sub S' S/\Foc F w (.sl t) (.own m) x cs S s (.idx i::π) u ds s' S':=by
 obtain⟨a,cap,rfl,h1,h2,h3⟩:=h
 have hi:i.toNat<x.length:=(List.getElem?_eq_some_iff.1 hz).1
 rcases h3 with rfl|⟨b,off,c,e,rfl,hb,hc,hS,S1,hr,s1,n1⟩
 ·omega
 have hw:=λy c S (h:Rep F w t m y c S)=>aT F w t m y c S h
 obtain⟨d,T,pre,post,hd,t1,fB,hp,lM⟩:=bp.focus hw hz hr
 have hdl:=hw _ _ _ hd
 have hrl:=bp.len hw hr
 have hcl:off+x.length*t.width<=c.toList.length:=by
  rw[aW]
  exact bu (qT (fL _ h1) _) hc
 have fC:ri w b (off+i.toNat*t.width) d:=by
  refine⟨c,e.any,hb,c.toList.take off++pre,post++(c.toList.drop off).drop (x.length*t.width),?_,?_⟩
  ·rw[show c.toList.take off++pre++d++(post++(c.toList.drop off).drop (x.length*t.width))=c.toList.take off++((pre++d++post)++(c.toList.drop off).drop (x.length*t.width)) by simp]
   rw[<-fB,eE,eE]
  ·rw[aj,aN,hp];omega
 obtain⟨ds,s',S',cq,bF,s2,gd⟩:=ih m z d T (some (b,off+i.toNat*t.width)) hd hg ho
 refine⟨ds,s',S',?_,bF,(s2.trans t1).trans s1,?_⟩
 ·simp only[resolve]
  rw[if_pos ⟨h0,hi⟩]
  have:=fP fC
  rw[hdl]at this
  rw[this]
  exact cq
 ·have nb:¬S' b:=λh'=>n1 (t1 b (s2 b h'))
  have dv:∀ (y':u.T) (x':List t.T),ji (.sl t) x (.idx i::π) u y'=some x'->∃ z',ji t z π u y'=some z'/\x'=x.set i.toNat z':=by
   intro y' x' hs
   unfold ji at hs
   simp only[iB]at hs
   rw[if_pos h0,hz]at hs
   simp only at hs
   rw[iO]at hs
   obtain⟨z',h1,h2⟩:=cf.1 hs
   exact⟨z',h1,(cu h2).symm⟩
  rcases gd with⟨eC,dq,rfl,rfl,w2⟩|⟨b2,o2,rfl,hb2,rj,hl2,w2⟩
  ·refine .inr ⟨b,off+i.toNat*t.width+eC.length,rfl,hS,nb,?_,?_⟩
   ·obtain⟨c0,e0,hb0,l,r,hc0,hl⟩:=fC
    exact⟨c0,e0,hb0,l++eC,dq++r,by rw[hc0];simp,by rw[aj,hl]⟩
   ·intro F' w' y' es R x' m' mr hM hF hs hy he hR hk hU hFw
    obtain⟨z',hz',rfl⟩:=dv _ _ hs
    obtain⟨e',hme,hM,rfl⟩:=hM
    injection hme with hme
    subst hme
    obtain⟨c1,c',e1,l,r,hb1,hb',hc1,hc',hl⟩:=hU
    obtain⟨hcc,q2,q3,q4⟩:c1=c/\e1.t=e.t/\e1.a=e.a/\e1.b=e.b:=by rw[hb]at hb1;injection hb1 with hb1;injection hb1 with q1 q2 q3;injection q3 with q3 q4;exact⟨q1.symm,q2.symm,q3.symm,q4.symm⟩
    subst hcc
    have hsz:c'.size=c1.size:=by
     rw[<-aW,<-aW,hc1,hc'];simp[he]
    refine⟨some ⟨b,off,none⟩,cap,by rw[fg],by rw[fg];exact h1,h2,.inr ⟨b,off,c',e.to (iy hsz),rfl,by rw[hb',q2,q3,q4];rfl,by rw[hsz];exact hc,.inl ⟨hS,nb⟩,?_⟩⟩
    have DF:=Cb fB hcl hc1 rfl (by rw[hp];exact hl) hc' he
    have:=lM (Rep F' w' t m) z' (eC++es++dq) (λk=>(T k/\¬S' k)\/R k)
     (λq c T' hT hn hr=>aX hF hFw t _ _ _ _ _ hr (Sub.refl _) (λk hk'=>hk k (s1 k (hT k hk')) (λh'=>hn k hk' (s2 k h')) (λe=>n1 (e ▸ hT k hk'))))
     (w2 F' w' y' es R z' m' _ hM hF hz' hy he (λk a b=>hR k a (s1 k (t1 k b))) (λk a b'=>hk k (s1 k (t1 k a)) b' (λe=>n1 (t1 _ (e ▸ a)))) hFw)
     (λk a b=>a.elim (λa=>a.1) (λa=>s2 k (hR k a (s1 k b))))
    refine⟨_,by rw[fg,DF];exact this,λk hk=>?_,?_⟩
    ·rcases hk with⟨a,b⟩|(⟨a,b⟩|a)
     ·exact .inl ⟨s1 k a,λh'=>b (s2 k h')⟩
     ·exact .inl ⟨s1 k (t1 k a),b⟩
     ·exact .inr a
    ·rintro(⟨a,_⟩|(⟨a,_⟩|a))
     ·exact n1 a
     ·exact n1 (t1 b a)
     ·exact nb (hR b a hS)
  ·refine .inr ⟨b2,o2,rfl,s1 _ (t1 _ hb2),rj,hl2,?_⟩
   intro F' w' y' es R x' m' mr hM hF hs hy he hR hk hU hFw
   obtain⟨z',hz',rfl⟩:=dv _ _ hs
   obtain⟨e',hme,hM,rfl⟩:=hM
   injection hme with hme
   subst hme
   have hne:b≠b2:=λe=>n1 (t1 b (e ▸ hb2))
   refine⟨some ⟨b,off,none⟩,cap,by rw[fg],by rw[fg];exact h1,h2,.inr ⟨b,off,c,e,rfl,(hk b hS nb hne).trans hb,hc,.inl ⟨hS,nb⟩,?_⟩⟩
   have:=lM (Rep F' w' t m) z' d (λk=>(T k/\¬S' k)\/R k)
    (λq c T' hT hn hr=>aX hF hFw t _ _ _ _ _ hr (Sub.refl _) (λk hk'=>hk k (s1 k (hT k hk')) (λh'=>hn k hk' (s2 k h')) (λe=>hn k hk' (e ▸ hb2))))
    (w2 F' w' y' es R z' m' _ hM hF hz' hy he (λk a b=>hR k a (s1 k (t1 k b))) (λk a b c=>hk k (s1 k (t1 k a)) b c) hU hFw)
    (λk a b=>a.elim (λa=>a.1) (λa=>s2 k (hR k a (s1 k b))))
   refine⟨_,by rw[fg,fB];exact this,λk hk=>?_,?_⟩
   ·rcases hk with⟨a,b⟩|(⟨a,b⟩|a)
    ·exact .inl ⟨s1 k a,λh'=>b (s2 k h')⟩
    ·exact .inl ⟨s1 k (t1 k a),b⟩
    ·exact .inr a
   ·rintro(⟨a,_⟩|(⟨a,_⟩|a))
    ·exact n1 a
    ·exact n1 (t1 b a)
    ·exact nb (hR b a hS)
theorem wA{F:af}{w:World}{t:Ty}{m:Md}{z:t.T}{cs:List Value}{S:af}{π:List Stp}{u:Ty}{y:u.T}
 (ih:∀ (m:Md) (x:t.T) (cs:List Value) (S:af) (s:Option (Nat×Nat)),Rep F w t m x cs S->get? t x π=some ⟨u,y⟩->dy t m π=true->∃ ds s' S',resolve w t cs s π=some (ds,s')/\Rep F w u (atM t m π) y ds S'/\Sub S' S/\Foc F w t m x cs S s π u ds s' S')
 (hg:get? t z π=some ⟨u,y⟩) (ho:dy t m π=true) (h:xB w (Rep F w t m) z cs S):
 ∃ p ds s' S',cs=[.pointer (some ⟨p,0,none⟩)]/\resolve w t (eT w p 0 t.width) (some (p,0)) π=some (ds,s')/\Rep F w u (atM t m π) y ds S'/\Sub S' S/\
  ∃ b o,s'=some (b,o)/\S b/\¬S' b/\ri w b o ds/\
 ∀ F' w' y' es R z' m' mr,pJ t m π m' mr->Sub F F'->ji t z π u y'=some z'->Rep F' w' u m' y' es R->es.length=ds.length->(∀ k,R k->S k->S' k)->
  (∀ k,S k->¬S' k->k≠b->w'.heap[k]?=w.heap[k]?)->Upd w w' b o ds es->(∀ k,F k->w'.heap[k]?=w.heap[k]?)->
  xB w' (Rep F' w' t mr) z' cs (λk=>(S k/\¬S' k)\/R k):=by
 obtain⟨p,c,e,rfl,hb,hS,S1,hr,s1,n1⟩:=h
 have hcl:=aT F w t m z _ _ hr
 have fC:ri w p 0 c.toList:=⟨c,e,hb,[],[],by simp,rfl⟩
 obtain⟨ds,s',S',cq,bF,s2,gd⟩:=ih m z c.toList S1 (some (p,0)) hr hg ho
 have hcc:=fP fC
 rw[hcl]at hcc
 have np:¬S' p:=λh'=>n1 (s2 p h')
 refine⟨p,ds,s',S',rfl,by rw[hcc];exact cq,bF,s2.trans s1,?_⟩
 rcases gd with⟨eC,dq,hc2,rfl,w2⟩|⟨b2,o2,rfl,hb2,rj,hl2,w2⟩
 ·refine⟨p,0+eC.length,rfl,hS,np,⟨c,e,hb,eC,dq,hc2,by simp⟩,?_⟩
  intro F' w' y' es R z' m' mr hM hF hs hy he hR hk hU hFw
  obtain⟨c1,c',e1,l,r,hb1,hb',hc1,hc',hl⟩:=hU
  have hcc:c1=c:=by rw[hb]at hb1;injection hb1 with hb1;injection hb1 with hb1 _ _;exact hb1.symm
  subst hcc
  have hsz:c'.size=c1.size:=by
   rw[<-aW,<-aW,hc1,hc'];simp[he]
  refine⟨p,c',e1.to (iy hsz),rfl,hb',.inl ⟨hS,np⟩,λk=>(S1 k/\¬S' k)\/R k,?_,λk hk=>hk.imp (λh=>⟨s1 k h.1,h.2⟩) id,?_⟩
  ·have:=w2 F' w' y' es R z' m' mr hM hF hs hy he (λk a b=>hR k a (s1 k b)) (λk a b=>hk k (s1 k a) b (λe=>n1 (e ▸ a))) hFw
   have e3:l++(ds++r)=eC++(ds++dq):=by rw[<-aO,<-hc1,<-aO];exact hc2
   obtain⟨k1,k2⟩:=kS e3 (by omega)
   have k3:=qM k2
   rw[hc',k1,k3]
   exact this
  ·rintro(⟨a,_⟩|a)
   ·exact n1 a
   ·exact np (hR p a hS)
 ·refine⟨b2,o2,rfl,s1 _ hb2,rj,hl2,?_⟩
  intro F' w' y' es R z' m' mr hM hF hs hy he hR hk hU hFw
  have hne:p≠b2:=λe=>n1 (e ▸ hb2)
  refine⟨p,c,e,rfl,(hk p hS np hne).trans hb,.inl ⟨hS,np⟩,λk=>(S1 k/\¬S' k)\/R k,?_,λk hk=>hk.imp (λh=>⟨s1 k h.1,h.2⟩) id,?_⟩
  ·exact w2 F' w' y' es R z' m' mr hM hF hs hy he (λk a b=>hR k a (s1 k b)) (λk a b c=>hk k (s1 k a) b c) hU hFw
  ·rintro(⟨a,_⟩|a)
   ·exact n1 a
   ·exact np (hR p a hS)
theorem iP{t:Ty}{x:t.T}{π:List Stp}{u:Ty}{y:u.T}{β:Type}{f:t.T->β}{r:β}(h:iB t x π u y (λz=>some (f z))=some r):∃ z,ji t x π u y=some z/\r=f z:=by
 rw[iO]at h
 obtain⟨z,h1,h2⟩:=cf.1 h
 exact⟨z,h1,(cu h2).symm⟩
theorem focus(F:af)(w:World):∀ (π:List Stp) (t:Ty) (m:Md) (x:t.T) (cs:List Value) (S:af) (s:Option (Nat×Nat)) (u:Ty) (y:u.T),
 Rep F w t m x cs S->get? t x π=some ⟨u,y⟩->dy t m π=true->
 ∃ ds s' S',resolve w t cs s π=some (ds,s')/\Rep F w u (atM t m π) y ds S'/\Sub S' S/\Foc F w t m x cs S s π u ds s' S':=by
 intro π
 induction π with
 |nil=>
  intro t m x cs S s u y h hg _
  rw[eY]at hg
  injection hg with hg
  injection hg with h1 h2
  subst h1
  cases h2
  refine⟨cs,s,S,?_,?_,Sub.refl _,.inl ⟨[],[],by simp,?_,?_⟩⟩
  ·cases t <;> rfl
  ·cases t <;> exact h
  ·cases s <;> rfl
  ·intro F' w' y' es R x' m' mr hM _ hs hy _ _ _ _
   have hx:x'=y':=by
    unfold ji at hs
    cases t <;> (simp only[iB]at hs;first|exact(cu ((dif_pos trivial).symm.trans hs)).symm|(rw[dif_pos trivial]at hs;done))
   subst hx
   have hm:mr=m':=by cases t <;> exact hM
   subst hm
   simp only[bL,b9]
   exact tP hy (λk h=>Or.inr h)
 |cons p0 π ih=>
  intro t m x cs S s u y h hg ho
  unfold get? at hg
  cases t <;> cases p0 <;> simp only[fA,reduceCtorEq]at hg
  case st.st t=>
   simp only[dy]at ho
   obtain⟨ds,s',S',h1,h2,h3,h4⟩:=ih t m x cs S s u y h hg ho
   exact⟨ds,s',S',h1,h2,h3,h4⟩
  case pair.fst a b=>
   obtain⟨c1,c2,S1,S2,rfl,h1,h2,s1,s2,d⟩:=h
   simp only[dy]at ho
   have hcl:=aT _ _ _ _ _ _ _ h1
   obtain⟨ds,s',S',cq,bF,s3,gd⟩:=ih a m.fst x.1 c1 S1 s u y h1 hg ho
   refine⟨ds,s',S',?_,bF,s3.trans s1,?_⟩
   ·simp only[resolve];rw[eU hcl];exact cq
   ·rcases gd with⟨eC,dq,rfl,rfl,w2⟩|⟨b2,o2,rfl,hb2,rj,hl2,w2⟩
    ·refine .inl ⟨eC,dq++c2,by simp,rfl,?_⟩
     intro F' w' y' es R x' m' mr hM hF hs hy he hR hS hFw
     obtain⟨q,hM,hq⟩:=hM
     obtain⟨z,hz,rfl⟩:=iP (f:=λz=>(z,x.2)) hs
     have e1:mr.fst=q/\mr.snd=m.snd:=by rcases hq with⟨rfl,rfl⟩|rfl <;> exact⟨rfl,rfl⟩
     refine⟨eC++es++dq,c2,λk=>(S1 k/\¬S' k)\/R k,S2,by simp,?_,?_,?_,?_,?_⟩
     ·rw[e1.1];exact w2 F' w' y' es R z m' q hM hF hz hy he (λk a b=>hR k a (s1 k b)) (λk a b=>hS k (s1 k a) b) hFw
     ·rw[e1.2];exact aX hF hFw _ _ _ _ _ _ h2 (Sub.refl _) (λk hk=>hS k (s2 k hk) (λh'=>d k (s3 k h') hk))
     ·exact λk hk=>hk.imp (λh=>⟨s1 k h.1,h.2⟩) id
     ·exact λk hk=>.inl ⟨s2 k hk,λh'=>d k (s3 k h') hk⟩
     ·exact λk a b=>a.elim (λa=>d k a.1 b) (λa=>d k (s3 k (hR k a (s2 k b))) b)
    ·refine .inr ⟨b2,o2,rfl,s1 _ hb2,rj,hl2,?_⟩
     intro F' w' y' es R x' m' mr hM hF hs hy he hR hS hU hFw
     obtain⟨q,hM,hq⟩:=hM
     obtain⟨z,hz,rfl⟩:=iP (f:=λz=>(z,x.2)) hs
     have e1:mr.fst=q/\mr.snd=m.snd:=by rcases hq with⟨rfl,rfl⟩|rfl <;> exact⟨rfl,rfl⟩
     refine⟨c1,c2,λk=>(S1 k/\¬S' k)\/R k,S2,rfl,?_,?_,?_,?_,?_⟩
     ·rw[e1.1];exact w2 F' w' y' es R z m' q hM hF hz hy he (λk a b=>hR k a (s1 k b)) (λk a b c=>hS k (s1 k a) b c) hU hFw
     ·rw[e1.2];exact aX hF hFw _ _ _ _ _ _ h2 (Sub.refl _) (λk hk=>hS k (s2 k hk) (λh'=>d k (s3 k h') hk) (λe=>d k (e ▸ hb2) hk))
     ·exact λk hk=>hk.imp (λh=>⟨s1 k h.1,h.2⟩) id
     ·exact λk hk=>.inl ⟨s2 k hk,λh'=>d k (s3 k h') hk⟩
     ·exact λk a b=>a.elim (λa=>d k a.1 b) (λa=>d k (s3 k (hR k a (s2 k b))) b)
  case pair.snd a b=>
   obtain⟨c1,c2,S1,S2,rfl,h1,h2,s1,s2,d⟩:=h
   simp only[dy]at ho
   have hcl:=aT _ _ _ _ _ _ _ h1
   obtain⟨ds,s',S',cq,bF,s3,gd⟩:=ih b m.snd x.2 c2 S2 (s.map λp=>(p.1,p.2+a.width)) u y h2 hg ho
   refine⟨ds,s',S',?_,bF,s3.trans s2,?_⟩
   ·simp only[resolve];rw[iC hcl];exact cq
   ·rcases gd with⟨eC,dq,rfl,rfl,w2⟩|⟨b2,o2,rfl,hb2,rj,hl2,w2⟩
    ·refine .inl ⟨c1++eC,dq,by simp,?_,?_⟩
     ·cases s with
      |none=>rfl
      |some p=>simp[hcl,cG]
     intro F' w' y' es R x' m' mr hM hF hs hy he hR hS hFw
     obtain⟨q,hM,hq⟩:=hM
     obtain⟨z,hz,rfl⟩:=iP (f:=λz=>(x.1,z)) hs
     have e1:mr.fst=m.fst/\mr.snd=q:=by rcases hq with⟨rfl,rfl⟩|rfl <;> exact⟨rfl,rfl⟩
     refine⟨c1,eC++es++dq,S1,λk=>(S2 k/\¬S' k)\/R k,by simp,?_,?_,?_,?_,?_⟩
     ·rw[e1.1];exact aX hF hFw _ _ _ _ _ _ h1 (Sub.refl _) (λk hk=>hS k (s1 k hk) (λh'=>d k hk (s3 k h')))
     ·rw[e1.2];exact w2 F' w' y' es R z m' q hM hF hz hy he (λk a b=>hR k a (s2 k b)) (λk a b=>hS k (s2 k a) b) hFw
     ·exact λk hk=>.inl ⟨s1 k hk,λh'=>d k hk (s3 k h')⟩
     ·exact λk hk=>hk.imp (λh=>⟨s2 k h.1,h.2⟩) id
     ·exact λk a b=>b.elim (λb=>d k a b.1) (λb=>d k a (s3 k (hR k b (s1 k a))))
    ·refine .inr ⟨b2,o2,rfl,s2 _ hb2,rj,hl2,?_⟩
     intro F' w' y' es R x' m' mr hM hF hs hy he hR hS hU hFw
     obtain⟨q,hM,hq⟩:=hM
     obtain⟨z,hz,rfl⟩:=iP (f:=λz=>(x.1,z)) hs
     have e1:mr.fst=m.fst/\mr.snd=q:=by rcases hq with⟨rfl,rfl⟩|rfl <;> exact⟨rfl,rfl⟩
     refine⟨c1,c2,S1,λk=>(S2 k/\¬S' k)\/R k,rfl,?_,?_,?_,?_,?_⟩
     ·rw[e1.1];exact aX hF hFw _ _ _ _ _ _ h1 (Sub.refl _) (λk hk=>hS k (s1 k hk) (λh'=>d k hk (s3 k h')) (λe=>d k hk (e ▸ hb2)))
     ·rw[e1.2];exact w2 F' w' y' es R z m' q hM hF hz hy he (λk a b=>hR k a (s2 k b)) (λk a b c=>hS k (s2 k a) b c) hU hFw
     ·exact λk hk=>.inl ⟨s1 k hk,λh'=>d k hk (s3 k h')⟩
     ·exact λk hk=>hk.imp (λh=>⟨s2 k h.1,h.2⟩) id
     ·exact λk a b=>b.elim (λb=>d k a b.1) (λb=>d k a (s3 k (hR k b (s1 k a))))
  case sl.idx t i=>
   split at hg
   ·rename_i h0
    cases hz:(x:List t.T)[i.toNat]? with
    |none=>rw[hz]at hg;simp at hg
    |some z=>
     rw[hz]at hg
     simp only[dy,ag]at ho
     cases m with
     |ro=>simp[Md.eX]at ho
     |pr _ _=>simp[Md.eX]at ho
     |own m=>exact Fy (λm x cs S s h1 h2 h3=>ih t m x cs S s u y h1 h2 h3) h0 hz hg ho.2 h
   ·cases hg
  case arr.ai n t i=>
   split at hg
   ·rename_i h0
    cases hz:(x:List t.T)[i.toNat]? with
    |none=>rw[hz]at hg;simp at hg
    |some z=>
     rw[hz]at hg
     simp only[dy]at ho
     exact HU (λm x cs S s h1 h2 h3=>ih t m x cs S s u y h1 h2 h3) h0 hz hg ho h.1 h.2
   ·cases hg
  case box.deref t=>
   simp only[dy,ag]at ho
   cases m with
   |ro=>simp[Md.eX]at ho
   |pr _ _=>simp[Md.eX]at ho
   |own m=>
    obtain⟨p,ds,s',S',rfl,cq,bF,s1,b,o,h1,h2,h3,h4,h5⟩:=wA (λm x cs S s h1 h2 h3=>ih t m x cs S s u y h1 h2 h3) hg ho.2 h
    refine⟨ds,s',S',by simp only[resolve];exact cq,bF,s1,.inr ⟨b,o,h1,h2,h3,h4,?_⟩⟩
    intro F' w' y' es R x' m' mr hM hF hs hy he hR hS hU hFw
    obtain⟨e',q,hme,hM,rfl⟩:=hM
    injection hme with hme
    subst hme
    exact h5 F' w' y' es R x' m' q hM hF hs hy he hR hS hU hFw
  case ptr.deref t=>
   simp only[dy,ag]at ho
   cases x with
   |none=>simp at hg
   |some z=>
   cases m with
   |ro=>simp[Md.eX]at ho
   |pr _ _=>simp[Md.eX]at ho
   |own m=>
    obtain⟨p,ds,s',S',rfl,cq,bF,s1,b,o,h1,h2,h3,h4,h5⟩:=wA (λm x cs S s h1 h2 h3=>ih t m x cs S s u y h1 h2 h3) hg ho.2 h
    refine⟨ds,s',S',by simp only[resolve];exact cq,bF,s1,.inr ⟨b,o,h1,h2,h3,h4,?_⟩⟩
    intro F' w' y' es R x' m' mr hM hF hs hy he hR hS hU hFw
    obtain⟨e',q,hme,hM,rfl⟩:=hM
    injection hme with hme
    subst hme
    obtain⟨z',hz',rfl⟩:=iP (f:=λz=>some z) hs
    exact h5 F' w' y' es R z' m' q hM hF hz' hy he hR hS hU hFw
inductive TK where
 |int (k:IntKind)|bool|str
 |slice (e:TypeId)|array (n:Nat) (e:TypeId)
 |struct (fs:List (TypeId×Nat))
 |pointer (e:TypeId)
 |chan (e:TypeId)
 |map (k e:TypeId)
 |other
structure TD where
 kd:TK
 bytes:Nat
 ty:Ty
 zero:List Value
def TK.agg:TK->Bool
 |.struct _|.array _ _=>true
 |_=>false
structure TOk(P:Program)(t:TypeId)(d:TD):Prop where
 vU:∃ i z,P.info? t=some i/\i.size=d.ty.width/\i.bytes=d.bytes/\i.zero=some z/\z.cells.toList=d.zero
 desc:match d.kd with
  |.int k=>P.underlying t=some (.int k)/\d.ty=.int k
  |.bool=>P.underlying t=some .bool/\d.ty=.bool
  |.str=>P.underlying t=some .string/\d.ty=.str
  |.slice e=>P.underlying t=some (.slice e)
  |.array n e=>P.underlying t=some (.array n e)
  |.struct fs=>∃ f:Array Field,P.underlying t=some (.struct f)/\f.toList.map (λx=>(x.type,x.offset))=fs
  |.pointer e=>P.underlying t=some (.pointer e)
  |.chan e=>∃ dir,P.underlying t=some (.chan dir e)
  |.map k e=>P.underlying t=some (.map k e)
  |.other=>∃ q,P.underlying t=some q/\(∀ fs,q≠.struct fs)/\(∀ n e,q≠.array n e)
 agg:d.ty.agg=d.kd.agg
 SM:d.zero.length=d.ty.width
 zi:∀ k,d.kd=.int k->∃ i,P.info? t=some i/\i.zero=some (.int k 0)
structure Lab where
 v:Nat
 t:Ty
 m:Md
 x:t.T
inductive aq where
 |val (t:Ty) (x:t.T)
 |cst (v:Value)
 |hdr (l v:Nat) (π:List Stp) (c:V)
 |adr (l v:Nat) (π:List Stp) (c:V)
 |li (t:Ty) (x:t.T)
 |view (l:Nat) (te:Ty) (lo hi:Int)
inductive Ent where
 |one (e:aq)
 |tup (es:List aq)
 |clo (f:FuncId) (es:List aq)
structure St where
 E:Nat->Option Ent
 L:Nat->Option Lab
 U:Nat->Bool
def upd{α:Type}(f:Nat->Option α)(k:Nat)(v:Option α):Nat->Option α:=λj=>bif Nat.beq j k then v else f j
theorem aF{α:Type}(f:Nat->Option α)(k:Nat)(v:Option α):upd f k v k=v:=by simp[upd]
theorem aR{α:Type}(f:Nat->Option α){k j:Nat}(v:Option α)(h:j≠k):upd f k v j=f j:=by
 unfold upd
 cases hb:Nat.beq j k
 ·rfl
 ·exact absurd (bh hb) h
theorem fD{α:Type}{f:Nat->Option α}{k j:Nat}{v:Option α}{r:α}(h:upd f k v j=some r):(j=k/\v=some r)\/(j≠k/\f j=some r):=by
 by_cases e:j=k
 ·subst e;rw[aF]at h;exact .inl ⟨rfl,h⟩
 ·rw[aR _ _ e]at h;exact .inr ⟨e,h⟩
def St.tQ(σ:St)(d:Nat)(e:aq):St:={σ with E:=upd σ.E d (some (.one e))}
def St.SN(σ:St)(l:Nat)(b:Lab):St:={σ with L:=upd σ.L l (some b),U:=λj=>Nat.beq j l||σ.U j}
theorem VR.cells{t:Ty}{cs:List Value}{v:Value}(h:VR t cs v):v.cells.toList=cs:=by
 unfold VR at h
 split at h
 ·subst h;rfl
 ·obtain⟨rfl,h1⟩:=h
  cases v <;> first|rfl|(simp[Value.oneCell']at h1)
def bg:Ty->List Value->Option (Nat×Nat)->List Stp->Option (Nat×Nat)
 |_,_,s,[]=>s
 |.st t,cs,s,.st::π=>bg t cs s π
 |.pair a _,cs,s,.fst::π=>bg a (cs.take a.width) s π
 |.pair a b,cs,s,.snd::π=>bg b (cs.drop a.width) (s.map λp=>(p.1,p.2+a.width)) π
 |.sl t,cs,s,.idx i::π=>match s,cs with
  |none,[.slice (some ⟨b,off,none⟩) len _]=>if 0<=i/\i.toNat<len then bg t [] (some (b,off+i.toNat*t.width)) π else none
  |_,_=>none
 |.hol t,cs,s,.idx i::π=>match s,cs with
  |none,[.slice (some ⟨b,off,none⟩) len _]=>if 0<=i/\i.toNat<len then bg t [] (some (b,off+i.toNat*t.width)) π else none
  |_,_=>none
 |.arr n t,cs,s,.ai i::π=>if 0<=i/\i.toNat<n then bg t ((cs.drop (i.toNat*t.width)).take t.width) (s.map λp=>(p.1,p.2+i.toNat*t.width)) π else none
 |.box t,cs,s,.deref::π=>match s,cs with
  |none,[.pointer (some ⟨b,0,none⟩)]=>bg t [] (some (b,0)) π
  |_,_=>none
 |.ptr t,cs,s,.deref::π=>match s,cs with
  |none,[.pointer (some ⟨b,0,none⟩)]=>bg t [] (some (b,0)) π
  |_,_=>none
 |_,_,_,_::_=>none
def short:Nat->List Stp->Bool
 |_,[]=>true
 |n,.idx _::π=>match n with|0=>short 1 π|_=>false
 |n,.deref::π=>match n with|0=>short 1 π|_=>false
 |n,_::π=>short n π
def P8(cs:List Value)(sz:Nat)(lo hi:Int)(v:Value):Prop:=
 ∃ a len cap,cs=[.slice a len cap]/\0<=lo/\lo<=hi/\hi<=(len:Int)/\v=.slice (if cap=lo.toNat then a else a.map (·.add (lo.toNat*sz))) (hi.toNat-lo.toNat) (cap-lo.toNat)
def aE(F:af)(w:World)(L:Nat->Option Lab)(U:Nat->Bool)(cg:Nat->List Value):aq->Value->Prop
 |.val t x,v=>∃ cs,Rep F w t .ro x cs af.none/\VR t cs v
 |.cst u,v=>v=u
 |.hdr l n π c,v=>U l=true/\∀ b,L l=some b->n<=b.v/\(π=[]->VR b.t (cg l) v)/\(n=b.v->dy b.t b.m π=true/\get? b.t b.x π=some c/\∀ ds s,resolve w b.t (cg l) none π=some (ds,s)->VR (atT b.t π) ds v)
 |.adr l n π c,v=>U l=true/\∀ b,L l=some b->n<=b.v/\(short 0 π=true->∀ p o,bg b.t (cg l) none π=some (p,o)->v=.pointer (some ⟨p,o,none⟩))/\
  (n=b.v->dy b.t b.m π=true/\get? b.t b.x π=some c/\∀ ds p o,resolve w b.t (cg l) none π=some (ds,some (p,o))->v=.pointer (some ⟨p,o,none⟩))
 |.view l te lo hi,v=>U l=true/\∀ b,L l=some b->P8 (cg l) te.width lo hi v
 |.li t x,v=>∃ a ds,v=.pointer (some a)/\F a.block/\At w a ds/\Rep F w t .ro x ds af.none
def cH(F:af)(w:World)(L:Nat->Option Lab)(U:Nat->Bool)(cg:Nat->List Value):List aq->List Value->Prop
 |[],vs=>vs=[]
 |e::es,vs=>∃ v r,vs=v::r/\aE F w L U cg e v/\cH F w L U cg es r
def iD(F:af)(w:World)(L:Nat->Option Lab)(U:Nat->Bool)(cg:Nat->List Value):Ent->Value->Prop
 |.one e,v=>aE F w L U cg e v
 |.tup es,v=>∃ vs:List Value,v=.tuple vs.toArray/\cH F w L U cg es vs
 |.clo f es,v=>∃ vs:List Value,v=.func (.func f) #[] vs.toArray/\cH F w L U cg es vs
structure Fr(w0:World)(S0:af)(w:World):Prop where
 os:w.os=w0.os
 tape:w.tape=w0.tape
 output:w.output=w0.output
 size:w0.heap.size<=w.heap.size
 block:∀ k,k<w0.heap.size->¬S0 k->w.heap[k]?=w0.heap[k]?
def GK:List Nat:=[]
def Gh(F:af)(w:World):Prop:=∀ p∈GK,F p/\∃ n,w.cell? ⟨p,0,none⟩=some (.int .i64 n)
theorem Gh.step{F F':af}{w w':World}(h:Gh F w)(hs:Sub F F')(hb:∀ p∈GK,w'.heap[p]?=w.heap[p]?):Gh F' w':=by
 intro p hp
 obtain⟨h1,n,h2⟩:=h p hp
 exact⟨hs p h1,n,(tO (a:=⟨p,0,none⟩) (hb p hp)).trans h2⟩
structure dH where
 w0:World
 S0:af
 F0:af
 N:Nat
 fix:Nat->Option (List Value)
 gh:Gh F0 w0
 ghs:∀ p∈GK,¬S0 p
 ghl:∀ p∈GK,p<w0.heap.size
structure aS(B:dH)(F:af)(Sg:Nat->af)(cg:Nat->List Value)(σ:St)(a:Act)(w:World):Prop where
 fr:Fr B.w0 B.S0 w
 size:a.tmps.size=B.N
 defers:a.defers=[]
 f0:Sub B.F0 F
 fl:∀ k,F k->k<w.heap.size
 fs:∀ k,F k->k<B.w0.heap.size->¬B.S0 k->B.F0 k
 lab:∀ l b,σ.L l=some b->Rep F w b.t b.m b.x (cg l) (Sg l)
 dis:∀ l l' b b',l≠l'->σ.L l=some b->σ.L l'=some b'->Dis (Sg l) (Sg l')
 eu:∀ l b,σ.L l=some b->Dis (Sg l) F
 lt:∀ l b,σ.L l=some b->∀ k,Sg l k->k<w.heap.size
 may:∀ l b,σ.L l=some b->∀ k,Sg l k->k<B.w0.heap.size->B.S0 k
 used:∀ l b,σ.L l=some b->σ.U l=true
 fix:∀ l cs,B.fix l=some cs->(σ.U l=true/\l % 8=6)/\∀ b,σ.L l=some b->cg l=cs
 ent:∀ t e,σ.E t=some e->iD F w σ.L σ.U cg e (a.tmps.getD t undef)
def Inv(B:dH)(σ:St)(a:Act)(w:World):Prop:=∃ F Sg cg,aS B F Sg cg σ a w
theorem resolve_congr{F:af}{w w':World}:∀ (π:List Stp) (t:Ty) (m:Md) (x:t.T) (cs:List Value) (S:af) (s:Option (Nat×Nat)),Rep F w t m x cs S->dy t m π=true->(get? t x π).isSome=true->
 (∀ k,S k->w'.heap[k]?=w.heap[k]?)->resolve w' t cs s π=resolve w t cs s π:=by
 intro π
 induction π with
 |nil=>intro t m x cs S s _ _ _ _;cases t <;> rfl
 |cons p0 π ih=>
  intro t m x cs S s h ho hg hw
  unfold get? at hg
  cases t <;> cases p0 <;> simp only[fA,Option.isSome_none,reduceCtorEq]at hg
  case st.st t=>exact ih t m x cs S s h ho hg hw
  case pair.fst a b=>
   obtain⟨c1,c2,S1,S2,rfl,h1,h2,s1,s2,d⟩:=h
   simp only[resolve]
   rw[eU (aT _ _ _ _ _ _ _ h1)]
   exact ih a _ _ _ _ _ h1 ho hg (λk hk=>hw k (s1 k hk))
  case pair.snd a b=>
   obtain⟨c1,c2,S1,S2,rfl,h1,h2,s1,s2,d⟩:=h
   simp only[resolve]
   rw[iC (aT _ _ _ _ _ _ _ h1)]
   exact ih b _ _ _ _ _ h2 ho hg (λk hk=>hw k (s2 k hk))
  case sl.idx t i=>
   split at hg
   ·rename_i h0
    cases hz:(x:List t.T)[i.toNat]? with
    |none=>rw[hz]at hg;simp at hg
    |some z=>
     rw[hz]at hg
     simp only[dy,ag]at ho
     cases m with
     |ro=>simp[Md.eX]at ho
     |pr _ _=>simp[Md.eX]at ho
     |own m=>
      obtain⟨a,cap,rfl,h1,h2,h3⟩:=h
      have hi:i.toNat<List.length x:=(List.getElem?_eq_some_iff.1 hz).1
      rcases h3 with rfl|⟨b,off,c,e,rfl,hb,hc,hS,S1,hr,s1,n1⟩
      ·omega
      have hW:=λy c S (h:Rep F w t m y c S)=>aT F w t m y c S h
      obtain⟨d,T,pre,post,hd,t1,fB,hp,_⟩:=bp.focus hW hz hr
      have ko:eT w b (off+i.toNat*t.width) t.width=d:=by
       have hdl:=hW _ _ _ hd
       have hrl:=bp.len hW hr
       have hcl:off+x.length*t.width<=c.toList.length:=by
        rw[aW]
        exact bu (qT (fL _ h1) _) hc
       have fC:ri w b (off+i.toNat*t.width) d:=by
        refine⟨c,e.any,hb,c.toList.take off++pre,post++(c.toList.drop off).drop (x.length*t.width),?_,?_⟩
        ·rw[show c.toList.take off++pre++d++(post++(c.toList.drop off).drop (x.length*t.width))=c.toList.take off++((pre++d++post)++(c.toList.drop off).drop (x.length*t.width)) by simp]
         rw[<-fB,eE,eE]
        ·rw[aj,aN,hp];omega
       have:=fP fC
       rwa [hdl]at this
      have tR:eT w' b (off+i.toNat*t.width) t.width=d:=by
       rw[<-ko];unfold eT;rw[hw b hS]
      simp only[resolve]
      rw[if_pos ⟨h0,hi⟩,if_pos ⟨h0,hi⟩,ko,tR]
      exact ih t m z d T _ hd ho.2 hg (λk hk=>hw k (s1 k (t1 k hk)))
   ·simp at hg
  case arr.ai n t i=>
   split at hg
   ·rename_i h0
    cases hz:(x:List t.T)[i.toNat]? with
    |none=>rw[hz]at hg;simp at hg
    |some z=>
     rw[hz]at hg
     obtain⟨hn,h⟩:=h
     have hW:=λy c S (h:Rep F w t m.el y c S)=>aT F w t m.el y c S h
     obtain⟨d,T,pre,post,hd,t1,rfl,hp,_⟩:=bp.focus hW hz h
     have hdl:=hW _ _ _ hd
     have hi:i.toNat<n:=by rw[<-hn];exact(List.getElem?_eq_some_iff.1 hz).1
     have hc:((pre++d++post).drop (i.toNat*t.width)).take t.width=d:=by rw[aO,iC hp,eU hdl]
     simp only[resolve]
     rw[if_pos ⟨h0,hi⟩,if_pos ⟨h0,hi⟩,hc]
     exact ih t m.el z d T _ hd ho hg (λk hk=>hw k (t1 k hk))
   ·simp at hg
  case box.deref t=>
   simp only[dy,ag]at ho
   cases m with
   |ro=>simp[Md.eX]at ho
   |pr _ _=>simp[Md.eX]at ho
   |own m=>
    obtain⟨p,c,e,rfl,hb,hS,S1,hr,s1,n1⟩:=h
    have hcl:=aT F w t m x _ _ hr
    have ko:eT w p 0 t.width=c.toList:=by
     have:=fP (w:=w) (b:=p) (o:=0) (cs:=c.toList) ⟨c,e,hb,[],[],by simp,rfl⟩
     rwa [hcl]at this
    have tR:eT w' p 0 t.width=c.toList:=by rw[<-ko];unfold eT;rw[hw p hS]
    simp only[resolve]
    rw[ko,tR]
    exact ih t m x _ S1 _ hr ho.2 hg (λk hk=>hw k (s1 k hk))
  case ptr.deref t=>
   simp only[dy,ag]at ho
   cases x with
   |none=>simp at hg
   |some z=>
   cases m with
   |ro=>simp[Md.eX]at ho
   |pr _ _=>simp[Md.eX]at ho
   |own m=>
    obtain⟨p,c,e,rfl,hb,hS,S1,hr,s1,n1⟩:=h
    have hcl:=aT F w t m z _ _ hr
    have ko:eT w p 0 t.width=c.toList:=by
     have:=fP (w:=w) (b:=p) (o:=0) (cs:=c.toList) ⟨c,e,hb,[],[],by simp,rfl⟩
     rwa [hcl]at this
    have tR:eT w' p 0 t.width=c.toList:=by rw[<-ko];unfold eT;rw[hw p hS]
    simp only[resolve]
    rw[ko,tR]
    exact ih t m z _ S1 _ hr ho.2 hg (λk hk=>hw k (s1 k hk))
theorem aE.frame{F F':af}{w w':World}{L:Nat->Option Lab}{U:Nat->Bool}{cg:Nat->List Value}{Sg:Nat->af}{e:aq}{v:Value}(h:aE F w L U cg e v)(hF:Sub F F')(hFw:∀ k,F k->w'.heap[k]?=w.heap[k]?)
 (rk:∀ l b,L l=some b->Rep F w b.t b.m b.x (cg l) (Sg l)) (hw:∀ l b,L l=some b->∀ k,Sg l k->w'.heap[k]?=w.heap[k]?):aE F' w' L U cg e v:=by
 cases e with
 |val t x=>
  obtain⟨cs,h1,h2⟩:=h
  exact⟨cs,aX hF hFw t .ro x cs _ _ h1 (Sub.refl _) (λ_ h=>h.elim),h2⟩
 |cst u=>exact h
 |view l te lo hi=>exact h
 |li t x=>
  obtain⟨a,ds,h1,h2,h3,h4⟩:=h
  exact⟨a,ds,h1,hF _ h2,h3.congr (hFw _ h2),aX hF hFw t .ro x ds _ _ h4 (Sub.refl _) (λ_ h=>h.elim)⟩
 |hdr l n π c=>
  refine⟨h.1,λb hb=>?_⟩
  obtain⟨h0,h1,h2⟩:=h.2 b hb
  refine⟨h0,h1,λhn=>?_⟩
  obtain⟨h3,h4,h5⟩:=h2 hn
  refine⟨h3,h4,?_⟩
  rw[resolve_congr π b.t b.m b.x (cg l) (Sg l) none (rk l b hb) h3 (by rw[h4];rfl) (hw l b hb)]
  exact h5
 |adr l n π c=>
  refine⟨h.1,λb hb=>?_⟩
  obtain⟨h0,h1,h2⟩:=h.2 b hb
  refine⟨h0,h1,λhn=>?_⟩
  obtain⟨h3,h4,h5⟩:=h2 hn
  refine⟨h3,h4,?_⟩
  rw[resolve_congr π b.t b.m b.x (cg l) (Sg l) none (rk l b hb) h3 (by rw[h4];rfl) (hw l b hb)]
  exact h5
theorem cH.imp{F F':af}{w w':World}{L L':Nat->Option Lab}{U U':Nat->Bool}{cg cg':Nat->List Value}(hi:∀ e v,aE F w L U cg e v->aE F' w' L' U' cg' e v):∀ {es:List aq} {vs:List Value},cH F w L U cg es vs->cH F' w' L' U' cg' es vs:=by
 intro es
 induction es with
 |nil=>intro vs h;exact h
 |cons e es ih=>rintro vs ⟨v,r,rfl,h1,h2⟩;exact⟨v,r,rfl,hi _ _ h1,ih h2⟩
theorem iD.imp{F F':af}{w w':World}{L L':Nat->Option Lab}{U U':Nat->Bool}{cg cg':Nat->List Value}(hi:∀ e v,aE F w L U cg e v->aE F' w' L' U' cg' e v){e:Ent}{v:Value}(h:iD F w L U cg e v):iD F' w' L' U' cg' e v:=by
 cases e with
 |one e=>exact hi _ _ h
 |tup es=>obtain⟨vs,h1,h2⟩:=h;exact⟨vs,h1,h2.imp hi⟩
 |clo f es=>obtain⟨vs,h1,h2⟩:=h;exact⟨vs,h1,h2.imp hi⟩
theorem aS.world{B:dH}{F:af}{Sg:Nat->af}{cg:Nat->List Value}{σ:St}{a:Act}{w w':World}(h:aS B F Sg cg σ a w)(ho:w'.os=w.os)(ht:w'.tape=w.tape)(hou:w'.output=w.output)(hs:w.heap.size<=w'.heap.size)
 (hb:∀ k,k<w.heap.size->w'.heap[k]?=w.heap[k]?):aS B F Sg cg σ a w':=
 {fr:=⟨ho.trans h.fr.os,ht.trans h.fr.tape,hou.trans h.fr.output,bu h.fr.size hs,λk hk hn=>(hb k (bA hk h.fr.size)).trans (h.fr.block k hk hn)⟩
  size:=h.size
  defers:=h.defers
  f0:=h.f0
  fl:=λk hk=>bA (h.fl k hk) hs
  fs:=h.fs
  lab:=λl b hl=>aX (Sub.refl _) (λk hk=>hb k (h.fl k hk)) _ _ _ _ _ _ (h.lab l b hl) (Sub.refl _) (λk hk=>hb k (h.lt l b hl k hk))
  dis:=h.dis
  eu:=h.eu
  lt:=λl b hl k hk=>bA (h.lt l b hl k hk) hs
  may:=h.may
  used:=h.used
  fix:=h.fix
  ent:=λt e he=>(h.ent t e he).imp λe v hv=>hv.frame (Sub.refl _) (λk hk=>hb k (h.fl k hk)) h.lab (λl b hl k hk=>hb k (h.lt l b hl k hk))}
theorem zo{a:Act}{d t:Nat}{v:Value}(hd:d<a.tmps.size):(a.put (some d) v).tmps.getD t undef=if t=d then v else a.tmps.getD t undef:=by
 simp only[Act.put,Array.getD_eq_getD_getElem?]
 by_cases h:t=d
 ·subst h;rw[if_pos rfl,Array.getElem?_setIfInBounds_self_of_lt hd];rfl
 ·rw[if_neg h,Array.getElem?_setIfInBounds_ne (Ne.symm h)]
theorem aS.vV{B:dH}{F:af}{Sg:Nat->af}{cg:Nat->List Value}{σ:St}{a:Act}{w:World}(h:aS B F Sg cg σ a w){d:Nat}(hd:d<B.N){e:Ent}{v:Value}(he:iD F w σ.L σ.U cg e v):aS B F Sg cg {σ with E:=upd σ.E d (some e)} (a.put (some d) v) w:=
 {h with
  size:=by simp[Act.put,h.size]
  defers:=h.defers
  ent:=λt e' he'=>by
   rw[zo (by rw[h.size];exact hd)]
   rcases fD he' with⟨rfl,e1⟩|⟨hn,e1⟩
   ·rw[if_pos rfl];injection e1 with e1;subst e1;exact he
   ·rw[if_neg hn];exact h.ent t e' e1}
theorem aS.Vl{B:dH}{F:af}{Sg:Nat->af}{cg:Nat->List Value}{σ:St}{a:Act}{w:World}(h:aS B F Sg cg σ a w){d:Nat}(hd:d<B.N){v:Value}:aS B F Sg cg {σ with E:=upd σ.E d none} (a.put (some d) v) w:=
 {h with
  size:=by simp[Act.put,h.size]
  defers:=h.defers
  ent:=λt e' he'=>by
   rw[zo (by rw[h.size];exact hd)]
   rcases fD he' with⟨rfl,e1⟩|⟨hn,e1⟩
   ·cases e1
   ·rw[if_neg hn];exact h.ent t e' e1}
def Fz(k:IntKind)(n:Int):Bool:=decide (kLo k<=n)&&decide (n<=kHi k)
theorem zp{k:IntKind}{n:Int}(h:Fz k n=true):inK k n:=by
 simp[Fz]at h;exact h
def rdL{α:Type}(f:List Value->Option α)(sz:Nat):Nat->List Value->Option (List α)
 |0,cs=>match cs with|[]=>some []|_::_=>none
 |n+1,cs=>match f (cs.take sz)with
  |some x=>match rdL f sz n (cs.drop sz)with
   |some xs=>some (x::xs)
   |none=>none
  |none=>none
def rdC:(t:Ty)->List Value->Option t.T
 |.int k,cs=>match cs with|[.int k' n]=>bif(decide (k'=k)&&Fz k n)then some n else none|_=>none
 |.bool,cs=>match cs with|[.bool b]=>some b|_=>none
 |.str,cs=>match cs with|[.string u]=>bif Nat.ble u.size maxLen then some (cn u)else none|_=>none
 |.unit,cs=>match cs with|[]=>some ()|_=>none
 |.pair a b,cs=>match rdC a (cs.take a.width)with
  |some x=>match rdC b (cs.drop a.width)with
   |some y=>some (x,y)
   |none=>none
  |none=>none
 |.st t,cs=>rdC t cs
 |.arr n t,cs=>rdL (rdC t) t.width n cs
 |.sl _,cs=>match cs with|[.slice none 0 0]=>some []|_=>none
 |.box _,_=>none
 |.ptr _,cs=>match cs with|[.pointer none]=>some none|_=>none
 |.jM,_=>none
 |.hol _,_=>none
 |.chan,cs=>match cs with|[.chan none]=>some (0,[])|_=>none
 |.fn _,_=>none
 |.may _,_=>none
 |.map _ _,cs=>match cs with|[.map none]=>some []|_=>none
 |.nl _,cs=>match cs with|[.slice none 0 0]=>some []|_=>none
theorem P9{α:Type}{R:α->List Value->af->Prop}{f:List Value->Option α}{sz:Nat}(hf:∀ cs x,f cs=some x->R x cs af.none):∀ (n:Nat) (cs:List Value) (xs:List α),rdL f sz n cs=some xs->xs.length=n/\bp R xs cs af.none:=by
 intro n
 induction n with
 |zero=>
  intro cs xs h
  cases cs with
  |nil=>simp only[rdL,bn]at h;subst h;exact⟨rfl,rfl⟩
  |cons _ _=>simp[rdL]at h
 |succ n ih=>
  intro cs xs h
  simp only[rdL]at h
  cases h1:f (cs.take sz)with
  |none=>rw[h1]at h;cases h
  |some x=>
   rw[h1]at h
   simp only at h
   cases h2:rdL f sz n (cs.drop sz)with
   |none=>rw[h2]at h;cases h
   |some ys=>
    rw[h2]at h
    simp only[bn]at h
    subst h
    obtain⟨h3,h4⟩:=ih _ _ h2
    exact⟨by simp[h3],cs.take sz,cs.drop sz,af.none,af.none,(eE _ _).symm,hf _ _ h1,h4,Sub.refl _,Sub.refl _,λ_ h=>h.elim⟩
def okM:Ty->Md->Bool
 |.pair a b,m=>okM a m.fst&&okM b m.snd
 |.st t,m=>okM t m
 |.arr _ t,m=>okM t m.el
 |.chan,m=>match m with|.own _=>false|_=>true
 |.map _ _,m=>match m with|.own _=>false|_=>true
 |_,_=>true
theorem Cc:∀ (t:Ty),okM t .ro=true:=by
 intro t
 induction t with
 |pair a b iha ihb=>simp[okM,Md.fst,Md.snd,iha,ihb]
 |st t ih=>exact ih
 |arr n t ih=>exact ih
 |_=>rfl
theorem tS{F:af}{w:World}:∀ (t:Ty) (m:Md) (cs:List Value) (x:t.T),okM t m=true->rdC t cs=some x->Rep F w t m x cs af.none:=by
 intro t
 induction t with
 |int k=>
  intro m cs x hm h
  unfold rdC at h
  split at h
  ·rename_i k' n
   cases hb:(decide (k'=k)&&Fz k n)
   ·rw[hb]at h;cases h
   ·rw[hb]at h
    simp only[cond_true,bn]at h
    simp at hb
    obtain⟨rfl,hb⟩:=hb
    subst h
    exact⟨rfl,zp hb⟩
  ·cases h
 |bool=>intro m cs x hm h;unfold rdC at h;split at h <;> simp at h;subst h;rfl
 |str=>
  intro m cs x hm h
  unfold rdC at h
  split at h
  ·rename_i u
   cases hb:Nat.ble u.size maxLen
   ·rw[hb]at h;cases h
   ·rw[hb]at h
    simp only[cond_true,bn]at h
    subst h
    exact⟨u,rfl,rfl,gB hb⟩
  ·cases h
 |unit=>intro m cs x hm h;unfold rdC at h;split at h <;> simp at h;rfl
 |pair a b iha ihb=>
  intro m cs x hm h
  simp only[okM,ag]at hm
  simp only[rdC]at h
  cases h1:rdC a (cs.take a.width)with
  |none=>rw[h1]at h;cases h
  |some y=>
   rw[h1]at h
   simp only at h
   cases h2:rdC b (cs.drop a.width)with
   |none=>rw[h2]at h;cases h
   |some z=>
    rw[h2]at h
    simp only[bn]at h
    subst h
    exact⟨cs.take a.width,cs.drop a.width,af.none,af.none,(eE _ _).symm,iha _ _ _ hm.1 h1,ihb _ _ _ hm.2 h2,Sub.refl _,Sub.refl _,λ_ h=>h.elim⟩
 |st t ih=>intro m cs x hm h;exact ih m cs x hm h
 |arr n t ih=>intro m cs x hm h;exact P9 (R:=Rep F w t m.el) (λcs x h=>ih m.el cs x hm h) n cs x h
 |sl t ih=>
  intro m cs x hm h
  unfold rdC at h
  split at h <;> simp at h
  subst h
  cases m with
  |ro=>exact⟨none,0,rfl,ar _,by simp[maxLen],λh=>absurd h (by simp)⟩
  |pr _ _=>exact⟨none,0,rfl,ar _,by simp[maxLen],λh=>absurd h (by simp)⟩
  |own m=>exact⟨none,0,rfl,ar _,by simp[maxLen],.inl rfl⟩
 |box t ih=>intro m cs x hm h;simp[rdC]at h
 |jM=>intro m cs x hm h;simp[rdC]at h
 |hol t ih=>intro m cs x hm h;simp[rdC]at h
 |chan=>
  intro m cs x hm h
  unfold rdC at h
  split at h <;> simp at h
  cases m with
  |own _=>cases hm
  |ro=>exact⟨.chan none,rfl,rfl⟩
  |pr _ _=>exact⟨.chan none,rfl,rfl⟩
 |fn f=>intro m cs x hm h;simp[rdC]at h
 |nl t _=>
  intro m cs x hm h
  unfold rdC at h
  split at h <;> simp at h
  subst h
  exact⟨⟨none,0,rfl,ar _,by simp[maxLen],λh=>absurd h (by simp)⟩,λ_=>rfl⟩
 |map k v _ _=>
  intro m cs x hm h
  unfold rdC at h
  split at h <;> simp at h
  subst h
  cases m with
  |own _=>cases hm
  |ro=>exact .inl ⟨rfl,rfl⟩
  |pr _ _=>exact .inl ⟨rfl,rfl⟩
 |may t ih=>intro m cs x hm h;simp[rdC]at h
 |ptr t ih=>
  intro m cs x hm h
  unfold rdC at h
  split at h <;> simp at h
  subst h
  cases m <;> rfl
def Value.isAgg:Value->Bool
 |.agg _=>true
 |_=>false
def vrC(t:Ty)(v:Value):Bool:=bif t.agg then Value.isAgg v else v.oneCell'
theorem HV{t:Ty}{v:Value}(h:vrC t v=true):VR t v.cells.toList v:=by
 unfold vrC at h
 unfold VR
 cases ha:t.agg
 ·rw[ha]at h
  simp only[cond_false]at h
  rw[if_neg (by simp)]
  cases v <;> first|exact⟨rfl,rfl⟩|(simp[Value.oneCell']at h)
 ·rw[ha]at h
  simp only[cond_true]at h
  rw[if_pos rfl]
  cases v <;> first|rfl|(simp[Value.isAgg]at h)
def Qa:Value->aq
 |.int k n=>bif Fz k n then .val (.int k) n else .cst (.int k n)
 |.bool b=>.val .bool b
 |.string u=>bif Nat.ble u.size maxLen then .val .str (cn u)else .cst (.string u)
 |v=>.cst v
theorem LY{F:af}{w:World}{L:Nat->Option Lab}{U:Nat->Bool}{cg:Nat->List Value}(v:Value):aE F w L U cg (Qa v) v:=by
 unfold Qa
 split
 ·rename_i k n
  cases hb:Fz k n
  ·exact rfl
  ·exact⟨[.int k n],⟨rfl,zp hb⟩,by simp[VR,Ty.agg,Value.oneCell']⟩
 ·exact⟨_,rfl,by simp[VR,Ty.agg,Value.oneCell']⟩
 ·rename_i u
  cases hb:Nat.ble u.size maxLen
  ·exact rfl
  ·exact⟨[.string u],⟨u,rfl,rfl,gB hb⟩,by simp[VR,Ty.agg,Value.oneCell']⟩
 ·exact rfl
def coN:aq->aq
 |.val (.nl t) x=>.val (.sl t) x
 |e=>e
def opd(σ:St):Operand->Option aq
 |.tmp t=>match σ.E t with
  |some (.one e)=>some (coN e)
  |_=>none
 |.const v=>some (Qa v)
 |.func f=>some (.val (.fn f) ())
 |_=>none
theorem Qb{F:af}{w:World}{L:Nat->Option Lab}{U:Nat->Bool}{cg:Nat->List Value}{e:aq}{v:Value}(h:aE F w L U cg e v):aE F w L U cg (coN e) v:=by
 unfold coN
 split
 ·rename_i t x
  obtain⟨cs,⟨h1,_⟩,h2⟩:=h
  exact⟨cs,h1,h2⟩
 ·exact h
theorem bC{B:dH}{F:af}{Sg:Nat->af}{cg:Nat->List Value}{σ:St}{a:Act}{w:World}(h:aS B F Sg cg σ a w){x:Operand}{e:aq}(he:opd σ x=some e):aE F w σ.L σ.U cg e (a.eval x):=by
 unfold opd at he
 split at he
 ·rename_i t
  split at he
  ·rename_i e' h'
   injection he with he
   subst he
   exact Qb (h.ent t _ h')
  ·cases he
 ·injection he with he;subst he;exact LY _
 ·rename_i f
  injection he with he;subst he
  exact⟨[.func (.func f) #[] #[]],rfl,by simp[VR,Ty.agg,Value.oneCell',Act.eval]⟩
 ·cases he
def asT{R:Type}(e:aq)(want:Ty)(K:want.T->Option R):Option R:=
 match e with
 |.val t x=>if h:t=want then K (h ▸ x)else none
 |.cst v=>bif vrC want v then(match rdC want v.cells.toList with|some x=>K x|none=>none)else none
 |_=>none
theorem gL{R:Type}{F:af}{w:World}{L:Nat->Option Lab}{U:Nat->Bool}{cg:Nat->List Value}{e:aq}{want:Ty}{K:want.T->Option R}{r:R}(h:asT e want K=some r){v:Value}(he:aE F w L U cg e v):
 ∃ x cs,K x=some r/\Rep F w want .ro x cs af.none/\VR want cs v:=by
 unfold asT at h
 split at h
 ·rename_i t x
  split at h
  ·rename_i ht
   subst ht
   obtain⟨cs,h1,h2⟩:=he
   exact⟨x,cs,h,h1,h2⟩
  ·cases h
 ·rename_i u
  have hv:v=u:=he
  subst hv
  cases hb:vrC want v
  ·rw[hb]at h;cases h
  ·rw[hb]at h
   simp only[cond_true]at h
   cases hc:rdC want v.cells.toList with
   |none=>rw[hc]at h;cases h
   |some x=>rw[hc]at h;exact⟨x,_,h,tS _ _ _ _ (Cc _) hc,HV hb⟩
 ·cases h
theorem pc{F:af}{w:World}{k:IntKind}{m:Md}{x:Int}{cs:List Value}{S:af}{v:Value}(h:Rep F w (.int k) m x cs S)(hv:VR (.int k) cs v):v=.int k x/\inK k x:=by
 obtain⟨rfl,h2⟩:=h
 simp[VR,Ty.agg]at hv
 exact⟨hv.1.symm,h2⟩
theorem LZ{F:af}{w:World}{m:Md}{x:Bool}{cs:List Value}{S:af}{v:Value}(h:Rep F w .bool m x cs S)(hv:VR .bool cs v):v=.bool x:=by
 have h':cs=[.bool x]:=h
 subst h'
 simp[VR,Ty.agg]at hv
 exact hv.1.symm
theorem Qc{F:af}{w:World}{m:Md}{x:List Int}{cs:List Value}{S:af}{v:Value}(h:Rep F w .str m x cs S)(hv:VR .str cs v):∃ u,v=.string u/\x=cn u/\u.size<=maxLen:=by
 obtain⟨u,rfl,h2,h3⟩:=h
 simp[VR,Ty.agg]at hv
 exact⟨u,hv.1.symm,h2,h3⟩
theorem cQ{F:af}{w:World}{L:Nat->Option Lab}{U:Nat->Bool}{cg:Nat->List Value}{k:IntKind}{x:Int}(h:inK k x):aE F w L U cg (.val (.int k) x) (.int k x):=
 ⟨[.int k x],⟨rfl,h⟩,by simp[VR,Ty.agg,Value.oneCell']⟩
theorem dg{F:af}{w:World}{L:Nat->Option Lab}{U:Nat->Bool}{cg:Nat->List Value}{b:Bool}:aE F w L U cg (.val .bool b) (.bool b):=
 ⟨[.bool b],rfl,by simp[VR,Ty.agg,Value.oneCell']⟩
theorem HW{F:af}{w:World}{L:Nat->Option Lab}{U:Nat->Bool}{cg:Nat->List Value}{u:ByteArray}(h:u.size<=maxLen):aE F w L U cg (.val .str (cn u)) (.string u):=
 ⟨[.string u],⟨u,rfl,rfl,h⟩,by simp[VR,Ty.agg,Value.oneCell']⟩
def dK(op:BinOp)(k:IntKind)(x y:Int):Int:=
 match op with
 |.and=>k.wrap (BitVec.ofInt k.bits x&&& BitVec.ofInt k.bits y).toNat
 |.or=>k.wrap (BitVec.ofInt k.bits x|||BitVec.ofInt k.bits y).toNat
 |.xor=>k.wrap (BitVec.ofInt k.bits x ^^^ BitVec.ofInt k.bits y).toNat
 |_=>k.wrap (BitVec.ofInt k.bits x&&& ~~~ BitVec.ofInt k.bits y).toNat
def kp:List Int->List Int->Bool
 |_,[]=>false
 |[],_::_=>true
 |a::x,b::y=>decide (a<b)||(decide (a=b)&&kp x y)
def isBool:Option TD->Bool
 |some d=>match d.kd with|.bool=>true|_=>false
 |none=>false
def Cd{R:Type}(td:Option TD)(op:BinOp):aq->aq->(aq->Option R)->Option R
 |.val (.int k) a,.val (.int k') b,K=>
  match op with
  |.shl=>if b<0 then none else K (.val (.int k) (k.wrap (a*2 ^ min b.toNat k.bits)))
  |.shr=>if b<0 then none else K (.val (.int k) (Int.fdiv a (2 ^ min b.toNat k.bits)))
  |op=>bif decide (k=k')then(match op with
   |.add=>K (.val (.int k) (k.wrap (a+b)))
   |.sub=>K (.val (.int k) (k.wrap (a-b)))
   |.mul=>K (.val (.int k) (k.wrap (a*b)))
   |.quo=>if b=0 then none else K (.val (.int k) (k.wrap (Int.tdiv a b)))
   |.rem=>if b=0 then none else K (.val (.int k) (Int.tmod a b))
   |.and=>K (.val (.int k) (dK .and k a b))
   |.or=>K (.val (.int k) (dK .or k a b))
   |.xor=>K (.val (.int k) (dK .xor k a b))
   |.andNot=>K (.val (.int k) (dK .andNot k a b))
   |.eql=>K (.val .bool (decide (a=b)))
   |.neq=>K (.val .bool (!decide (a=b)))
   |.lss=>K (.val .bool (decide (a<b)))
   |.leq=>K (.val .bool (decide (a<=b)))
   |.gtr=>K (.val .bool (decide (b<a)))
   |.geq=>K (.val .bool (decide (b<=a)))
   |_=>none)else none
 |.val .bool a,.val .bool b,K=>bif isBool td then(match op with
  |.eql=>K (.val .bool (a == b))
  |.neq=>K (.val .bool (!(a == b)))
  |_=>none)else none
 |.val .str a,.val .str b,K=>match op with
  |.add=>if List.length a+List.length b<=9223372036854775807 then K (.val .str (List.append a b))else none
  |.eql=>K (.val .bool (decide ((a:List Int)=b)))
  |.neq=>K (.val .bool (!decide ((a:List Int)=b)))
  |.lss=>K (.val .bool (kp a b))
  |.leq=>K (.val .bool (kp a b||decide ((a:List Int)=b)))
  |.gtr=>K (.val .bool (!(kp a b||decide ((a:List Int)=b))))
  |.geq=>K (.val .bool (!kp a b))
  |_=>none
 |_,_,_=>none
theorem lN{u v:ByteArray}:(cn u=cn v)=(u=v):=by
 apply propext
 constructor
 ·intro h
  unfold cn at h
  have:=(List.map_inj_right (f:=λb:UInt8=>(b.toNat:Int)) (λx y e=>UInt8.toNat_inj.1 (by have e':(x.toNat:Int)=y.toNat:=e;omega))).1 h
  cases u;cases v
  simp at this
  rw[this]
 ·rintro rfl;rfl
theorem ew(u:ByteArray):(cn u).length=u.size:=by simp[cn]
theorem vW(u v:ByteArray):cn (u++v)=cn u++cn v:=by simp[cn,ByteArray.data_append]
theorem toList_eq(u:ByteArray):u.toList=u.data.toList:=ByteArray.toList_eq u
theorem Ce(x y:List UInt8):kp (x.map λb=>(b.toNat:Int)) (y.map λb=>(b.toNat:Int))=Op.bytesLess x y:=by
 induction x generalizing y with
 |nil=>cases y <;> rfl
 |cons a x ih=>
  cases y with
  |nil=>rfl
  |cons b y=>
   simp only[fi,kp,Op.bytesLess,ih]
   congr 1
   ·rw[bZ];simp[UInt8.lt_iff_toNat_lt]
   ·congr 1
    rw[bZ];simp[<-UInt8.toNat_inj];omega
theorem HX{k:IntKind}{a b:Int}(ha:inK k a)(hb:inK k b):inK k (a.tmod b):=by
 have h0:b=0\/(a.tmod b).natAbs<b.natAbs:=by
  rcases Int.decEq b 0 with h|h
  ·right
   have h1:(a.tmod b).natAbs=a.natAbs % b.natAbs:=Int.natAbs_tmod a b
   rw[h1]
   exact eI _ (by omega)
  ·exact .inl h
 have h1:(a.tmod b).natAbs<=a.natAbs:=by rw[Int.natAbs_tmod];exact Nat.mod_le _ _
 have h2:0<=a->0<=a.tmod b:=λh=>Int.tmod_nonneg b h
 have h3:a<=0->a.tmod b<=0:=λh=>by
  have:=Int.tmod_nonneg b (show 0<=-a by omega)
  rw[Int.neg_tmod]at this
  omega
 clear h0
 generalize a.tmod b=e at *
 unfold inK at *
 cases k <;> simp[kLo,kHi]at * <;> omega
theorem HY{k:IntKind}{a:Int}(ha:inK k a)(n:Nat):inK k (Int.fdiv a (2 ^ n)):=by
 have hp:(0:Int)<2 ^ n:=Int.pow_pos (by omega)
 rw[nM _ (by omega)]
 have h1:0<=a->0<=a / 2 ^ n/\a / 2 ^ n<=a:=λh=>⟨Int.ediv_nonneg h (by omega),Int.ediv_le_self _ h⟩
 have h2:a<0->a<=a / 2 ^ n/\a / 2 ^ n<0:=λh=>⟨by
  rw[Int.le_ediv_iff_mul_le hp]
  have:a*2 ^ n<=a*1:=Int.mul_le_mul_of_nonpos_left (by omega) (by omega)
  omega,Int.ediv_neg_of_neg_of_pos h hp⟩
 unfold inK at *
 cases k <;> simp[kLo,kHi]at * <;> omega
section
variable {P:Program} {F:af} {w:World} {L:Nat->Option Lab} {U:Nat->Bool} {cg:Nat->List Value}
theorem iQ{k:IntKind}{x:Int}{v:Value}(h:aE F w L U cg (.val (.int k) x) v):v=.int k x/\inK k x:=by
 obtain⟨cs,h1,h2⟩:=h;exact pc h1 h2
theorem jQ{x:Bool}{v:Value}(h:aE F w L U cg (.val .bool x) v):v=.bool x:=by
 obtain⟨cs,h1,h2⟩:=h;exact LZ h1 h2
theorem kq{x:List Int}{v:Value}(h:aE F w L U cg (.val .str x) v):∃ u,v=.string u/\x=cn u/\u.size<=maxLen:=by
 obtain⟨cs,h1,h2⟩:=h;exact Qc h1 h2
theorem xC{u:ByteArray}{x:List Int}(h:u.size<=maxLen)(hx:x=cn u):aE F w L U cg (.val .str x) (.string u):=hx ▸ HW h
theorem DG{R:Type}{td:Option TD}{op:BinOp}{t:TypeId}{x y:aq}{ox oy:Operand}{K:aq->Option R}{r:R}(h:Cd td op x y K=some r)(htd:∀ d,td=some d->TOk P t d){u v:Value}(hx:aE F w L U cg x u)(hy:aE F w L U cg y v):
 ∃ e z,K e=some r/\(do eqGuard op t ox oy u v;binOp op t u v:Sem Value).run P w=.ok z w/\aE F w L U cg e z:=by
 unfold Cd at h
 split at h
 ·rename_i k a k' b
  obtain⟨rfl,ha⟩:=iQ hx
  obtain⟨rfl,hb⟩:=iQ hy
  split at h
  ·split at h
   ·cases h
   ·rename_i hb0
    exact⟨_,_,h,by simp[binOp,Op.shift,hb0,go_sem],cQ (eJ _ _)⟩
  ·split at h
   ·cases h
   ·rename_i hb0
    exact⟨_,_,h,by simp[binOp,Op.shift,hb0,go_sem],cQ (HY ha _)⟩
  ·rename_i op hsl hsr
   cases hk:decide (k=k')
   ·rw[hk]at h;cases h
   rw[hk]at h
   simp only[cond_true]at h
   simp at hk
   subst hk
   split at h
   case h_1=>exact⟨_,_,h,by simp[binOp,Op.intArith,go_sem],cQ (eJ _ _)⟩
   case h_2=>exact⟨_,_,h,by simp[binOp,Op.intArith,go_sem],cQ (eJ _ _)⟩
   case h_3=>exact⟨_,_,h,by simp[binOp,Op.intArith,go_sem],cQ (eJ _ _)⟩
   case h_4=>
    split at h
    ·cases h
    ·rename_i hb0;exact⟨_,_,h,by simp[binOp,Op.intDiv,hb0,go_sem],cQ (eJ _ _)⟩
   case h_5=>
    split at h
    ·cases h
    ·rename_i hb0;exact⟨_,_,h,by simp[binOp,Op.intDiv,hb0,go_sem],cQ (HX ha hb)⟩
   case h_6=>exact⟨_,_,h,by simp[binOp,Op.intBits,dK,go_sem],cQ (eJ _ _)⟩
   case h_7=>exact⟨_,_,h,by simp[binOp,Op.intBits,dK,go_sem],cQ (eJ _ _)⟩
   case h_8=>exact⟨_,_,h,by simp[binOp,Op.intBits,dK,go_sem],cQ (eJ _ _)⟩
   case h_9=>exact⟨_,_,h,by simp[binOp,Op.intBits,dK,go_sem],cQ (eJ _ _)⟩
   case h_10=>exact⟨_,.bool (decide (a=b)),h,by simp[binOp,Op.intCmp,go_sem];rfl,dg⟩
   case h_11=>exact⟨_,.bool (!decide (a=b)),h,by simp[binOp,Op.intCmp,go_sem];rfl,dg⟩
   case h_12=>exact⟨_,_,h,by simp[binOp,Op.intCmp,go_sem],dg⟩
   case h_13=>exact⟨_,_,h,by simp[binOp,Op.intCmp,go_sem],dg⟩
   case h_14=>exact⟨_,_,h,by simp[binOp,Op.intCmp,go_sem],dg⟩
   case h_15=>exact⟨_,_,h,by simp[binOp,Op.intCmp,go_sem],dg⟩
   case h_16=>cases h
 ·rename_i a b
  obtain rfl:=jQ hx
  obtain rfl:=jQ hy
  cases hb:isBool td
  ·rw[hb]at h;cases h
  rw[hb]at h
  simp only[cond_true]at h
  have hu:P.underlying t=some .bool:=by
   unfold isBool at hb
   split at hb
   ·rename_i d
    have:=(htd d rfl).desc
    split at hb
    ·rename_i hk;rw[hk]at this;exact this.1
    ·cases hb
   ·cases hb
  split at h
  ·exact⟨_,_,h,by simp[binOp,run_equal_bool w t a b hu,go_sem],dg⟩
  ·exact⟨_,_,h,by simp[binOp,run_equal_bool w t a b hu,go_sem],dg⟩
  ·cases h
 ·rename_i a b
  obtain⟨u,rfl,rfl,hu⟩:=kq hx
  obtain⟨v,rfl,rfl,hv⟩:=kq hy
  have e1:decide (cn u=cn v)=(u.toList == v.toList):=by
   rw[toList_eq,toList_eq,bZ]
   simp only[decide_eq_true_eq,beq_iff_eq,lN]
   constructor
   ·rintro rfl;rfl
   ·intro h;cases u;cases v;simp at h;rw[h]
  have e2:kp (cn u) (cn v)=Op.bytesLess u.toList v.toList:=by
   rw[toList_eq,toList_eq];exact Ce _ _
  split at h
  ·split at h
   ·rename_i hl
    rw[ew,ew]at hl
    have hn:¬(9223372036854775807<((u.size:Int)+(v.size:Int))):=by omega
    refine⟨_,.string (u++v),h,by simp[binOp,Op.stringOp,hn,go_sem],xC ?_ ?_⟩
    ·rw[ByteArray.size_append];simp only[maxLen];omega
    ·rw[vW];rfl
   ·cases h
  ·exact⟨_,_,h,by simp[binOp,Op.stringOp,go_sem];rfl,by rw[<-e1];exact dg⟩
  ·exact⟨_,_,h,by simp[binOp,Op.stringOp,go_sem];rfl,by rw[<-e1];exact dg⟩
  ·exact⟨_,_,h,by simp[binOp,Op.stringOp,go_sem];rfl,by rw[<-e2];exact dg⟩
  ·exact⟨_,_,h,by simp[binOp,Op.stringOp,go_sem];rfl,by rw[<-e1,<-e2];exact dg⟩
  ·exact⟨_,.bool (!(Op.bytesLess u.toList v.toList||(u.toList == v.toList))),h,by simp[binOp,Op.stringOp,go_sem],by rw[<-e1,<-e2];exact dg⟩
  ·exact⟨_,_,h,by simp[binOp,Op.stringOp,go_sem];rfl,by rw[<-e2];exact dg⟩
  ·cases h
 ·cases h
end
def Ty.Qd:Ty->Bool
 |.int _|.bool|.str|.sl _|.box _|.ptr _|.chan|.fn _|.map _ _|.nl _=>true
 |_=>false
def Ty.vty(t:Ty):Bool:=t.Qd||t.agg
theorem eZ{F:af}{w:World}{t:Ty}(ht:t.Qd=true){m:Md}{x:t.T}{cs:List Value}{S:af}(h:Rep F w t m x cs S):∃ z,cs=[z]/\z.oneCell'=true:=by
 cases t <;> simp[Ty.Qd]at ht
 case int k=>obtain⟨rfl,_⟩:=h;exact⟨_,rfl,rfl⟩
 case bool=>have h':cs=[.bool x]:=h;subst h';exact⟨_,rfl,rfl⟩
 case str=>obtain⟨u,rfl,_⟩:=h;exact⟨_,rfl,rfl⟩
 case sl t=>cases m <;> (obtain⟨a,cap,rfl,_⟩:=h;exact⟨_,rfl,rfl⟩)
 case box t=>
  cases m with
  |own m=>obtain⟨b,c,e,rfl,_⟩:=h;exact⟨_,rfl,rfl⟩
  |ro=>obtain⟨a,rfl,_⟩:=h;exact⟨_,rfl,rfl⟩
  |pr _ _=>obtain⟨a,rfl,_⟩:=h;exact⟨_,rfl,rfl⟩
 case chan=>
  cases m with
  |own m=>obtain⟨b,buf,s,r,rfl,_⟩:=h;exact⟨_,rfl,rfl⟩
  |ro=>exact h
  |pr _ _=>exact h
 case nl t=>obtain⟨⟨a,cap,rfl,_⟩,_⟩:=h;exact⟨_,rfl,rfl⟩
 case map k v=>
  cases m with
  |own m=>obtain⟨b,es,rfl,_⟩:=h;exact⟨_,rfl,rfl⟩
  |ro=>rcases h with⟨rfl,_⟩|⟨b,es,rfl,_⟩ <;> exact⟨_,rfl,rfl⟩
  |pr _ _=>rcases h with⟨rfl,_⟩|⟨b,es,rfl,_⟩ <;> exact⟨_,rfl,rfl⟩
 case fn f=>have h':cs=[.func (.func f) #[] #[]]:=h;subst h';exact⟨_,rfl,rfl⟩
 case ptr t=>
  cases x with
  |none=>simp only[Rep]at h;subst h;exact⟨_,rfl,rfl⟩
  |some x=>
  cases m with
  |own m=>obtain⟨b,c,e,rfl,_⟩:=h;exact⟨_,rfl,rfl⟩
  |ro=>obtain⟨a,rfl,_⟩:=h;exact⟨_,rfl,rfl⟩
  |pr _ _=>obtain⟨a,rfl,_⟩:=h;exact⟨_,rfl,rfl⟩
theorem tU{α:Type}{R:α->List Value->af->Prop}(hR:∀ y c S,R y c S->∀ v∈c,v.oneCell'=true):∀ {x:List α} {cs:List Value} {S:af},bp R x cs S->∀ v∈cs,v.oneCell'=true:=by
 intro x
 induction x with
 |nil=>intro cs S h;cases h;simp
 |cons y ys ih=>
  rintro cs S ⟨c1,c2,S1,S2,rfl,h1,h2,_⟩ v hv
  rcases au.1 hv with hv|hv
  ·exact hR _ _ _ h1 v hv
  ·exact ih h2 v hv
theorem pK{F:af}{w:World}:∀ (t:Ty) (m:Md) (x:t.T) (cs:List Value) (S:af),Rep F w t m x cs S->∀ v∈cs,v.oneCell'=true:=by
 intro t
 induction t with
 |unit=>intro m x cs S h;have h':cs=[]:=h;subst h';simp
 |jM=>rintro m x cs S ⟨z,rfl,hz⟩ v hv;simp at hv;subst hv;exact hz
 |pair a b iha ihb=>
  rintro m x cs S ⟨c1,c2,S1,S2,rfl,h1,h2,_⟩ v hv
  rcases au.1 hv with hv|hv
  ·exact iha _ _ _ _ h1 v hv
  ·exact ihb _ _ _ _ h2 v hv
 |st t ih=>intro m x cs S h;exact ih m x cs S h
 |arr n t ih=>rintro m x cs S ⟨_,h⟩;exact tU (λy c S h=>ih m.el y c S h) h
 |int k=>intro m x cs S h v hv;obtain⟨z,rfl,hz⟩:=eZ rfl h;simp at hv;subst hv;exact hz
 |bool=>intro m x cs S h v hv;obtain⟨z,rfl,hz⟩:=eZ rfl h;simp at hv;subst hv;exact hz
 |str=>intro m x cs S h v hv;obtain⟨z,rfl,hz⟩:=eZ rfl h;simp at hv;subst hv;exact hz
 |may t ih=>
  intro m x cs S h v hv
  cases x with
  |none=>obtain⟨z,rfl,hz⟩:=h;simp at hv;subst hv;exact hz
  |some x=>exact ih m x cs S h.1 v hv
 |fn f=>intro m x cs S h v hv;have h':cs=[.func (.func f) #[] #[]]:=h;subst h';simp at hv;subst hv;rfl
 |chan=>
  intro m x cs S h v hv
  cases m with
  |own m=>obtain⟨b,buf,s,r,rfl,_⟩:=h;simp at hv;subst hv;rfl
  |ro=>obtain⟨z,rfl,hz⟩:=h;simp at hv;subst hv;exact hz
  |pr _ _=>obtain⟨z,rfl,hz⟩:=h;simp at hv;subst hv;exact hz
 |nl t _=>intro m x cs S h v hv;obtain⟨z,rfl,hz⟩:=eZ rfl h;simp at hv;subst hv;exact hz
 |map k e _ _=>intro m x cs S h v hv;obtain⟨z,rfl,hz⟩:=eZ rfl h;simp at hv;subst hv;exact hz
 |hol t _=>
  intro m x cs S h v hv
  cases m with
  |own m=>obtain⟨_,a,cap,rfl,_⟩:=h;simp at hv;subst hv;rfl
  |ro=>obtain⟨z,rfl,hz⟩:=h;simp at hv;subst hv;exact hz
  |pr _ _=>obtain⟨z,rfl,hz⟩:=h;simp at hv;subst hv;exact hz
 |sl t _=>intro m x cs S h v hv;obtain⟨z,rfl,hz⟩:=eZ rfl h;simp at hv;subst hv;exact hz
 |box t _=>intro m x cs S h v hv;obtain⟨z,rfl,hz⟩:=eZ rfl h;simp at hv;subst hv;exact hz
 |ptr t _=>intro m x cs S h v hv;obtain⟨z,rfl,hz⟩:=eZ rfl h;simp at hv;subst hv;exact hz
def dI:Md->Bool
 |.ro=>true
 |.own _=>false
 |.pr a b=>dI a&&dI b
theorem wB{m:Md}(h:dI m=true):dI m.fst=true:=by cases m <;> simp_all [dI,Md.fst]
theorem wC{m:Md}(h:dI m=true):dI m.snd=true:=by cases m <;> simp_all [dI,Md.snd]
theorem zq{m:Md}(h:dI m=true):m.el=.ro:=by cases m <;> simp_all [dI,Md.el]
theorem eK{F:af}{w:World}:∀ (t:Ty) (m:Md),dI m=true->∀ (x:t.T) (cs:List Value) (S S':af),Rep F w t m x cs S->Rep F w t .ro x cs S':=by
 intro t
 induction t with
 |int k=>intro m _ x cs S S' h;exact h
 |bool=>intro m _ x cs S S' h;exact h
 |str=>intro m _ x cs S S' h;exact h
 |unit=>intro m _ x cs S S' h;exact h
 |jM=>intro m _ x cs S S' h;exact h
 |hol t ih=>intro m hm x cs S S' h;cases m <;> first|exact h|simp[dI]at hm
 |chan=>intro m hm x cs S S' h;cases m <;> first|exact h|simp[dI]at hm
 |fn f=>intro m hm x cs S S' h;exact h
 |nl t _=>intro m hm x cs S S' h;exact h
 |map k v _ _=>intro m hm x cs S S' h;cases m <;> first|exact h|simp[dI]at hm
 |may t ih=>
  intro m hm x cs S S' h
  cases x with
  |none=>exact h
  |some x=>exact⟨ih m hm x cs S S' h.1,h.2⟩
 |pair a b iha ihb=>
  rintro m hm x cs S S' ⟨c1,c2,S1,S2,rfl,h1,h2,_⟩
  exact⟨c1,c2,af.none,af.none,rfl,iha _ (wB hm) _ _ _ _ h1,ihb _ (wC hm) _ _ _ _ h2,λ_ h=>h.elim,λ_ h=>h.elim,λ_ h=>h.elim⟩
 |st t ih=>intro m hm x cs S S' h;exact ih m hm x cs S S' h
 |arr n t ih=>
  rintro m hm x cs S S' ⟨hn,h⟩
  rw[zq hm]at h
  refine⟨hn,?_⟩
  clear hn
  induction x generalizing cs S S' with
  |nil=>exact h
  |cons y ys ihx=>
   obtain⟨c1,c2,S1,S2,rfl,h1,h2,_⟩:=h
   exact⟨c1,c2,af.none,af.none,rfl,ih .ro rfl _ _ _ _ h1,ihx _ _ _ h2,λ_ h=>h.elim,λ_ h=>h.elim,λ_ h=>h.elim⟩
 |sl t ih=>intro m hm x cs S S' h;cases m <;> first|exact h|simp[dI]at hm
 |box t ih=>intro m hm x cs S S' h;cases m <;> first|exact h|simp[dI]at hm
 |ptr t ih=>
  intro m hm x cs S S' h
  cases x with
  |none=>cases m <;> exact h
  |some x=>cases m <;> first|exact h|simp[dI]at hm
theorem iW{w:World}:∀ (π ρ:List Stp) (t:Ty) (cs:List Value) (s:Option (Nat×Nat)),resolve w t cs s (π++ρ)=(resolve w t cs s π).bind λp=>resolve w (atT t π) p.1 p.2 ρ:=by
 intro π
 induction π with
 |nil=>intro ρ t cs s;cases t <;> simp[resolve,atT]
 |cons p0 π ih=>
  intro ρ t cs s
  cases t <;> cases p0 <;> simp only[dN,resolve,atT,nX,ih]
  case sl.idx=>repeat' (first|rfl|split)
  case arr.ai=>repeat' (first|rfl|split)
  case box.deref=>repeat' (first|rfl|split)
  case ptr.deref=>repeat' (first|rfl|split)
def eV:List Stp->Bool
 |[]=>false
 |.idx _::_=>true
 |.deref::_=>true
 |_::π=>eV π
theorem lO{w:World}:∀ (π:List Stp) (t:Ty) (cs:List Value) (p:Nat×Nat) (ds:List Value) (s:Option (Nat×Nat)),resolve w t cs (some p) π=some (ds,s)->∃ q,s=some q:=by
 intro π
 induction π with
 |nil=>intro t cs p ds s h;cases t <;> (simp only[resolve,bn,Prod.mk.injEq]at h;exact⟨p,h.2.symm⟩)
 |cons p0 π ih=>
  intro t cs p ds s h
  cases t <;> cases p0 <;> simp only[resolve,reduceCtorEq]at h
  case st.st=>exact ih _ _ _ _ _ h
  case pair.fst=>exact ih _ _ _ _ _ h
  case pair.snd=>exact ih _ _ _ _ _ h
  case sl.idx=>(split at h <;> (try split at h) <;> first|exact ih _ _ _ _ _ h|cases h)
  case arr.ai=>(split at h <;> first|exact ih _ _ _ _ _ h|cases h)
  case box.deref=>(split at h <;> first|exact ih _ _ _ _ _ h|cases h)
  case ptr.deref=>(split at h <;> first|exact ih _ _ _ _ _ h|cases h)
theorem iR{w:World}:∀ (π:List Stp) (t:Ty) (cs:List Value) (s0:Option (Nat×Nat)) (ds:List Value) (s:Option (Nat×Nat)),eV π=true->resolve w t cs s0 π=some (ds,s)->∃ q,s=some q:=by
 intro π
 induction π with
 |nil=>intro t cs s0 ds s hc;simp[eV]at hc
 |cons p0 π ih=>
  intro t cs s0 ds s hc h
  cases t <;> cases p0 <;> simp only[resolve,reduceCtorEq]at h
  case st.st=>exact ih _ _ _ _ _ hc h
  case pair.fst=>exact ih _ _ _ _ _ hc h
  case pair.snd=>exact ih _ _ _ _ _ hc h
  case sl.idx=>(split at h <;> (try split at h) <;> first|exact lO _ _ _ _ _ _ h|cases h)
  case arr.ai=>(split at h <;> first|exact ih _ _ _ _ _ hc h|cases h)
  case box.deref=>(split at h <;> first|exact lO _ _ _ _ _ _ h|cases h)
  case ptr.deref=>(split at h <;> first|exact lO _ _ _ _ _ _ h|cases h)
theorem jR{w:World}:∀ (π:List Stp) (t:Ty) (cs cs2:List Value) (p:Nat×Nat) (ds:List Value) (s:Option (Nat×Nat)),short 1 π=true->resolve w t cs (some p) π=some (ds,s)->bg t cs2 (some p) π=s:=by
 intro π
 induction π with
 |nil=>intro t cs cs2 p ds s _ h;cases t <;> (simp only[resolve,bn,Prod.mk.injEq]at h;exact h.2)
 |cons p0 π ih=>
  intro t cs cs2 p ds s hs h
  cases t <;> cases p0 <;> simp only[resolve,reduceCtorEq]at h <;> simp only[short,ap]at hs
  case st.st=>exact ih _ _ _ _ _ _ hs h
  case pair.fst=>exact ih _ _ _ _ _ _ hs h
  case pair.snd=>exact ih _ _ _ _ _ _ hs h
  case arr.ai=>
   split at h
   ·rename_i hc;simp only[bg];rw[if_pos hc];exact ih _ _ _ _ _ _ hs h
   ·cases h
theorem sC{w:World}:∀ (π:List Stp) (t:Ty) (cs:List Value) (p:Nat×Nat) (ds:List Value),short 0 π=true->resolve w t cs none π=some (ds,some p)->bg t cs none π=some p:=by
 intro π
 induction π with
 |nil=>intro t cs p ds _ h;cases t <;> simp[resolve]at h
 |cons p0 π ih=>
  intro t cs p ds hs h
  cases t <;> cases p0 <;> simp only[resolve,reduceCtorEq,Option.map_none]at h <;> simp only[short]at hs
  case st.st=>exact ih _ _ _ _ hs h
  case pair.fst=>exact ih _ _ _ _ hs h
  case pair.snd=>exact ih _ _ _ _ hs h
  case sl.idx=>
   split at h
   ·split at h
    ·rename_i hc;simp only[bg];rw[if_pos hc];exact jR _ _ _ _ _ _ _ hs h
    ·cases h
   ·cases h
  case arr.ai=>
   split at h
   ·rename_i hc;simp only[bg];rw[if_pos hc];exact ih _ _ _ _ hs h
   ·cases h
  case box.deref=>
   split at h
   ·simp only[bg];exact jR _ _ _ _ _ _ _ hs h
   ·cases h
  case ptr.deref=>
   split at h
   ·simp only[bg];exact jR _ _ _ _ _ _ _ hs h
   ·cases h
theorem mN:∀ (π ρ:List Stp) (t:Ty) (x:t.T),get? t x (π++ρ)=(get? t x π).bind λv=>get? v.t v.x ρ:=by
 intro π
 induction π with
 |nil=>intro ρ t x;rw[eY];rfl
 |cons p0 π ih=>
  intro ρ t x
  unfold get?
  cases t <;> cases p0 <;> simp only[dN,fA,nX]
  case st.st=>exact ih _ _ _
  case pair.fst=>exact ih _ _ _
  case pair.snd=>exact ih _ _ _
  case sl.idx=>(split <;> (try split) <;> first|exact ih _ _ _|rfl)
  case arr.ai=>(split <;> (try split) <;> first|exact ih _ _ _|rfl)
  case box.deref=>exact ih _ _ _
  case ptr.deref=>(split <;> first|exact ih _ _ _|rfl)
theorem eL:∀ (π:List Stp) (t:Ty) (x:t.T) (v:V),get? t x π=some v->v.t=atT t π:=by
 intro π
 induction π with
 |nil=>intro t x v h;rw[eY]at h;injection h with h;subst h;cases t <;> rfl
 |cons p0 π ih=>
  intro t x v h
  unfold get? at h
  cases t <;> cases p0 <;> simp only[fA,reduceCtorEq]at h
  case st.st=>exact ih _ _ _ h
  case pair.fst=>exact ih _ _ _ h
  case pair.snd=>exact ih _ _ _ h
  case sl.idx=>(split at h <;> (try split at h) <;> first|exact ih _ _ _ h|cases h)
  case arr.ai=>(split at h <;> (try split at h) <;> first|exact ih _ _ _ h|cases h)
  case box.deref=>exact ih _ _ _ h
  case ptr.deref=>(split at h <;> first|exact ih _ _ _ h|cases h)
theorem tV:∀ (π ρ:List Stp) (t:Ty) (m:Md),dy t m (π++ρ)=(dy t m π&&dy (atT t π) (atM t m π) ρ):=by
 intro π
 induction π with
 |nil=>intro ρ t m;cases t <;> simp[dy,atT,atM]
 |cons p0 π ih=>
  intro ρ t m
  cases t <;> cases p0 <;> simp only[dN,dy,atT,atM,ih,oa,dE]
def Qe(F:af)(w:World)(t:Ty)(m:Md)(x:t.T)(cs:List Value)(S:af)(π:List Stp)(u:Ty)(ds:List Value)(p o:Nat)(S':af):Prop:=
 S p/\¬S' p/\ri w p o ds/\
  ∀ F' w' y' es R x' m' mr,pJ t m π m' mr->Sub F F'->ji t x π u y'=some x'->Rep F' w' u m' y' es R->es.length=ds.length->(∀ k,R k->S k->S' k)->
   (∀ k,S k->¬S' k->k≠p->w'.heap[k]?=w.heap[k]?)->Upd w w' p o ds es->(∀ k,F k->w'.heap[k]?=w.heap[k]?)->
   Rep F' w' t mr x' cs (λk=>(S k/\¬S' k)\/R k)
def rl{R:Type}:V->(V->Option R)->Option R
 |⟨.box t,x⟩,K=>K ⟨t,x⟩
 |⟨.ptr t,x⟩,K=>match(x:Option t.T)with
  |some y=>K ⟨t,y⟩
  |none=>none
 |_,_=>none
def plc{R:Type}(σ:St)(e:aq)(K:Nat->Lab->List Stp->V->Option R):Option R:=
 match e with
 |.adr l n π c=>match σ.L l with
  |some b=>bif eV π then(bif Nat.beq n b.v then K l b π c else bif short 0 π&&dy b.t b.m π then fA b.t b.x π λu y=>K l b π ⟨u,y⟩else none)else none
  |none=>none
 |.hdr l n π c=>match σ.L l with
  |some b=>bif dy b.t b.m (π++[.deref])then(bif Nat.beq n b.v then rl c λq=>K l b (π++[.deref]) q else bif π.isEmpty then rl ⟨b.t,b.x⟩ λq=>K l b (π++[.deref]) q else none)else none
  |none=>none
 |_=>none
section
variable {P:Program} {B:dH} {F:af} {Sg:Nat->af} {cg:Nat->List Value} {σ:St} {a:Act} {w:World}
theorem HZ(h:aS B F Sg cg σ a w){l:Nat}{b:Lab}(hl:σ.L l=some b){π:List Stp}(hc:eV π=true){u:Ty}{y:u.T}(hg:get? b.t b.x π=some ⟨u,y⟩)(ho:dy b.t b.m π=true):
 ∃ ds p o S',resolve w b.t (cg l) none π=some (ds,some (p,o))/\Rep F w u (atM b.t b.m π) y ds S'/\Sub S' (Sg l)/\Qe F w b.t b.m b.x (cg l) (Sg l) π u ds p o S':=by
 obtain⟨ds,s',S',h1,h2,h3,h4⟩:=focus F w π b.t b.m b.x (cg l) (Sg l) none u y (h.lab l b hl) hg ho
 obtain⟨⟨p,o⟩,rfl⟩:=iR _ _ _ _ _ _ hc h1
 rcases h4 with⟨_,_,_,h5,_⟩|⟨p',o',h5,h6⟩
 ·simp at h5
 ·injection h5 with h5
  injection h5 with h5 h7
  subst h5;subst h7
  exact⟨ds,p,o,S',h1,h2,h3,h6⟩
theorem eR(w:World)(t:Ty)(cs:List Value)(s:Option (Nat×Nat)):resolve w t cs s []=some (cs,s):=by cases t <;> rfl
theorem oZ(π:List Stp):eV (π++[.deref])=true:=by
 induction π with
 |nil=>rfl
 |cons p π ih=>cases p <;> first|rfl|exact ih
theorem wD{R:Type}{c:V}{K:V->Option R}{r:R}(h:rl c K=some r):∃ q,K q=some r/\get? c.t c.x [.deref]=some q/\(c.t=.box q.t\/c.t=.ptr q.t):=by
 unfold rl at h
 split at h
 ·rename_i t x;exact⟨⟨t,x⟩,h,by cases t <;> rfl,.inl rfl⟩
 ·rename_i t x
  split at h
  ·rename_i y;exact⟨⟨t,y⟩,h,by cases t <;> rfl,.inr rfl⟩
  ·cases h
 ·cases h
theorem H0{t:Ty}{q:Ty}(ht:t=.box q\/t=.ptr q){cs:List Value}{s:Option (Nat×Nat)}{v:Value}(hv:VR t cs v){ds:List Value}{p o:Nat}(hr:resolve w t cs s [.deref]=some (ds,some (p,o))):v=.pointer (some ⟨p,o,none⟩):=by
 rcases ht with rfl|rfl
 ·simp only[resolve]at hr
  split at hr
  ·injection hr with hr
   injection hr with _ hr
   injection hr with hr
   injection hr with q1 q2
   subst q1;subst q2
   simp[VR,Ty.agg]at hv
   exact hv.1.symm
  ·cases hr
 ·simp only[resolve]at hr
  split at hr
  ·injection hr with hr
   injection hr with _ hr
   injection hr with hr
   injection hr with q1 q2
   subst q1;subst q2
   simp[VR,Ty.agg]at hv
   exact hv.1.symm
  ·cases hr
theorem rm(h:aS B F Sg cg σ a w){R:Type}{e:aq}{K:Nat->Lab->List Stp->V->Option R}{r:R}(hk:plc σ e K=some r){v:Value}(he:aE F w σ.L σ.U cg e v):
 ∃ l b π c,σ.L l=some b/\K l b π c=some r/\eV π=true/\get? b.t b.x π=some c/\dy b.t b.m π=true/\
  ∃ ds p o S',v=.pointer (some ⟨p,o,none⟩)/\resolve w b.t (cg l) none π=some (ds,some (p,o))/\Rep F w c.t (atM b.t b.m π) c.x ds S'/\Sub S' (Sg l)/\Qe F w b.t b.m b.x (cg l) (Sg l) π c.t ds p o S':=by
 unfold plc at hk
 split at hk
 ·rename_i l n π c
  cases hl:σ.L l with
  |none=>rw[hl]at hk;cases hk
  |some b=>
   rw[hl]at hk
   simp only at hk
   cases hc:eV π
   ·rw[hc]at hk;cases hk
   rw[hc]at hk
   simp only[cond_true]at hk
   obtain⟨hu,he2⟩:=he
   obtain⟨_,h1,h2⟩:=he2 b hl
   cases hn:Nat.beq n b.v
   ·rw[hn]at hk
    simp only[cond_false]at hk
    cases hs:short 0 π&&dy b.t b.m π
    ·rw[hs]at hk;cases hk
    rw[hs]at hk
    simp only[cond_true]at hk
    simp only[ag]at hs
    rw[gl]at hk
    obtain⟨c',hg,hk⟩:=cf.1 hk
    obtain⟨ds,p,o,S',h3,h4,h5,h6⟩:=HZ h hl hc hg hs.2
    exact⟨l,b,π,c',hl,hk,hc,hg,hs.2,ds,p,o,S',h1 hs.1 _ _ (sC _ _ _ _ _ hs.1 h3),h3,h4,h5,h6⟩
   ·rw[hn]at hk
    simp only[cond_true]at hk
    obtain⟨h3,hg,h4⟩:=h2 (bh hn)
    obtain⟨ds,p,o,S',h5,h6,h7,h8⟩:=HZ h hl hc hg h3
    exact⟨l,b,π,c,hl,hk,hc,hg,h3,ds,p,o,S',h4 _ _ _ h5,h5,h6,h7,h8⟩
 ·rename_i l n π c
  cases hl:σ.L l with
  |none=>rw[hl]at hk;cases hk
  |some b=>
   rw[hl]at hk
   simp only at hk
   cases ho:dy b.t b.m (π++[.deref])
   ·rw[ho]at hk;cases hk
   rw[ho]at hk
   simp only[cond_true]at hk
   obtain⟨hu,he2⟩:=he
   obtain⟨_,h1,h2⟩:=he2 b hl
   have fin:∀ (c:V) (q:V),get? b.t b.x π=some c->get? c.t c.x [.deref]=some q->(c.t=.box q.t\/c.t=.ptr q.t)->(∀ ds s,resolve w b.t (cg l) none π=some (ds,s)->VR c.t ds v)->K l b (π++[.deref]) q=some r->
    ∃ l b π c,σ.L l=some b/\K l b π c=some r/\eV π=true/\get? b.t b.x π=some c/\dy b.t b.m π=true/\
   ∃ ds p o S',v=.pointer (some ⟨p,o,none⟩)/\resolve w b.t (cg l) none π=some (ds,some (p,o))/\Rep F w c.t (atM b.t b.m π) c.x ds S'/\Sub S' (Sg l)/\Qe F w b.t b.m b.x (cg l) (Sg l) π c.t ds p o S':=by
    intro c q hg hq ht hv hk
    have hg2:get? b.t b.x (π++[.deref])=some q:=by rw[mN,hg];exact hq
    obtain⟨ds,p,o,S',h5,h6,h7,h8⟩:=HZ h hl (oZ π) hg2 ho
    refine⟨l,b,π++[.deref],q,hl,hk,oZ π,hg2,ho,ds,p,o,S',?_,h5,h6,h7,h8⟩
    rw[iW]at h5
    obtain⟨⟨ds1,s1⟩,hr1,hr2⟩:=cf.1 h5
    have e1:=eL _ _ _ _ hg
    rw[<-e1]at hr2
    exact H0 ht (hv _ _ hr1) hr2
   cases hn:Nat.beq n b.v
   ·rw[hn]at hk
    simp only[cond_false]at hk
    cases hp:π.isEmpty
    ·rw[hp]at hk;cases hk
    rw[hp]at hk
    simp only[cond_true]at hk
    have:π=[]:=by cases π <;> simp_all
    subst this
    obtain⟨q,hk,hq,ht⟩:=wD hk
    refine fin ⟨b.t,b.x⟩ q (eY _ _) hq ht (λds s hr=>?_) hk
    rw[eR]at hr
    injection hr with hr
    injection hr with hr _
    subst hr
    exact h1 rfl
   ·rw[hn]at hk
    simp only[cond_true]at hk
    obtain⟨h3,hg,h4⟩:=h2 (bh hn)
    obtain⟨q,hk,hq,ht⟩:=wD hk
    refine fin c q hg hq ht (λds s hr=>?_) hk
    rw[eL _ _ _ _ hg]
    exact h4 _ _ hr
 ·cases hk
theorem L3{b o:Nat}{ds:List Value}(h:ri w b o ds):At w ⟨b,o,none⟩ ds:=by
 obtain⟨c,e,hb,l,r,hc,hl⟩:=h
 intro j v hj
 rw[cW]
 have hjl:j<ds.length:=(List.getElem?_eq_some_iff.1 hj).1
 have:c.toList[o+j]?=some v:=by
  rw[hc,<-hl,aO,List.getElem?_append_right (by omega),qN,List.getElem?_append_left hjl]
  exact hj
 simp[World.cell?,hb]
 simpa using this
theorem ol{t:TypeId}{d:TD}(hd:TOk P t d):(isAgg t).run P w=.ok d.ty.agg w:=by
 rw[hd.agg]
 have:=hd.desc
 unfold isAgg
 cases hk:d.kd <;> rw[hk]at this <;> simp only at this
 case int k=>simp[run_underlying this.1,TK.agg]
 case bool=>simp[run_underlying this.1,TK.agg]
 case str=>simp[run_underlying this.1,TK.agg]
 case slice e=>simp[run_underlying this,TK.agg]
 case array n e=>simp[run_underlying this,TK.agg]
 case struct fs=>obtain⟨f,h1,_⟩:=this;simp[run_underlying h1,TK.agg]
 case pointer e=>simp[run_underlying this,TK.agg]
 case chan e=>obtain⟨dir,h1⟩:=this;simp[run_underlying h1,TK.agg]
 case map k e=>simp[run_underlying this,TK.agg]
 case other=>
  obtain⟨q,h1,h2,h3⟩:=this
  simp only[aP,run_underlying h1,aQ,TK.agg]
  cases q <;> first|rfl|exact absurd rfl (h2 _)|exact absurd rfl (h3 _ _)
theorem run_sizeOf{t:TypeId}{d:TD}(hd:TOk P t d):(sizeOf t).run P w=.ok d.ty.width w:=by
 obtain⟨i,z,h1,h2,_⟩:=hd.vU
 simp[sizeOf,typeInfo,h1,h2]
theorem sD{t:TypeId}{d:TD}(hd:TOk P t d){ad:Addr}{ds:List Value}(hat:At w ad ds)(hl:ds.length=d.ty.width)(hv:d.ty.agg=true\/∃ z,ds=[z]/\z.oneCell'=true):
 ∃ z,(Instr.loadAt t (.pointer (some ad))).run P w=.ok z w/\VR d.ty ds z:=by
 unfold Instr.loadAt loadVar
 cases ha:d.ty.agg
 ·rcases hv with hv|⟨z,rfl,hz⟩
  ·rw[ha]at hv;cases hv
  have h0:=hat 0 z rfl
  rw[Addr.add_zero']at h0
  refine⟨z,?_,by simp[VR,ha,hz]⟩
  simp[Instr.sureAddr,ol hd,ha,go_sem,h0]
 ·refine⟨.agg ds.toArray,?_,by simp[VR,ha]⟩
  have:=run_loadCells_list (P:=P) w ad ds hat
  rw[hl]at this
  simp[Instr.sureAddr,ol hd,ha,run_sizeOf hd,this]
theorem lj{t:Ty}(ht:t.vty=true){m:Md}{x:t.T}{cs:List Value}{S:af}(h:Rep F w t m x cs S):t.agg=true\/∃ z,cs=[z]/\z.oneCell'=true:=by
 unfold Ty.vty at ht
 simp only[aG]at ht
 rcases ht with ht|ht
 ·exact .inr (eZ ht h)
 ·exact .inl ht
def pL{R:Type}(e:aq)(K:(t:Ty)->t.T->Option R):Option R:=
 match e with
 |.li t x=>K t x
 |.val (.box t) x=>K t x
 |.val (.ptr t) x=>match(x:Option t.T)with
  |some y=>K t y
  |none=>none
 |_=>none
theorem pM{R:Type}{L:Nat->Option Lab}{U:Nat->Bool}{e:aq}{K:(t:Ty)->t.T->Option R}{r:R}(h:pL e K=some r){v:Value}(he:aE F w L U cg e v):
 ∃ t x ad ds,K t x=some r/\v=.pointer (some ad)/\F ad.block/\At w ad ds/\Rep F w t .ro x ds af.none:=by
 unfold pL at h
 split at h
 ·rename_i t x
  obtain⟨ad,ds,h1,h2,h3,h4⟩:=he
  exact⟨t,x,ad,ds,h,h1,h2,h3,h4⟩
 ·rename_i t x
  obtain⟨cs,h1,h2⟩:=he
  obtain⟨ad,rfl,h3,ds,h4,h5⟩:=h1
  simp[VR,Ty.agg]at h2
  exact⟨t,x,ad,ds,h,h2.1.symm,h3,h4,h5⟩
 ·rename_i t x
  split at h
  ·rename_i y
   obtain⟨cs,h1,h2⟩:=he
   obtain⟨ad,rfl,h3,ds,h4,h5⟩:=h1
   simp[VR,Ty.agg]at h2
   exact⟨t,y,ad,ds,h,h2.1.symm,h3,h4,h5⟩
  ·cases h
 ·cases h
def L4(c:V)(l:Nat)(b:Lab)(π:List Stp):aq:=bif c.t.flat||dI (atM b.t b.m π)then .val c.t c.x else .hdr l b.v π c
def aq.owned:aq->Bool
 |.adr ..=>true
 |.hdr ..=>true
 |_=>false
def tW{R:Type}(d:TD)(σ:St)(e:aq)(K:aq->Option R):Option R:=
 bif d.ty.vty then
  (bif e.owned then plc σ e λl b π c=>bif decide (c.t=d.ty)then K (L4 c l b π)else none
  else pL e λt x=>bif decide (t=d.ty)then K (.val t x)else none)
 else none
theorem DH(h:aS B F Sg cg σ a w){l:Nat}{b:Lab}(hl:σ.L l=some b){π:List Stp}{c:V}(hg:get? b.t b.x π=some c)(ho:dy b.t b.m π=true){ds:List Value}{s:Option (Nat×Nat)}{S':af}(hr:resolve w b.t (cg l) none π=some (ds,s))(bF:Rep F w c.t (atM b.t b.m π) c.x ds S'){z:Value}(hz:VR c.t ds z):
 aE F w σ.L σ.U cg (L4 c l b π) z:=by
 unfold L4
 cases hc:c.t.flat||dI (atM b.t b.m π)
 ·refine⟨h.used l b hl,λb' hb'=>?_⟩
  rw[hl]at hb'
  injection hb' with hb'
  subst hb'
  have ht:c.t=atT b.t π:=eL _ _ _ _ hg
  refine⟨ar _,?_,λ_=>⟨ho,hg,λds' s' hr'=>?_⟩⟩
  ·rintro rfl
   rw[eR]at hr
   injection hr with hr
   injection hr with hr _
   subst hr
   have e2:atT b.t []=b.t:=by cases b.t <;> rfl
   rw[e2]at ht
   rw[<-ht]
   exact hz
  ·rw[hr]at hr'
   injection hr' with hr'
   injection hr' with hr' _
   subst hr'
   rw[<-ht]
   exact hz
 ·simp only[aG]at hc
  refine⟨ds,?_,hz⟩
  rcases hc with hc|hc
  ·exact lh c.t hc _ _ _ _ _ _ bF
  ·exact eK c.t _ hc _ _ _ _ bF
theorem zr(h:aS B F Sg cg σ a w){R:Type}{t:TypeId}{d:TD}(hd:TOk P t d){e:aq}{K:aq->Option R}{r:R}(hk:tW d σ e K=some r){v:Value}(he:aE F w σ.L σ.U cg e v):
 ∃ e' z,K e'=some r/\(Instr.loadAt t v).run P w=.ok z w/\aE F w σ.L σ.U cg e' z:=by
 unfold tW at hk
 cases hvt:d.ty.vty
 ·rw[hvt]at hk;cases hk
 rw[hvt]at hk
 simp only[cond_true]at hk
 cases tX:e.owned
 ·rw[tX]at hk
  simp only[cond_false]at hk
  obtain⟨t',x,ad,ds,hk,rfl,h2,h3,h4⟩:=pM hk he
  cases hud:decide (t'=d.ty)
  ·rw[hud]at hk;cases hk
  rw[hud]at hk
  simp only[cond_true]at hk
  have hud:=of_decide_eq_true hud
  subst hud
  obtain⟨z,h5,h6⟩:=sD hd h3 (aT _ _ _ _ _ _ _ h4) (lj hvt h4)
  exact⟨_,z,hk,h5,ds,h4,h6⟩
 ·rw[tX]at hk
  simp only[cond_true]at hk
  obtain⟨l,b,π,c,hl,hk,hc,hg,ho,ds,p,o,S',rfl,h1,h2,h3,h4⟩:=rm h hk he
  cases hud:decide (c.t=d.ty)
  ·rw[hud]at hk;cases hk
  rw[hud]at hk
  simp only[cond_true]at hk
  have hud:=of_decide_eq_true hud
  have hw:=aT _ _ _ _ _ _ _ h2
  have hvc:=lj (by rw[hud];exact hvt) h2
  rw[hud]at hw hvc
  obtain⟨z,h5,h6⟩:=sD hd (L3 h4.2.2.1) hw hvc
  rw[<-hud]at h6
  exact⟨_,z,hk,h5,DH h hl hg ho h1 h2 h6⟩
end
def xD(n f:Nat):List Stp:=.st::(List.replicate f .snd++bif Nat.blt (f+1) n then [.fst]else [])
def bq:Ty->List Stp->Option Nat
 |_,[]=>some 0
 |.st t,.st::π=>bq t π
 |.pair a _,.fst::π=>bq a π
 |.pair a b,.snd::π=>match bq b π with|some k=>some (a.width+k)|none=>none
 |.arr _ t,.ai i::π=>match bq t π with|some k=>some (i.toNat*t.width+k)|none=>none
 |_,_::_=>none
theorem pd{w:World}:∀ (π:List Stp) (t:Ty) (cs:List Value) (p o k:Nat) (ds:List Value) (s:Option (Nat×Nat)),bq t π=some k->resolve w t cs (some (p,o)) π=some (ds,s)->s=some (p,o+k):=by
 intro π
 induction π with
 |nil=>
  intro t cs p o k ds s hk h;rw[eR]at h;have:k=0:=by cases t <;> simp[bq]at hk <;> exact hk.symm
  subst this;injection h with h;injection h with _ h;exact h.symm
 |cons p0 π ih=>
  intro t cs p o k ds s hk h
  cases t <;> cases p0 <;> simp only[resolve,reduceCtorEq]at h <;> simp only[bq,reduceCtorEq]at hk
  case st.st=>exact ih _ _ _ _ _ _ _ hk h
  case pair.fst=>exact ih _ _ _ _ _ _ _ hk h
  case pair.snd=>
   split at hk
   ·rename_i k' hk'
    injection hk with hk
    subst hk
    rw[ih _ _ _ _ _ _ _ hk' h,cG]
   ·cases hk
  case arr.ai=>
   split at h
   ·split at hk
    ·rename_i k' hk'
     injection hk with hk
     subst hk
     rw[ih _ _ _ _ _ _ _ hk' h,cG]
    ·cases hk
   ·cases h
theorem add_add(a:Addr)(k j:Nat):(a.add k).add j=a.add (k+j):=by
 unfold Addr.add
 rcases du k with rfl|hk
 ·simp
 ·rcases du j with rfl|hj
  ·simp
  ·rw[if_neg (by omega),if_neg (by omega),if_neg (by omega)]
   simp[cG]
theorem At.part{w:World}{ad:Addr}{pre ds post:List Value}(h:At w ad (pre++ds++post)):At w (ad.add pre.length) ds:=by
 intro j v hj
 rw[add_add]
 apply h
 have hjl:j<ds.length:=(List.getElem?_eq_some_iff.1 hj).1
 rw[aO,List.getElem?_append_right (by omega),qN,List.getElem?_append_left hjl]
 exact hj
theorem wF{F:af}{w:World}:∀ (π:List Stp) (t:Ty) (x:t.T) (ad:Addr) (ds:List Value) (k:Nat) (c:V),bq t π=some k->get? t x π=some c->At w ad ds->Rep F w t .ro x ds af.none->∃ ds',At w (ad.add k) ds'/\Rep F w c.t .ro c.x ds' af.none:=by
 intro π
 induction π with
 |nil=>
  intro t x ad ds k c hk hg h hr
  rw[eY]at hg
  injection hg with hg
  subst hg
  have:k=0:=by cases t <;> simp[bq]at hk <;> exact hk.symm
  subst this
  exact⟨ds,by rw[Addr.add_zero'];exact h,hr⟩
 |cons p0 π ih=>
  intro t x ad ds k c hk hg h hr
  unfold get? at hg
  cases t <;> cases p0 <;> simp only[fA,reduceCtorEq]at hg <;> simp only[bq,reduceCtorEq]at hk
  case st.st=>exact ih _ _ _ _ _ _ hk hg h hr
  case pair.fst a b=>
   obtain⟨c1,c2,S1,S2,rfl,h1,h2,_⟩:=hr
   exact ih _ _ ad c1 _ _ hk hg (by have:=At.part (pre:=[]) (ds:=c1) (post:=c2) (by simpa using h);rw[bD,Addr.add_zero']at this;exact this) (eK a _ rfl _ _ _ _ h1)
  case pair.snd a b=>
   obtain⟨c1,c2,S1,S2,rfl,h1,h2,_⟩:=hr
   split at hk
   ·rename_i k' hk'
    injection hk with hk
    subst hk
    have hp:=At.part (pre:=c1) (ds:=c2) (post:=[]) (by simpa using h)
    rw[aT _ _ _ _ _ _ _ h1]at hp
    rw[<-add_add]
    exact ih _ _ _ c2 _ _ hk' hg hp (eK b _ rfl _ _ _ _ h2)
   ·cases hk
  case arr.ai n t i=>
   split at hg
   ·cases hz:(x:List t.T)[i.toNat]? with
    |none=>rw[hz]at hg;simp at hg
    |some z=>
     rw[hz]at hg
     split at hk
     ·rename_i k' hk'
      injection hk with hk
      subst hk
      obtain⟨d,T,pre,post,hd,t1,rfl,hp,_⟩:=bp.focus (λy c S h=>aT F w t _ y c S h) hz hr.2
      have hp2:=At.part h
      rw[hp]at hp2
      rw[<-add_add]
      exact ih _ _ _ d _ _ hk' hg hp2 (eK t _ rfl _ _ _ _ hd)
     ·cases hk
   ·cases hg
section
variable {P:Program} {B:dH} {F:af} {Sg:Nat->af} {cg:Nat->List Value} {σ:St} {a:Act} {w:World}
theorem Cf(h:aS B F Sg cg σ a w){l:Nat}{b:Lab}(hl:σ.L l=some b){π:List Stp}{c:V}(hcr:eV π=true)(hg:get? b.t b.x π=some c)(ho:dy b.t b.m π=true){p o:Nat}
 (hr:∀ ds s,resolve w b.t (cg l) none π=some (ds,s)->s=some (p,o)):aE F w σ.L σ.U cg (.adr l b.v π c) (.pointer (some ⟨p,o,none⟩)):=by
 obtain⟨ds,p',o',S',h1,_⟩:=HZ h hl hcr hg ho
 have e1:=hr _ _ h1
 injection e1 with e1
 injection e1 with e1 e2
 subst e1;subst e2
 refine⟨h.used l b hl,λb' hb'=>?_⟩
 rw[hl]at hb'
 injection hb' with hb'
 subst hb'
 refine⟨ar _,λhs p2 o2 hr2=>?_,λ_=>⟨ho,hg,λds2 p2 o2 hr2=>?_⟩⟩
 ·rw[sC _ _ _ _ _ hs h1]at hr2
  injection hr2 with hr2
  injection hr2 with q1 q2
  subst q1;subst q2;rfl
 ·rw[h1]at hr2
  injection hr2 with hr2
  injection hr2 with _ hr2
  injection hr2 with hr2
  injection hr2 with q1 q2
  subst q1;subst q2;rfl
theorem zt(π:List Stp)(i:Int):eV (π++[.idx i])=true:=by
 induction π with
 |nil=>rfl
 |cons p π ih=>cases p <;> first|rfl|exact ih
theorem sE{π ρ:List Stp}(h:eV π=true):eV (π++ρ)=true:=by
 induction π with
 |nil=>simp[eV]at h
 |cons p π ih=>cases p <;> first|rfl|exact ih h
theorem lP:∀ (φ:List Stp) (t:Ty) (m:Md) (k:Nat),bq t φ=some k->dy t m φ=true:=by
 intro φ
 induction φ with
 |nil=>intro t m k _;cases t <;> rfl
 |cons p φ ih=>
  intro t m k h
  cases t <;> cases p <;> simp only[bq,reduceCtorEq]at h <;> simp only[dy]
  case st.st=>exact ih _ _ _ h
  case pair.fst=>exact ih _ _ _ h
  case pair.snd=>(split at h <;> first|exact ih _ _ _ (by assumption)|cases h)
  case arr.ai=>(split at h <;> first|exact ih _ _ _ (by assumption)|cases h)
abbrev Tab:=TypeId->Option TD
def cO(P:Program)(TT:Tab):Prop:=∀ t d,TT t=some d->TOk P t d
def zu{R:Type}(TT:Tab)(s f:Nat)(K:TD->Nat->List Stp->TD->Option R):Option R:=
 match TT s with
 |none=>none
 |some d=>match d.kd with
  |.struct fs=>match fs[f]? with
   |none=>none
   |some q=>match TT q.1 with
    |none=>none
    |some df=>bif Nat.beq df.ty.width 0 then none else
     match bq d.ty (xD fs.length f)with
     |none=>none
     |some k=>bif Nat.beq k q.2 then K d k (xD fs.length f) df else none
  |_=>none
theorem xE{R:Type}{TT:Tab}(hT:cO P TT){s f:Nat}{K:TD->Nat->List Stp->TD->Option R}{r:R}(h:zu TT s f K=some r):
 ∃ d k φ df fields fl,K d k φ df=some r/\TOk P s d/\bq d.ty φ=some k/\P.underlying s=some (.struct fields)/\fields[f]?=some fl/\fl.offset=k/\TOk P fl.type df/\df.ty.width≠0:=by
 unfold zu at h
 cases h1:TT s with
 |none=>rw[h1]at h;cases h
 |some d=>
  rw[h1]at h
  simp only at h
  have hd:=hT s d h1
  split at h
  ·rename_i fs hk
   cases h2:fs[f]? with
   |none=>rw[h2]at h;cases h
   |some q=>
    rw[h2]at h
    simp only at h
    cases h3:TT q.1 with
    |none=>rw[h3]at h;cases h
    |some df=>
     rw[h3]at h
     simp only at h
     cases h4:Nat.beq df.ty.width 0
     ·rw[h4]at h
      simp only[cond_false]at h
      cases h5:bq d.ty (xD fs.length f)with
      |none=>rw[h5]at h;cases h
      |some k=>
       rw[h5]at h
       simp only at h
       cases h6:Nat.beq k q.2
       ·rw[h6]at h;cases h
       rw[h6]at h
       simp only[cond_true]at h
       have hds:=hd.desc
       rw[hk]at hds
       simp only at hds
       obtain⟨fields,hu,hf⟩:=hds
       have hq:(fields.toList.map (λx=>(x.type,x.offset)))[f]?=some q:=by rw[hf];exact h2
       rw[List.getElem?_map]at hq
       obtain⟨fl,hfl,hq⟩:=qO.1 hq
       subst hq
       refine⟨d,k,_,df,fields,fl,h,hd,h5,hu,by simpa using hfl,(bh h6).symm,hT _ _ h3,λh0=>?_⟩
       rw[h0]at h4
       cases h4
     ·rw[h4]at h;cases h
  ·cases h
def H2(o:Option Nat)(k:Nat):Bool:=match o with|some k'=>Nat.beq k' k|none=>false
theorem H3{o:Option Nat}{k:Nat}(h:H2 o k=true):o=some k:=by
 cases o with
 |none=>cases h
 |some k'=>rw[bh h]
def jS{R:Type}(TT:Tab)(σ:St)(s:TypeId)(e:aq)(f:Nat)(K:aq->Option R):Option R:=
 zu TT s f λd k φ df=>
  bif e.owned then plc σ e λl b π c=>bif H2 (bq c.t φ) k then fA c.t c.x φ λu y=>K (.adr l b.v (π++φ) ⟨u,y⟩)else none
  else pL e λt x=>bif decide (t=d.ty)then fA t x φ λu y=>bif decide (u=df.ty)then K (.li u y)else none else none
theorem vX(h:aS B F Sg cg σ a w){R:Type}{TT:Tab}(hT:cO P TT){s:TypeId}{f:Nat}{e:aq}{K:aq->Option R}{r:R}(hk:jS TT σ s e f K=some r){v:Value}(he:aE F w σ.L σ.U cg e v):
 ∃ e' z,K e'=some r/\(Instr.fieldAt s v f).run P w=.ok z w/\aE F w σ.L σ.U cg e' z:=by
 obtain⟨d,k,φ,df,fields,fl,hk,hd,hin,hu,hfl,L5,hdf,hw0⟩:=xE hT hk
 have bV:∀ ad:Addr,(Instr.fieldAt s (.pointer (some ad)) f).run P w=.ok (.pointer (some (ad.add k))) w:=by
  intro ad
  simp[Instr.fieldAt,run_underlying hu,hfl,Instr.sureAddr,fieldPlace,run_sizeOf hdf,hw0,L5]
 cases tX:e.owned
 ·rw[tX]at hk
  simp only[cond_false]at hk
  obtain⟨t',x,ad,ds,hk,rfl,h2,h3,h4⟩:=pM hk he
  cases hud:decide (t'=d.ty)
  ·rw[hud]at hk;cases hk
  rw[hud]at hk
  simp only[cond_true]at hk
  have hud:=of_decide_eq_true hud
  subst hud
  rw[gl]at hk
  obtain⟨c,hg,hk⟩:=cf.1 hk
  cases hud:decide (c.t=df.ty)
  ·rw[hud]at hk;cases hk
  rw[hud]at hk
  simp only[cond_true]at hk
  obtain⟨ds',h5,h6⟩:=wF _ _ _ _ _ _ _ hin hg h3 h4
  exact⟨_,_,hk,bV ad,_,ds',rfl,by rw[jJ];exact h2,h5,h6⟩
 ·rw[tX]at hk
  simp only[cond_true]at hk
  obtain⟨l,b,π,c,hl,hk,hc,hg,ho,ds,p,o,S',rfl,h1,h2,h3,h4⟩:=rm h hk he
  cases hud:H2 (bq c.t φ) k
  ·rw[hud]at hk;cases hk
  rw[hud]at hk
  simp only[cond_true]at hk
  rw[gl]at hk
  obtain⟨c',hg',hk⟩:=cf.1 hk
  have FA:bq c.t φ=some k:=H3 hud
  have hat:=eL _ _ _ _ hg
  refine⟨_,_,hk,?_,Cf h hl (sE hc) (by rw[mN,hg];exact hg') (by rw[tV,ho,<-hat,lP _ _ _ _ FA];rfl) (p:=p) (o:=o+k) (λds2 s2 hr=>?_)⟩
  ·rw[bV,cW]
  ·rw[iW,h1]at hr
   simp only[gF]at hr
   rw[<-hat]at hr
   exact pd _ _ _ _ _ _ _ _ FA hr
def ll{R:Type}(σ:St)(e:aq)(K:Nat->Lab->List Stp->V->Option R):Option R:=
 match e with
 |.hdr l n π c=>match σ.L l with
  |some b=>bif Nat.beq n b.v then K l b π c else bif π.isEmpty then K l b [] ⟨b.t,b.x⟩else none
  |none=>none
 |_=>none
theorem fQ(h:aS B F Sg cg σ a w){R:Type}{e:aq}{K:Nat->Lab->List Stp->V->Option R}{r:R}(hk:ll σ e K=some r){v:Value}(he:aE F w σ.L σ.U cg e v):
 ∃ l b π c,σ.L l=some b/\K l b π c=some r/\get? b.t b.x π=some c/\dy b.t b.m π=true/\
  ∃ ds s S',resolve w b.t (cg l) none π=some (ds,s)/\Rep F w c.t (atM b.t b.m π) c.x ds S'/\Sub S' (Sg l)/\Foc F w b.t b.m b.x (cg l) (Sg l) none π c.t ds s S'/\VR c.t ds v:=by
 unfold ll at hk
 split at hk
 ·rename_i l n π c
  cases hl:σ.L l with
  |none=>rw[hl]at hk;cases hk
  |some b=>
   rw[hl]at hk
   simp only at hk
   obtain⟨hu,he2⟩:=he
   obtain⟨_,h1,h2⟩:=he2 b hl
   cases hn:Nat.beq n b.v
   ·rw[hn]at hk
    simp only[cond_false]at hk
    cases hp:π.isEmpty
    ·rw[hp]at hk;cases hk
    rw[hp]at hk
    simp only[cond_true]at hk
    have:π=[]:=by cases π <;> simp_all
    subst this
    have ho:dy b.t b.m []=true:=by cases b.t <;> rfl
    obtain⟨ds,s,S',h3,h4,h5,h6⟩:=focus F w [] b.t b.m b.x (cg l) (Sg l) none b.t b.x (h.lab l b hl) (eY _ _) ho
    refine⟨l,b,[],⟨b.t,b.x⟩,hl,hk,eY _ _,ho,ds,s,S',h3,h4,h5,h6,?_⟩
    rw[eR]at h3
    injection h3 with h3
    injection h3 with h3 _
    subst h3
    exact h1 rfl
   ·rw[hn]at hk
    simp only[cond_true]at hk
    obtain⟨h3,hg,h4⟩:=h2 (bh hn)
    obtain⟨ds,s,S',h5,h6,h7,h8⟩:=focus F w π b.t b.m b.x (cg l) (Sg l) none c.t c.x (h.lab l b hl) hg h3
    refine⟨l,b,π,c,hl,hk,hg,h3,ds,s,S',h5,h6,h7,h8,?_⟩
    rw[eL _ _ _ _ hg]
    exact h4 _ _ h5
 ·cases hk
def jT(e:aq){R:Type}(K:Int->Option R):Option R:=
 match e with
 |.val (.int _) i=>K i
 |_=>none
def gq{R:Type}(TT:Tab)(σ:St)(t:TypeId)(ex ei:aq)(K:aq->Option R):Option R:=
 jT ei λi=>
 match TT t with
 |none=>none
 |some d=>match d.kd with
  |.slice e=>match TT e with
   |none=>none
   |some de=>match ex with
    |.val (.sl t') xs=>bif decide (t'=de.ty)then(if 0<=i then(match(xs:List t'.T)[i.toNat]? with|some y=>K (.li t' y)|none=>none)else none)else none
    |.hdr ..=>ll σ ex λl b π c=>bif decide (c.t=.sl de.ty)&&dy b.t b.m (π++[.idx i])then fA c.t c.x [.idx i] λu y=>K (.adr l b.v (π++[.idx i]) ⟨u,y⟩)else none
    |_=>none
  |.array n e=>match TT e with
   |none=>none
   |some de=>
    bif ex.owned then plc σ ex λl b π c=>bif decide (c.t=.arr n de.ty)then fA c.t c.x [.ai i] λu y=>K (.adr l b.v (π++[.ai i]) ⟨u,y⟩)else none
    else pL ex λt' x=>bif decide (t'=.arr n de.ty)then fA t' x [.ai i] λu y=>K (.li u y)else none
  |_=>none
theorem run_indexAt_slice{t e:TypeId}{de:TD}(hu:P.underlying t=some (.slice e))(hde:TOk P e de){k:IntKind}{i:Int}{len cap:Nat}{ad:Addr}(h0:0<=i)(h1:i.toNat<len):
 (Instr.indexAt t (.slice (some ad) len cap) (.int k i)).run P w=.ok (.pointer (some (ad.add (i.toNat*de.ty.width)))) w:=by
 have h2:i<(len:Int):=by omega
 simp[Instr.indexAt,asIntOf,run_underlying hu,h0,h2,run_sizeOf hde]
theorem run_indexAt_array{t e:TypeId}{n:Nat}{de:TD}(hu:P.underlying t=some (.array n e))(hde:TOk P e de){k:IntKind}{i:Int}{ad:Addr}(h0:0<=i)(h1:i.toNat<n):
 (Instr.indexAt t (.pointer (some ad)) (.int k i)).run P w=.ok (.pointer (some (ad.add (i.toNat*de.ty.width)))) w:=by
 have h2:i<(n:Int):=by omega
 simp[Instr.indexAt,asIntOf,run_underlying hu,Instr.sureAddr,h0,h2,run_sizeOf hde]
theorem H4{t:Ty}{xs:List t.T}{i:Int}{c:V}(h:get? (.sl t) xs [.idx i]=some c):0<=i/\∃ y,xs[i.toNat]?=some y/\c=⟨t,y⟩:=by
 unfold get? at h
 simp only[fA]at h
 split at h
 ·rename_i h0
  cases hz:xs[i.toNat]? with
  |none=>rw[hz]at h;cases h
  |some y=>
   rw[hz]at h
   exact⟨h0,y,rfl,(cu h).symm⟩
 ·cases h
theorem DI{n:Nat}{t:Ty}{xs:List t.T}{i:Int}{c:V}(h:get? (.arr n t) xs [.ai i]=some c):0<=i/\∃ y,xs[i.toNat]?=some y/\c=⟨t,y⟩:=by
 unfold get? at h
 simp only[fA]at h
 split at h
 ·rename_i h0
  cases hz:xs[i.toNat]? with
  |none=>rw[hz]at h;cases h
  |some y=>
   rw[hz]at h
   exact⟨h0,y,rfl,(cu h).symm⟩
 ·cases h
theorem mO{t:Ty}{xs:List t.T}{cs:List Value}(h:Rep F w (.sl t) .ro xs cs af.none){v:Value}(hv:VR (.sl t) cs v):∃ ao cap,v=.slice ao xs.length cap/\xs.length<=cap/\cap<=maxLen/\
 (0<xs.length->∃ ad,ao=some ad/\F ad.block/\∃ ds,At w ad ds/\bp (Rep F w t .ro) xs ds af.none):=by
 obtain⟨ao,cap,rfl,h1,h2,h3⟩:=h
 simp[VR,Ty.agg]at hv
 exact⟨ao,cap,hv.1.symm,h1,h2,h3⟩
theorem gM{R:Type}{L:Nat->Option Lab}{U:Nat->Bool}{e:aq}{K:Int->Option R}{r:R}(h:jT e K=some r){v:Value}(he:aE F w L U cg e v):∃ k i,K i=some r/\v=.int k i/\inK k i:=by
 unfold jT at h
 split at h
 ·rename_i k i;obtain⟨h1,h2⟩:=iQ he;exact⟨k,i,h,h1,h2⟩
 ·cases h
theorem o0(h:aS B F Sg cg σ a w){R:Type}{TT:Tab}(hT:cO P TT){t:TypeId}{ex ei:aq}{K:aq->Option R}{r:R}(hk:gq TT σ t ex ei K=some r){v vi:Value}(he:aE F w σ.L σ.U cg ex v)(hi:aE F w σ.L σ.U cg ei vi):
 ∃ e' z,K e'=some r/\(Instr.indexAt t v vi).run P w=.ok z w/\aE F w σ.L σ.U cg e' z:=by
 unfold gq at hk
 obtain⟨k,i,hk,rfl,_⟩:=gM hk hi
 cases h1:TT t with
 |none=>rw[h1]at hk;cases hk
 |some d=>
 rw[h1]at hk
 simp only at hk
 have hd:=(hT t d h1).desc
 split at hk
 ·rename_i e hkd
  rw[hkd]at hd
  simp only at hd
  cases h2:TT e with
  |none=>rw[h2]at hk;cases hk
  |some de=>
  rw[h2]at hk
  simp only at hk
  have hde:=hT e de h2
  split at hk
  ·rename_i t' xs _hk0
   cases hud:decide (t'=de.ty)
   ·rw[hud]at hk;cases hk
   rw[hud]at hk
   simp only[cond_true]at hk
   have hud:=of_decide_eq_true hud
   subst hud
   split at hk
   ·rename_i h0
    cases hz:(xs:List de.ty.T)[i.toNat]? with
    |none=>rw[hz]at hk;cases hk
    |some y=>
     rw[hz]at hk
     simp only at hk
     obtain⟨cs,hr,hv⟩:=he
     obtain⟨ao,cap,rfl,h3,h4,h5⟩:=mO hr hv
     have hlt:i.toNat<List.length xs:=(List.getElem?_eq_some_iff.1 hz).1
     obtain⟨ad,rfl,hf,ds,hat,fB⟩:=h5 (by omega)
     obtain⟨dd,T,pre,post,hdd,_,rfl,hp,_⟩:=bp.focus (λy c S h=>aT F w de.ty _ y c S h) hz fB
     refine⟨_,_,hk,run_indexAt_slice hd hde h0 hlt,_,dd,rfl,by rw[jJ];exact hf,?_,eK _ _ rfl _ _ _ _ hdd⟩
     rw[<-hp]
     exact At.part hat
   ·cases hk
  ·rename_i l0 n0 π0 c0
   obtain⟨l,b,π,c,hl,hk,hg,ho,ds,s,S',hr,bF,fF,gd,hv⟩:=fQ h hk he
   cases hud:decide (c.t=.sl de.ty)&&dy b.t b.m (π++[.idx i])
   ·rw[hud]at hk;cases hk
   rw[hud]at hk
   simp only[cond_true]at hk
   simp only[ag,decide_eq_true_eq]at hud
   obtain⟨hct,ho2⟩:=hud
   obtain⟨ct,cx⟩:=c
   simp only at hct
   subst hct
   simp only at hk hg hr bF hv gd
   rw[gl]at hk
   obtain⟨c',hg',hk⟩:=cf.1 hk
   obtain⟨h0,y,hy,rfl⟩:=H4 hg'
   have hlt:i.toNat<List.length cx:=(List.getElem?_eq_some_iff.1 hy).1
   have hg2:get? b.t b.x (π++[.idx i])=some ⟨de.ty,y⟩:=by rw[mN,hg];exact hg'
   have hcr:eV (π++[.idx i])=true:=by
    exact zt π i
   obtain⟨ds2,p,o,S2,h3,_⟩:=HZ h hl hcr hg2 ho2
   have hat:=eL _ _ _ _ hg
   simp only at hat
   have h3':=h3
   rw[iW,hr]at h3'
   simp only[gF]at h3'
   rw[<-hat]at h3'
   simp only[resolve]at h3'
   split at h3'
   ·rename_i bb off len cp
    split at h3'
    ·rename_i hc
     injection h3' with h3'
     injection h3' with _ h3'
     injection h3' with h3'
     injection h3' with q1 q2
     subst q1;subst q2
     simp[VR,Ty.agg]at hv
     obtain⟨rfl,_⟩:=hv
     refine⟨_,.pointer (some ⟨bb,off+i.toNat*de.ty.width,none⟩),hk,?_,Cf h hl hcr hg2 ho2 (λds3 s3 hr3=>?_)⟩
     ·rw[run_indexAt_slice hd hde h0 hc.2,cW]
     ·rw[h3]at hr3
      injection hr3 with hr3
      injection hr3 with _ hr3
      exact hr3.symm
    ·cases h3'
   ·cases h3'
  ·cases hk
 ·rename_i n e hkd
  rw[hkd]at hd
  simp only at hd
  cases h2:TT e with
  |none=>rw[h2]at hk;cases hk
  |some de=>
  rw[h2]at hk
  simp only at hk
  have hde:=hT e de h2
  cases tX:ex.owned
  ·rw[tX]at hk
   simp only[cond_false]at hk
   obtain⟨t',x,ad,ds,hk,rfl,h3,h4,h5⟩:=pM hk he
   cases hud:decide (t'=.arr n de.ty)
   ·rw[hud]at hk;cases hk
   rw[hud]at hk
   simp only[cond_true]at hk
   have hud:=of_decide_eq_true hud
   subst hud
   rw[gl]at hk
   obtain⟨c,hg,hk⟩:=cf.1 hk
   obtain⟨h0,y,hy,rfl⟩:=DI hg
   have hlt:i.toNat<n:=by rw[<-h5.1];exact(List.getElem?_eq_some_iff.1 hy).1
   have hin:bq (.arr n de.ty) [.ai i]=some (i.toNat*de.ty.width):=by
    have:bq de.ty []=some 0:=by cases de.ty <;> rfl
    simp[bq,this]
   obtain⟨ds',h6,h7⟩:=wF _ _ _ _ _ _ _ hin hg h4 h5
   exact⟨_,_,hk,run_indexAt_array hd hde h0 hlt,_,ds',rfl,by rw[jJ];exact h3,h6,h7⟩
  ·rw[tX]at hk
   simp only[cond_true]at hk
   obtain⟨l,b,π,c,hl,hk,hc,hg,ho,ds,p,o,S',rfl,h3,h4,h5,h6⟩:=rm h hk he
   cases hud:decide (c.t=.arr n de.ty)
   ·rw[hud]at hk;cases hk
   rw[hud]at hk
   simp only[cond_true]at hk
   have hud:=of_decide_eq_true hud
   obtain⟨ct,cx⟩:=c
   simp only at hud
   subst hud
   rw[gl]at hk
   obtain⟨c',hg',hk⟩:=cf.1 hk
   obtain⟨h0,y,hy,rfl⟩:=DI hg'
   have hlt:i.toNat<n:=by rw[<-h4.1];exact(List.getElem?_eq_some_iff.1 hy).1
   have hin:bq (.arr n de.ty) [.ai i]=some (i.toNat*de.ty.width):=by
    have:bq de.ty []=some 0:=by cases de.ty <;> rfl
    simp[bq,this]
   have hat:=eL _ _ _ _ hg
   refine⟨_,.pointer (some ⟨p,o+i.toNat*de.ty.width,none⟩),hk,?_,Cf h hl (sE hc) (by rw[mN,hg];exact hg') (by rw[tV,ho,<-hat,lP _ _ _ _ hin];rfl) (λds2 s2 hr=>?_)⟩
   ·rw[run_indexAt_array hd hde h0 hlt,cW]
   ·rw[iW,h3]at hr
    simp only[gF]at hr
    rw[<-hat]at hr
    exact pd _ _ _ _ _ _ _ _ hin hr
 ·cases hk
end
theorem dM(b:Nat):∀ (es:List Value) (o:Nat) (w:World) (c:Array Value) (e:TypeId) (fr:Nat×Nat),w.heap[b]?=some (.cells c e fr)->o+es.length<=c.size->
 (∀ k,k≠b->(w.setCells b o es).heap[k]?=w.heap[k]?)/\(∃ c',(w.setCells b o es).heap[b]?=some (.cells c' e fr)/\c'.toList=c.toList.take o++es++c.toList.drop (o+es.length))/\
 (w.setCells b o es).heap.size=w.heap.size/\(w.setCells b o es).os=w.os/\(w.setCells b o es).tape=w.tape/\(w.setCells b o es).output=w.output
 |[],o,w,c,e,fr,hb,hc=>⟨λ_ _=>rfl,⟨c,hb,by simp⟩,rfl,rfl,rfl,rfl⟩
 |v::r,o,w,c,e,fr,hb,hc=>by
  simp only[aM]at hc
  have hlt:b<w.heap.size:=(Array.getElem?_eq_some_iff.1 hb).1
  have h1:(w.setCell ⟨b,o,none⟩ v).heap[b]?=some (.cells (c.setIfInBounds o v) e fr):=by
   simp[World.setCell,Array.getElem?_modify,hb]
  have h2:∀ k,k≠b->(w.setCell ⟨b,o,none⟩ v).heap[k]?=w.heap[k]?:=by
   intro k hk
   simp[World.setCell,Array.getElem?_modify,Ne.symm hk]
  obtain⟨i1,⟨c',i2,i3⟩,i4,i5,i6,i7⟩:=dM b r (o+1) (w.setCell ⟨b,o,none⟩ v) (c.setIfInBounds o v) e fr h1 (by simp;omega)
  refine⟨λk hk=>(i1 k hk).trans (h2 k hk),⟨c',i2,?_⟩,i4.trans (by simp[World.setCell]),i5,i6,i7⟩
  rw[i3]
  have ho:o<c.toList.length:=by simp;omega
  rw[Array.toList_setIfInBounds,List.take_set,List.drop_set_of_lt (by omega)]
  rw[qK ho,List.set_append_right _ _ (by rw[aN];omega)]
  have e1:o-(List.take o c.toList).length=0:=by rw[aN];omega
  rw[e1]
  simp only[qU,aM,aO,dN,bL]
  rw[show o+1+r.length=o+(r.length+1) by omega]
theorem tY{w:World}{p o:Nat}{ds es:List Value}(h:ri w p o ds)(he:es.length=ds.length):
 Upd w (w.setCells p o es) p o ds es/\(∀ k,k≠p->(w.setCells p o es).heap[k]?=w.heap[k]?)/\(w.setCells p o es).heap.size=w.heap.size/\(w.setCells p o es).os=w.os/\(w.setCells p o es).tape=w.tape/\(w.setCells p o es).output=w.output:=by
 obtain⟨c,e,hb,l,r,hc,hl⟩:=h
 have hlen:o+es.length<=c.size:=by
  have:c.toList.length=(l++ds++r).length:=by rw[hc]
  simp only[aW,aj]at this
  omega
 obtain⟨i1,⟨c',i2,i3⟩,i4,i5,i6,i7⟩:=dM p es o w c e.t (e.a,e.b) hb hlen
 refine⟨⟨c,c',e,l,r,hb,i2,hc,?_,hl⟩,i1,i4,i5,i6,i7⟩
 rw[i3,hc,<-hl]
 congr 1
 ·congr 1
  rw[aO,fJ (ar _),cE]
 ·rw[show l.length+es.length=(l++ds).length by rw[aj,he]]
  rw[gy (ar _),ff,bL]
theorem pe{P:Program}{w:World}{p o:Nat}{ds:List Value}(h:ri w p o ds){t:TypeId}{d:TD}(hd:TOk P t d){v:Value}{es:List Value}(hv:v.cells.toList=es)(hw:es.length=d.ty.width)(hl:es.length=ds.length)(h1:∀ u∈es,u.oneCell'=true):
 (Instr.storeAt t (.pointer (some ⟨p,o,none⟩)) v).run P w=.ok () (w.setCells p o es):=by
 obtain⟨c,e,hb,l,r,hc,hlo⟩:=h
 have hlen:o+es.length<=c.size:=by
  have:c.toList.length=(l++ds++r).length:=by rw[hc]
  simp only[aW,aj]at this
  omega
 have hst:=run_storeCells_cells (P:=P) p o es 0 w (λj hj=>by
  simp only[fN]
  simp[World.cell?,hb]
  omega)
  (λj hj=>by simp only[fN];exact Mark.frz (e:=e) hb rfl (by show o+j<c.size;omega)) h1
 have hsz:v.cells.size=d.ty.width:=by rw[<-aW,hv,hw]
 simp only[fN]at hst
 simp[Instr.storeAt,Instr.sureAddr,storeVar,run_sizeOf hd,hsz,hv,hst]
section
variable {P:Program} {B:dH} {F:af} {Sg:Nat->af} {cg:Nat->List Value} {σ:St} {a:Act} {w:World}
theorem aS.sF(h:aS B F Sg cg σ a w){w':World}(ho:w'.os=w.os)(ht:w'.tape=w.tape)(hou:w'.output=w.output)(hs:w.heap.size<=w'.heap.size){l:Nat}{b b':Lab}(hl:σ.L l=some b)
 (hb:∀ k,k<w.heap.size->¬Sg l k->w'.heap[k]?=w.heap[k]?) (hVR:∀ v,VR b.t (cg l) v->VR b'.t (cg l) v) (hRA:∀ π q,bg b'.t (cg l) none π=some q->bg b.t (cg l) none π=some q) (hv:b.v<b'.v) {F':af} (hFF:Sub F F') {S2:af} (bF:Rep F' w' b'.t b'.m b'.x (cg l) S2) (L':Nat->Option Lab) (hLl:L' l=some b') (hL:∀ j,j≠l->L' j=none\/L' j=σ.L j)
 (hF':∀ k,F' k->F k\/(w.heap.size<=k/\k<w'.heap.size/\¬S2 k))
 (hS2:∀ k,S2 k->Sg l k\/(∃ l2 b2,l2≠l/\σ.L l2=some b2/\L' l2=none/\Sg l2 k)\/(w.heap.size<=k/\k<w'.heap.size)):aS B F' (λj=>if j=l then S2 else Sg j) cg {σ with L:=L'} a w':=by
 have hLs:∀ j bj,j≠l->L' j=some bj->σ.L j=some bj:=λj bj hj hb=>by
  rcases hL j hj with e|e
  ·rw[e]at hb;cases hb
  ·rw[<-e];exact hb
 have hFw:∀ k,F k->w'.heap[k]?=w.heap[k]?:=λk hk=>hb k (h.fl k hk) (λhs=>h.eu l b hl k hs hk)
 have mP:∀ j bj,j≠l->σ.L j=some bj->∀ k,Sg j k->w'.heap[k]?=w.heap[k]?:=λj bj hj hbj k hk=>hb k (h.lt j bj hbj k hk) (λhs=>h.dis j l bj b hj hbj hl k hk hs)
 have tZ:∀ j bj,j≠l->L' j=some bj->Dis S2 (Sg j):=by
  intro j bj hj hbj k h2 hk
  have ib:=hLs j bj hj hbj
  rcases hS2 k h2 with h3|⟨l2,b2,hne,hb2,hn2,h3⟩|h3
  ·exact h.dis l j b bj (Ne.symm hj) hl ib k h3 hk
  ·by_cases e:l2=j
   ·subst e;rw[hn2]at hbj;cases hbj
   ·exact h.dis l2 j b2 bj e hb2 ib k h3 hk
  ·have:=h.lt j bj ib k hk;omega
 refine
 {fr:=⟨ho.trans h.fr.os,ht.trans h.fr.tape,hou.trans h.fr.output,bu h.fr.size hs,λk hk hn=>(hb k (bA hk h.fr.size) (λhsk=>hn (h.may l b hl k hsk hk))).trans (h.fr.block k hk hn)⟩
  size:=h.size
  defers:=h.defers
  f0:=h.f0.trans hFF
  fl:=λk hk=>by
   rcases hF' k hk with hk|hk
   ·exact bA (h.fl k hk) hs
   ·exact hk.2.1
  fs:=λk hk h1 h2=>by
   rcases hF' k hk with hk|hk
   ·exact h.fs k hk h1 h2
   ·have:=h.fr.size;omega
  lab:=?_
  dis:=?_
  eu:=?_
  lt:=?_
  may:=?_
  used:=?_
  fix:=λl' cs' hf=>⟨(h.fix l' cs' hf).1,λb2 hb2=>by
   by_cases e:l'=l
   ·subst e;exact(h.fix l' cs' hf).2 b hl
   ·exact(h.fix l' cs' hf).2 b2 (hLs l' b2 e hb2)⟩
  ent:=?_}
 ·intro j bj hbj
  by_cases hj:j=l
  ·subst hj;simp only at hbj;rw[hLl]at hbj;injection hbj with hbj;subst hbj;rw[if_pos rfl];exact bF
  ·simp only[if_neg hj];exact aX hFF hFw _ _ _ _ _ _ (h.lab j bj (hLs j bj hj hbj)) (Sub.refl _) (mP j bj hj (hLs j bj hj hbj))
 ·intro i j bi bj hij hbi hbj
  simp only at hbi hbj
  by_cases hi:i=l
  ·subst hi;rw[if_pos rfl,if_neg (Ne.symm hij)];exact tZ j bj (Ne.symm hij) hbj
  ·by_cases hj:j=l
   ·subst hj;rw[if_neg hi,if_pos rfl];exact(tZ i bi hi hbi).symm
   ·rw[if_neg hi,if_neg hj];exact h.dis i j bi bj hij (hLs i bi hi hbi) (hLs j bj hj hbj)
 ·intro j bj hbj
  simp only at hbj
  by_cases hj:j=l
  ·subst hj;rw[if_pos rfl]
   intro k h2 hf
   rcases hF' k hf with hf|hf
   ·rcases hS2 k h2 with h3|⟨l2,b2,hne,hb2,hn2,h3⟩|h3
    ·exact h.eu _ b hl k h3 hf
    ·exact h.eu l2 b2 hb2 k h3 hf
    ·have:=h.fl k hf;omega
   ·exact hf.2.2 h2
  ·rw[if_neg hj]
   intro k hk hf
   rcases hF' k hf with hf|hf
   ·exact h.eu j bj (hLs j bj hj hbj) k hk hf
   ·have:=h.lt j bj (hLs j bj hj hbj) k hk;omega
 ·intro j bj hbj k hk
  simp only at hbj
  by_cases hj:j=l
  ·subst hj;rw[if_pos rfl]at hk
   rcases hS2 k hk with h3|⟨l2,b2,hne,hb2,hn2,h3⟩|h3
   ·exact bA (h.lt _ b hl k h3) hs
   ·exact bA (h.lt l2 b2 hb2 k h3) hs
   ·exact h3.2
  ·rw[if_neg hj]at hk;exact bA (h.lt j bj (hLs j bj hj hbj) k hk) hs
 ·intro j bj hbj k hk hlt
  simp only at hbj
  by_cases hj:j=l
  ·subst hj;rw[if_pos rfl]at hk
   rcases hS2 k hk with h3|⟨l2,b2,hne,hb2,hn2,h3⟩|h3
   ·exact h.may _ b hl k h3 hlt
   ·exact h.may l2 b2 hb2 k h3 hlt
   ·have:=h.fr.size;omega
  ·rw[if_neg hj]at hk;exact h.may j bj (hLs j bj hj hbj) k hk hlt
 ·intro j bj hbj
  simp only at hbj |-
  by_cases hj:j=l
  ·subst hj;exact h.used _ b hl
  ·exact h.used j bj (hLs j bj hj hbj)
 ·intro t e he
  refine(h.ent t e he).imp λe v hv=>?_
  cases e with
  |val t x=>
   obtain⟨cs,h1,h2⟩:=hv
   exact⟨cs,aX hFF hFw t .ro x cs _ _ h1 (Sub.refl _) (λ_ h=>h.elim),h2⟩
  |cst u=>exact hv
  |view j te lo hi=>
   refine⟨hv.1,λbj hbj=>?_⟩
   have hbj:L' j=some bj:=hbj
   by_cases hj:j=l
   ·subst hj;exact hv.2 b hl
   ·exact hv.2 bj (hLs j bj hj hbj)
  |li t x=>
   obtain⟨ad,ds,h1,h2,h3,h4⟩:=hv
   exact⟨ad,ds,h1,hFF _ h2,h3.congr (hFw _ h2),aX hFF hFw t .ro x ds _ _ h4 (Sub.refl _) (λ_ h=>h.elim)⟩
  |hdr j n π c=>
   refine⟨hv.1,λbj hbj=>?_⟩
   have hbj:L' j=some bj:=hbj
   by_cases hj:j=l
   ·subst hj
    rw[hLl]at hbj;injection hbj with hbj;subst hbj
    obtain⟨h0,h1,h2⟩:=hv.2 b hl
    exact⟨by omega,λhp=>hVR _ (h1 hp),λhn=>by omega⟩
   ·have ib:=hLs j bj hj hbj
    obtain⟨h0,h1,h2⟩:=hv.2 bj ib
    refine⟨h0,h1,λhn=>?_⟩
    obtain⟨h3,h4,h5⟩:=h2 hn
    refine⟨h3,h4,?_⟩
    rw[resolve_congr π bj.t bj.m bj.x (cg j) (Sg j) none (h.lab j bj ib) h3 (by rw[h4];rfl) (mP j bj hj ib)]
    exact h5
  |adr j n π c=>
   refine⟨hv.1,λbj hbj=>?_⟩
   have hbj:L' j=some bj:=hbj
   by_cases hj:j=l
   ·subst hj
    rw[hLl]at hbj;injection hbj with hbj;subst hbj
    obtain⟨h0,h1,h2⟩:=hv.2 b hl
    exact⟨by omega,λhp p o hr=>h1 hp p o (hRA _ _ hr),λhn=>by omega⟩
   ·have ib:=hLs j bj hj hbj
    obtain⟨h0,h1,h2⟩:=hv.2 bj ib
    refine⟨h0,h1,λhn=>?_⟩
    obtain⟨h3,h4,h5⟩:=h2 hn
    refine⟨h3,h4,?_⟩
    rw[resolve_congr π bj.t bj.m bj.x (cg j) (Sg j) none (h.lab j bj ib) h3 (by rw[h4];rfl) (mP j bj hj ib)]
    exact h5
end
section
variable {P:Program} {B:dH} {F:af} {Sg:Nat->af} {cg:Nat->List Value} {σ:St} {a:Act} {w:World}
theorem aS.jU(h:aS B F Sg cg σ a w){w':World}(ho:w'.os=w.os)(ht:w'.tape=w.tape)(hou:w'.output=w.output)(hs:w.heap.size<=w'.heap.size){l:Nat}{b:Lab}(hU:σ.U l=false)(L':Nat->Option Lab)
 (hb:∀ k,k<w.heap.size->¬(∃ l2 b2,σ.L l2=some b2/\L' l2=none/\Sg l2 k)->w'.heap[k]?=w.heap[k]?) {cs:List Value} {S2:af} (bF:Rep F w' b.t b.m b.x cs S2) (hLl:L' l=some b) (hL:∀ j,j≠l->L' j=none\/L' j=σ.L j)
 (hS2:∀ k,S2 k->(∀ j bj,j≠l->L' j=some bj->¬Sg j k)/\¬F k/\k<w'.heap.size/\(k<B.w0.heap.size->B.S0 k)):
 aS B F (λj=>if j=l then S2 else Sg j) (λj=>if j=l then cs else cg j) {σ with L:=L',U:=λj=>Nat.beq j l||σ.U j} a w':=by
 have hLn:σ.L l=none:=by
  cases hl:σ.L l with
  |none=>rfl
  |some b=>have:=h.used l b hl;rw[hU]at this;cases this
 have hLs:∀ j bj,j≠l->L' j=some bj->σ.L j=some bj:=λj bj hj hb=>by
  rcases hL j hj with e|e
  ·rw[e]at hb;cases hb
  ·rw[<-e];exact hb
 have hFw:∀ k,F k->w'.heap[k]?=w.heap[k]?:=λk hk=>hb k (h.fl k hk) (λ⟨l2,b2,h1,_,h3⟩=>h.eu l2 b2 h1 k h3 hk)
 have mP:∀ j bj,j≠l->L' j=some bj->∀ k,Sg j k->w'.heap[k]?=w.heap[k]?:=λj bj hj hbj k hk=>by
  have ib:=hLs j bj hj hbj
  refine hb k (h.lt j bj ib k hk) (λ⟨l2,b2,h1,h2,h3⟩=>?_)
  by_cases e:l2=j
  ·subst e;rw[h2]at hbj;cases hbj
  ·exact h.dis l2 j b2 bj e h1 ib k h3 hk
 have tZ:∀ j bj,j≠l->L' j=some bj->Dis S2 (Sg j):=by
  intro j bj hj hbj k h2 hk
  exact(hS2 k h2).1 j bj hj hbj hk
 refine
 {fr:=⟨ho.trans h.fr.os,ht.trans h.fr.tape,hou.trans h.fr.output,bu h.fr.size hs,λk hk hn=>(hb k (bA hk h.fr.size) (λ⟨l2,b2,h1,_,h3⟩=>hn (h.may l2 b2 h1 k h3 hk))).trans (h.fr.block k hk hn)⟩
  size:=h.size
  defers:=h.defers
  f0:=h.f0
  fl:=λk hk=>bA (h.fl k hk) hs
  fs:=h.fs
  lab:=?_
  dis:=?_
  eu:=?_
  lt:=?_
  may:=?_
  used:=?_
  fix:=λl' cs' hf=>by
   have hne:l'≠l:=λe=>by have:=(h.fix l' cs' hf).1.1;rw[e,hU]at this;cases this
   refine⟨⟨by simp[(h.fix l' cs' hf).1.1],(h.fix l' cs' hf).1.2⟩,λb2 hb2=>?_⟩
   simp only[if_neg hne]
   exact(h.fix l' cs' hf).2 b2 (hLs l' b2 hne hb2)
  ent:=?_}
 ·intro j bj hbj
  simp only at hbj
  by_cases hj:j=l
  ·subst hj;rw[hLl]at hbj;injection hbj with hbj;subst hbj;rw[if_pos rfl,if_pos rfl];exact bF
  ·rw[if_neg hj,if_neg hj];exact aX (Sub.refl _) hFw _ _ _ _ _ _ (h.lab j bj (hLs j bj hj hbj)) (Sub.refl _) (mP j bj hj hbj)
 ·intro i j bi bj hij hbi hbj
  simp only at hbi hbj
  by_cases hi:i=l
  ·subst hi;rw[if_pos rfl,if_neg (Ne.symm hij)];exact tZ j bj (Ne.symm hij) hbj
  ·by_cases hj:j=l
   ·subst hj;rw[if_neg hi,if_pos rfl];exact(tZ i bi hi hbi).symm
   ·rw[if_neg hi,if_neg hj];exact h.dis i j bi bj hij (hLs i bi hi hbi) (hLs j bj hj hbj)
 ·intro j bj hbj
  simp only at hbj
  by_cases hj:j=l
  ·subst hj;rw[if_pos rfl]
   intro k h2 hf
   exact(hS2 k h2).2.1 hf
  ·rw[if_neg hj];exact h.eu j bj (hLs j bj hj hbj)
 ·intro j bj hbj k hk
  simp only at hbj
  by_cases hj:j=l
  ·subst hj;rw[if_pos rfl]at hk
   exact(hS2 k hk).2.2.1
  ·rw[if_neg hj]at hk;exact bA (h.lt j bj (hLs j bj hj hbj) k hk) hs
 ·intro j bj hbj k hk hlt
  simp only at hbj
  by_cases hj:j=l
  ·subst hj;rw[if_pos rfl]at hk
   exact(hS2 k hk).2.2.2 hlt
  ·rw[if_neg hj]at hk;exact h.may j bj (hLs j bj hj hbj) k hk hlt
 ·intro j bj hbj
  simp only at hbj |-
  by_cases hj:j=l
  ·subst hj;simp[cX]
  ·rw[h.used j bj (hLs j bj hj hbj)];simp
 ·intro t e he
  refine(h.ent t e he).imp λe v hv=>?_
  have old:∀ j,σ.U j=true->j≠l:=λj hu e=>by subst e;rw[hU]at hu;cases hu
  cases e with
  |val t x=>
   obtain⟨cs,h1,h2⟩:=hv
   exact⟨cs,aX (Sub.refl _) hFw t .ro x cs _ _ h1 (Sub.refl _) (λ_ h=>h.elim),h2⟩
  |cst u=>exact hv
  |view j te lo hi=>
   have hj:=old j hv.1
   refine⟨by simp[hv.1],λbj hbj=>?_⟩
   have hbj:L' j=some bj:=hbj
   simp only[if_neg hj]
   exact hv.2 bj (hLs j bj hj hbj)
  |li t x=>
   obtain⟨ad,ds,h1,h2,h3,h4⟩:=hv
   exact⟨ad,ds,h1,h2,h3.congr (hFw _ h2),aX (Sub.refl _) hFw t .ro x ds _ _ h4 (Sub.refl _) (λ_ h=>h.elim)⟩
  |hdr j n π c=>
   have hj:=old j hv.1
   refine⟨by simp[hv.1],λbj hbj=>?_⟩
   have hbj:L' j=some bj:=hbj
   obtain⟨h0,h1,h2⟩:=hv.2 bj (hLs j bj hj hbj)
   simp only[if_neg hj]
   refine⟨h0,h1,λhn=>?_⟩
   obtain⟨h3,h4,h5⟩:=h2 hn
   refine⟨h3,h4,?_⟩
   rw[resolve_congr π bj.t bj.m bj.x (cg j) (Sg j) none (h.lab j bj (hLs j bj hj hbj)) h3 (by rw[h4];rfl) (mP j bj hj hbj)]
   exact h5
  |adr j n π c=>
   have hj:=old j hv.1
   refine⟨by simp[hv.1],λbj hbj=>?_⟩
   have hbj:L' j=some bj:=hbj
   obtain⟨h0,h1,h2⟩:=hv.2 bj (hLs j bj hj hbj)
   simp only[if_neg hj]
   refine⟨h0,h1,λhn=>?_⟩
   obtain⟨h3,h4,h5⟩:=h2 hn
   refine⟨h3,h4,?_⟩
   rw[resolve_congr π bj.t bj.m bj.x (cg j) (Sg j) none (h.lab j bj (hLs j bj hj hbj)) h3 (by rw[h4];rfl) (mP j bj hj hbj)]
   exact h5
theorem aS.freeze(h:aS B F Sg cg σ a w){l:Nat}{b:Lab}(hl:σ.L l=some b):aS B (F.or (Sg l)) Sg cg {σ with L:=upd σ.L l none} a w:=by
 have hLs:∀ j bj,upd σ.L l none j=some bj->j≠l/\σ.L j=some bj:=λj bj hb=>by
  rcases fD hb with⟨_,e⟩|e
  ·cases e
  ·exact e
 have hF:Sub F (F.or (Sg l)):=λk h=>.inl h
 refine
 {fr:=h.fr
  size:=h.size
  defers:=h.defers
  f0:=h.f0.trans hF
  fl:=λk hk=>hk.elim (h.fl k) (h.lt l b hl k)
  fs:=λk hk h1 h2=>hk.elim (λhk=>h.fs k hk h1 h2) (λhk=>absurd (h.may l b hl k hk h1) h2)
  lab:=λj bj hbj=>aX hF (λ_ _=>rfl) _ _ _ _ _ _ (h.lab j bj (hLs j bj hbj).2) (Sub.refl _) (λ_ _=>rfl)
  dis:=λi j bi bj hij hbi hbj=>h.dis i j bi bj hij (hLs i bi hbi).2 (hLs j bj hbj).2
  eu:=λj bj hbj k hk hf=>hf.elim (h.eu j bj (hLs j bj hbj).2 k hk) (λhf=>h.dis j l bj b (hLs j bj hbj).1 (hLs j bj hbj).2 hl k hk hf)
  lt:=λj bj hbj=>h.lt j bj (hLs j bj hbj).2
  may:=λj bj hbj=>h.may j bj (hLs j bj hbj).2
  used:=λj bj hbj=>h.used j bj (hLs j bj hbj).2
  fix:=λj cs' hf=>⟨(h.fix j cs' hf).1,λb2 hb2=>(h.fix j cs' hf).2 b2 (hLs j b2 hb2).2⟩
  ent:=?_}
 intro t e he
 refine(h.ent t e he).imp λe v hv=>?_
 cases e with
 |val t x=>obtain⟨cs,h1,h2⟩:=hv;exact⟨cs,aX hF (λ_ _=>rfl) t .ro x cs _ _ h1 (Sub.refl _) (λ_ h=>h.elim),h2⟩
 |cst u=>exact hv
 |li t x=>obtain⟨ad,ds,h1,h2,h3,h4⟩:=hv;exact⟨ad,ds,h1,.inl h2,h3,aX hF (λ_ _=>rfl) t .ro x ds _ _ h4 (Sub.refl _) (λ_ h=>h.elim)⟩
 |hdr j n π c=>exact⟨hv.1,λbj hbj=>hv.2 bj (hLs j bj hbj).2⟩
 |adr j n π c=>exact⟨hv.1,λbj hbj=>hv.2 bj (hLs j bj hbj).2⟩
 |view j te lo hi=>exact⟨hv.1,λbj hbj=>hv.2 bj (hLs j bj hbj).2⟩
def zM:Ty->Md
 |.sl _=>.own .ro
 |.pair a b=>.pr (zM a) (zM b)
 |.st t=>zM t
 |.ptr _=>.own .ro
 |_=>.ro
theorem xF:∀ (t:Ty),okM t (zM t)=true:=by
 intro t
 induction t with
 |pair a b iha ihb=>simp[okM,zM,Md.fst,Md.snd,iha,ihb]
 |st t ih=>exact ih
 |arr n t ih=>exact Cc t
 |_=>rfl
def ua(e:aq)(u:Ty):Md:=match e with|.cst _=>zM u|_=>.ro
theorem pN{R:Type}{L:Nat->Option Lab}{U:Nat->Bool}{e:aq}{want:Ty}{K:want.T->Option R}{r:R}(h:asT e want K=some r){v:Value}(he:aE F w L U cg e v):
 ∃ x cs,K x=some r/\Rep F w want (ua e want) x cs af.none/\VR want cs v:=by
 unfold asT at h
 split at h
 ·rename_i t x
  split at h
  ·rename_i ht
   subst ht
   obtain⟨cs,h1,h2⟩:=he
   exact⟨x,cs,h,h1,h2⟩
  ·cases h
 ·rename_i u
  have hv:v=u:=he
  subst hv
  cases hb:vrC want v
  ·rw[hb]at h;cases h
  ·rw[hb]at h
   simp only[cond_true]at h
   cases hc:rdC want v.cells.toList with
   |none=>rw[hc]at h;cases h
   |some x=>rw[hc]at h;exact⟨x,_,h,tS _ _ _ _ (by unfold ua;exact xF _) hc,HV hb⟩
 ·cases h
theorem pO:∀ (π:List Stp) (t:Ty) (m m' r:Md),gp t m π m'=some r->pJ t m π m' r:=by
 intro π
 induction π with
 |nil=>intro t m m' r h;cases t <;> (simp only[gp,bn]at h;exact h.symm)
 |cons p π ih=>
  intro t m m' r h
  cases t <;> cases p <;> simp only[gp,reduceCtorEq]at h <;> simp only[pJ]
  case st.st=>exact ih _ _ _ _ h
  case pair.fst=>
   split at h
   ·rename_i q hq
    injection h with h
    refine⟨q,ih _ _ _ _ hq,?_⟩
    split at h
    ·rename_i hq2;exact .inl ⟨h.symm,hq2⟩
    ·exact .inr h.symm
   ·cases h
  case pair.snd=>
   split at h
   ·rename_i q hq
    injection h with h
    refine⟨q,ih _ _ _ _ hq,?_⟩
    split at h
    ·rename_i hq2;exact .inl ⟨h.symm,hq2⟩
    ·exact .inr h.symm
   ·cases h
  case sl.idx=>
   split at h
   ·split at h
    ·rename_i q hq
     split at h
     ·rename_i hq2;subst hq2;injection h with h;exact⟨_,rfl,ih _ _ _ _ hq,h.symm⟩
     ·cases h
    ·cases h
   ·cases h
  case arr.ai=>
   split at h
   ·rename_i q hq
    split at h
    ·rename_i hq2;injection h with h;exact⟨by have:=ih _ _ _ _ hq;rw[hq2]at this;exact this,h.symm⟩
    ·cases h
   ·cases h
  case box.deref=>
   split at h
   ·split at h
    ·rename_i q hq;injection h with h;exact⟨_,_,rfl,ih _ _ _ _ hq,h.symm⟩
    ·cases h
   ·cases h
  case ptr.deref=>
   split at h
   ·split at h
    ·rename_i q hq;injection h with h;exact⟨_,_,rfl,ih _ _ _ _ hq,h.symm⟩
    ·cases h
   ·cases h
def St.jV(σ:St)(L:Nat->Option Lab):St:={σ with L:=L}
def lQ{R:Type}(d:TD)(σ:St)(ep ev:aq)(K:St->Option R):Option R:=
 plc σ ep λl b π c=>
  bif decide (c.t=d.ty)&&c.t.vty then
   (match ev with
   |.hdr l2 _ π2 _=>bif π2.isEmpty&&!(Nat.beq l l2)then(match σ.L l2 with
    |some b2=>match gp b.t b.m π b2.m with
     |some mr=>iB b.t b.x π b2.t b2.x λx'=>bif decide (b2.t=c.t)then K (σ.jV (upd (upd σ.L l2 none) l (some ⟨b.v+1,b.t,mr,x'⟩)))else none
     |none=>none
    |none=>none)else none
   |ev=>asT ev c.t λy=>match gp b.t b.m π (bif c.t.flat then atM b.t b.m π else ua ev c.t)with
    |some mr=>iB b.t b.x π c.t y λx'=>K (σ.jV (upd σ.L l (some ⟨b.v+1,b.t,mr,x'⟩)))
    |none=>none)
  else none
theorem FB(h:aS B F Sg cg σ a w){R:Type}{t:TypeId}{d:TD}(hd:TOk P t d){ep ev:aq}{K:St->Option R}{r:R}(hk:lQ d σ ep ev K=some r){vp v:Value}(hp:aE F w σ.L σ.U cg ep vp)(hv:aE F w σ.L σ.U cg ev v):
 ∃ σ' w' Sg',K σ'=some r/\(Instr.storeAt t vp v).run P w=.ok () w'/\aS B F Sg' cg σ' a w'/\σ'.E=σ.E:=by
 unfold lQ at hk
 obtain⟨l,b,π,c,hl,hk,hc,hg,ho,ds,p,o,S',rfl,h1,h2,h3,h4⟩:=rm h hk hp
 cases hud:decide (c.t=d.ty)&&c.t.vty
 ·rw[hud]at hk;cases hk
 rw[hud]at hk
 simp only[cond_true]at hk
 simp only[ag,decide_eq_true_eq]at hud
 obtain⟨hct,hvt⟩:=hud
 obtain⟨hSp,hnp,fC,lM⟩:=h4
 have hdl:=aT _ _ _ _ _ _ _ h2
 -- the Qf end
 have fin:∀ (es:List Value) (y:c.t.T) (m' mr:Md) (x':b.t.T) (Rw:af) (L':Nat->Option Lab),Rep F w c.t m' y es Rw->VR c.t es v->pJ b.t b.m π m' mr->ji b.t b.x π c.t y=some x'->
  (∀ k,Rw k->∃ l2 b2,l2≠l/\σ.L l2=some b2/\L' l2=none/\Sg l2 k)->L' l=some ⟨b.v+1,b.t,mr,x'⟩->(∀ j,j≠l->L' j=none\/L' j=σ.L j)->
  ∃ w' Sg',(Instr.storeAt t (.pointer (some ⟨p,o,none⟩)) v).run P w=.ok () w'/\aS B F Sg' cg (σ.jV L') a w':=by
  intro es y m' mr x' Rw L' hy hv hM dv hR hLl hL
  have hel:=aT _ _ _ _ _ _ _ hy
  have ub:es.length=ds.length:=by rw[hel,hdl]
  obtain⟨u1,u2,u3,u4,u5,u6⟩:=tY fC ub
  have bV:=pe fC hd hv.cells (by rw[hel,hct]) ub (pK _ _ _ _ _ hy)
  have hRp:¬Rw p:=λhrp=>by
   obtain⟨l2,b2,hne,hb2,_,hk2⟩:=hR p hrp
   exact h.dis l2 l b2 b hne hb2 hl p hk2 hSp
  have hFp:∀ k,F k->k≠p:=λk hk e=>h.eu l b hl p hSp (e ▸ hk)
  have hy':Rep F (w.setCells p o es) c.t m' y es Rw:=aX (Sub.refl _) (λk hk=>u2 k (hFp k hk)) _ _ _ _ _ _ hy (Sub.refl _) (λk hk=>u2 k (λe=>hRp (e ▸ hk)))
  have bF:=lM F (w.setCells p o es) y es Rw x' m' mr hM (Sub.refl _) dv hy' ub
   (λk hk hs=>by obtain⟨l2,b2,hne,hb2,_,hk2⟩:=hR k hk;exact(h.dis l2 l b2 b hne hb2 hl k hk2 hs).elim)
   (λk _ _ hne=>u2 k hne) u1 (λk hk=>u2 k (hFp k hk))
  refine⟨_,_,bV,h.sF u4 u5 u6 (by rw[u3];exact ar _) hl (λk _ hn=>u2 k (λe=>hn (e ▸ hSp))) (b':=⟨b.v+1,b.t,mr,x'⟩) (λ_ h=>h) (λ_ _ h=>h) (cF _) (Sub.refl _) bF L' hLl hL (λk hk=>.inl hk) (λk hk=>?_)⟩
  rcases hk with hk|hk
  ·exact .inl hk.1
  ·exact .inr (.inl (hR k hk))
 split at hk
 ·rename_i l2 n2 π2 c2 _hk0
  cases hb:π2.isEmpty&&!(Nat.beq l l2)
  ·rw[hb]at hk;cases hk
  rw[hb]at hk
  simp only[cond_true]at hk
  simp only[ag,bx]at hb
  have hp2:π2=[]:=by cases π2 <;> simp_all
  subst hp2
  have hne:l≠l2:=λe=>by subst e;simp[cX]at hb
  cases hl2:σ.L l2 with
  |none=>rw[hl2]at hk;cases hk
  |some b2=>
  rw[hl2]at hk
  simp only at hk
  cases hM:gp b.t b.m π b2.m with
  |none=>rw[hM]at hk;cases hk
  |some mr=>
  rw[hM]at hk
  simp only at hk
  rw[iO]at hk
  obtain⟨x',dv,hk'⟩:=cf.1 hk
  cases hud:decide (b2.t=c.t)
  ·rw[hud]at hk';cases hk'
  rw[hud]at hk'
  simp only[cond_true]at hk'
  have hud:=of_decide_eq_true hud
  have hv2:=(hv.2 b2 hl2).2.1 rfl
  have mE:=h.lab l2 b2 hl2
  obtain⟨v2,t2,m2,x2⟩:=b2
  simp only at hud hM dv hv2 mE
  subst hud
  obtain⟨w',Sg',e1,e2⟩:=fin (cg l2) x2 m2 mr x' (Sg l2) (upd (upd σ.L l2 none) l (some ⟨b.v+1,b.t,mr,x'⟩)) mE hv2 (pO _ _ _ _ _ hM) dv
   (λk hk=>⟨l2,_,Ne.symm hne,hl2,by rw[aR _ _ (Ne.symm hne),aF],hk⟩) (aF _ _ _)
   (λj hj=>by
    rw[aR _ _ hj]
    by_cases e:j=l2
    ·subst e;rw[aF];exact .inl rfl
    ·rw[aR _ _ e];exact .inr rfl)
  exact⟨_,w',Sg',hk',e1,e2,rfl⟩
 ·skip
  obtain⟨y,es,hk,hy,hvr⟩:=pN hk hv
  cases hM:gp b.t b.m π (bif c.t.flat then atM b.t b.m π else ua ev c.t)with
  |none=>rw[hM]at hk;cases hk
  |some mr=>
  rw[hM]at hk
  simp only at hk
  rw[iO]at hk
  obtain⟨x',dv,hk⟩:=cf.1 hk
  have hy':Rep F w c.t (bif c.t.flat then atM b.t b.m π else ua ev c.t) y es af.none:=by
   cases hf:c.t.flat
   ·exact hy
   ·exact lh _ hf _ _ _ _ _ _ hy
  obtain⟨w',Sg',e1,e2⟩:=fin es y _ mr x' af.none (upd σ.L l (some ⟨b.v+1,b.t,mr,x'⟩)) hy' hvr (pO _ _ _ _ _ hM) dv (λk hk=>hk.elim) (aF _ _ _) (λj hj=>by rw[aR _ _ hj];exact .inr rfl)
  exact⟨_,w',Sg',hk,e1,e2,rfl⟩
end
def cP:(t:Ty)->t.T->List Stp->V->Option V
 |_,_,[],c=>some c
 |.st t,x,.st::π,c=>match cP t x π c with|some v=>some ⟨.st v.t,v.x⟩|none=>none
 |.pair a b,x,.fst::π,c=>match cP a x.1 π c with|some v=>some ⟨.pair v.t b,(v.x,x.2)⟩|none=>none
 |.pair a b,x,.snd::π,c=>match cP b x.2 π c with|some v=>some ⟨.pair a v.t,(x.1,v.x)⟩|none=>none
 |.box t,x,.deref::π,c=>match cP t x π c with|some v=>some ⟨.box v.t,v.x⟩|none=>none
 |_,_,_::_,_=>none
def fW:Md->List Stp->Md->Md
 |_,[],m'=>m'
 |m,.st::π,m'=>fW m π m'
 |m,.fst::π,m'=>.pr (fW m.fst π m') m.snd
 |m,.snd::π,m'=>.pr m.fst (fW m.snd π m')
 |m,.deref::π,m'=>.own (fW m.el π m')
 |m,_::_,_=>m
def Vm(F:af)(w:World)(t:Ty)(m:Md)(x:t.T)(cs:List Value)(S:af)(s:Option (Nat×Nat))(π:List Stp)(ds:List Value)(s':Option (Nat×Nat))(S':af):Prop:=
 (∃ pre post,cs=pre++ds++post/\s'=s.map (λp=>(p.1,p.2+pre.length))/\
  ∀ F' w' (c:V) es R v' m',cP t x π c=some v'->Sub F F'->Rep F' w' c.t m' c.x es R->es.length=ds.length->(∀ k,R k->S k->S' k)->
   (∀ k,S k->¬S' k->w'.heap[k]?=w.heap[k]?)->(∀ k,F k->w'.heap[k]?=w.heap[k]?)->
   Rep F' w' v'.t (fW m π m') v'.x (pre++es++post) (λk=>(S k/\¬S' k)\/R k))\/
 (∃ b o,s'=some (b,o)/\S b/\¬S' b/\ri w b o ds/\
  ∀ F' w' (c:V) es R v' m',cP t x π c=some v'->Sub F F'->Rep F' w' c.t m' c.x es R->es.length=ds.length->(∀ k,R k->S k->S' k)->
   (∀ k,S k->¬S' k->k≠b->w'.heap[k]?=w.heap[k]?)->Upd w w' b o ds es->(∀ k,F k->w'.heap[k]?=w.heap[k]?)->
   Rep F' w' v'.t (fW m π m') v'.x cs (λk=>(S k/\¬S' k)\/R k))
theorem H5(F:af)(w:World):∀ (π:List Stp) (t:Ty) (m:Md) (x:t.T) (cs:List Value) (S:af) (s:Option (Nat×Nat)) (c:V),
 Rep F w t m x cs S->get? t x π=some c->dy t m π=true->(∃ c' v,cP t x π c'=some v)->
 ∃ ds s' S',resolve w t cs s π=some (ds,s')/\Rep F w c.t (atM t m π) c.x ds S'/\Sub S' S/\Vm F w t m x cs S s π ds s' S':=by
 intro π
 induction π with
 |nil=>
  intro t m x cs S s c h hg _ _
  rw[eY]at hg
  injection hg with hg
  subst hg
  refine⟨cs,s,S,eR _ _ _ _,?_,Sub.refl _,.inl ⟨[],[],by simp,?_,?_⟩⟩
  ·cases t <;> exact h
  ·cases s <;> rfl
  ·intro F' w' c es R v' m' hs _ hy _ _ _ _
   have hx:v'=c:=by cases t <;> (simp only[cP,bn]at hs;exact hs.symm)
   subst hx
   have hm:fW m [] m'=m':=by cases m <;> rfl
   rw[hm]
   simp only[bL,b9]
   exact tP hy (λk h=>Or.inr h)
 |cons p0 π ih=>
  intro t m x cs S s c h hg ho hx
  unfold get? at hg
  obtain⟨c0,v0,hx⟩:=hx
  cases t <;> cases p0 <;> simp only[fA,reduceCtorEq]at hg <;> simp only[cP,reduceCtorEq]at hx
  case st.st t=>
   simp only[dy]at ho
   have hx':∃ c' v,cP t x π c'=some v:=by
    split at hx
    ·exact⟨_,_,by assumption⟩
    ·cases hx
   obtain⟨ds,s',S',h1,h2,h3,h4⟩:=ih t m x cs S s c h hg ho hx'
   refine⟨ds,s',S',h1,h2,h3,?_⟩
   have key:∀ {c:V} {v':V},cP (.st t) x (.st::π) c=some v'->∃ v,cP t x π c=some v/\v'=⟨.st v.t,v.x⟩:=by
    intro c v' hs
    simp only[cP]at hs
    split at hs
    ·rename_i v hv;injection hs with hs;exact⟨v,hv,hs.symm⟩
    ·cases hs
   rcases h4 with⟨pre,post,e1,e2,w2⟩|⟨b,o,e1,e2,e3,e4,w2⟩
   ·refine .inl ⟨pre,post,e1,e2,?_⟩
    intro F' w' c es R v' m' hs hF hy he hR hS hFw
    obtain⟨v,hv,rfl⟩:=key hs
    exact w2 F' w' c es R v m' hv hF hy he hR hS hFw
   ·refine .inr ⟨b,o,e1,e2,e3,e4,?_⟩
    intro F' w' c es R v' m' hs hF hy he hR hS hU hFw
    obtain⟨v,hv,rfl⟩:=key hs
    exact w2 F' w' c es R v m' hv hF hy he hR hS hU hFw
  case pair.fst a b=>
   obtain⟨c1,c2,S1,S2,rfl,h1,h2,s1,s2,d⟩:=h
   simp only[dy]at ho
   have hx':∃ c' v,cP a x.1 π c'=some v:=by
    split at hx
    ·exact⟨_,_,by assumption⟩
    ·cases hx
   have hcl:=aT _ _ _ _ _ _ _ h1
   obtain⟨ds,s',S',cq,bF,s3,gd⟩:=ih a m.fst x.1 c1 S1 s c h1 hg ho hx'
   have key:∀ {c:V} {v':V},cP (.pair a b) x (.fst::π) c=some v'->∃ v,cP a x.1 π c=some v/\v'=⟨.pair v.t b,(v.x,x.2)⟩:=by
    intro c v' hs
    simp only[cP]at hs
    split at hs
    ·rename_i v hv;injection hs with hs;exact⟨v,hv,hs.symm⟩
    ·cases hs
   refine⟨ds,s',S',?_,bF,s3.trans s1,?_⟩
   ·simp only[resolve];rw[eU hcl];exact cq
   ·rcases gd with⟨eC,dq,rfl,rfl,w2⟩|⟨b2,o2,rfl,hb2,rj,hl2,w2⟩
    ·refine .inl ⟨eC,dq++c2,by simp,rfl,?_⟩
     intro F' w' c es R v' m' hs hF hy he hR hS hFw
     obtain⟨z,hz,rfl⟩:=key hs
     refine⟨eC++es++dq,c2,λk=>(S1 k/\¬S' k)\/R k,S2,by simp,?_,?_,?_,?_,?_⟩
     ·exact w2 F' w' c es R z m' hz hF hy he (λk a b=>hR k a (s1 k b)) (λk a b=>hS k (s1 k a) b) hFw
     ·exact aX hF hFw _ _ _ _ _ _ h2 (Sub.refl _) (λk hk=>hS k (s2 k hk) (λh'=>d k (s3 k h') hk))
     ·exact λk hk=>hk.imp (λh=>⟨s1 k h.1,h.2⟩) id
     ·exact λk hk=>.inl ⟨s2 k hk,λh'=>d k (s3 k h') hk⟩
     ·exact λk a b=>a.elim (λa=>d k a.1 b) (λa=>d k (s3 k (hR k a (s2 k b))) b)
    ·refine .inr ⟨b2,o2,rfl,s1 _ hb2,rj,hl2,?_⟩
     intro F' w' c es R v' m' hs hF hy he hR hS hU hFw
     obtain⟨z,hz,rfl⟩:=key hs
     refine⟨c1,c2,λk=>(S1 k/\¬S' k)\/R k,S2,rfl,?_,?_,?_,?_,?_⟩
     ·exact w2 F' w' c es R z m' hz hF hy he (λk a b=>hR k a (s1 k b)) (λk a b c=>hS k (s1 k a) b c) hU hFw
     ·exact aX hF hFw _ _ _ _ _ _ h2 (Sub.refl _) (λk hk=>hS k (s2 k hk) (λh'=>d k (s3 k h') hk) (λe=>d k (e ▸ hb2) hk))
     ·exact λk hk=>hk.imp (λh=>⟨s1 k h.1,h.2⟩) id
     ·exact λk hk=>.inl ⟨s2 k hk,λh'=>d k (s3 k h') hk⟩
     ·exact λk a b=>a.elim (λa=>d k a.1 b) (λa=>d k (s3 k (hR k a (s2 k b))) b)
  case pair.snd a b=>
   obtain⟨c1,c2,S1,S2,rfl,h1,h2,s1,s2,d⟩:=h
   simp only[dy]at ho
   have hx':∃ c' v,cP b x.2 π c'=some v:=by
    split at hx
    ·exact⟨_,_,by assumption⟩
    ·cases hx
   have hcl:=aT _ _ _ _ _ _ _ h1
   obtain⟨ds,s',S',cq,bF,s3,gd⟩:=ih b m.snd x.2 c2 S2 (s.map λp=>(p.1,p.2+a.width)) c h2 hg ho hx'
   have key:∀ {c:V} {v':V},cP (.pair a b) x (.snd::π) c=some v'->∃ v,cP b x.2 π c=some v/\v'=⟨.pair a v.t,(x.1,v.x)⟩:=by
    intro c v' hs
    simp only[cP]at hs
    split at hs
    ·rename_i v hv;injection hs with hs;exact⟨v,hv,hs.symm⟩
    ·cases hs
   refine⟨ds,s',S',?_,bF,s3.trans s2,?_⟩
   ·simp only[resolve];rw[iC hcl];exact cq
   ·rcases gd with⟨eC,dq,rfl,rfl,w2⟩|⟨b2,o2,rfl,hb2,rj,hl2,w2⟩
    ·refine .inl ⟨c1++eC,dq,by simp,?_,?_⟩
     ·cases s with
      |none=>rfl
      |some p=>simp[hcl,cG]
     intro F' w' c es R v' m' hs hF hy he hR hS hFw
     obtain⟨z,hz,rfl⟩:=key hs
     refine⟨c1,eC++es++dq,S1,λk=>(S2 k/\¬S' k)\/R k,by simp,?_,?_,?_,?_,?_⟩
     ·exact aX hF hFw _ _ _ _ _ _ h1 (Sub.refl _) (λk hk=>hS k (s1 k hk) (λh'=>d k hk (s3 k h')))
     ·exact w2 F' w' c es R z m' hz hF hy he (λk a b=>hR k a (s2 k b)) (λk a b=>hS k (s2 k a) b) hFw
     ·exact λk hk=>.inl ⟨s1 k hk,λh'=>d k hk (s3 k h')⟩
     ·exact λk hk=>hk.imp (λh=>⟨s2 k h.1,h.2⟩) id
     ·exact λk a b=>b.elim (λb=>d k a b.1) (λb=>d k a (s3 k (hR k b (s1 k a))))
    ·refine .inr ⟨b2,o2,rfl,s2 _ hb2,rj,hl2,?_⟩
     intro F' w' c es R v' m' hs hF hy he hR hS hU hFw
     obtain⟨z,hz,rfl⟩:=key hs
     refine⟨c1,c2,S1,λk=>(S2 k/\¬S' k)\/R k,rfl,?_,?_,?_,?_,?_⟩
     ·exact aX hF hFw _ _ _ _ _ _ h1 (Sub.refl _) (λk hk=>hS k (s1 k hk) (λh'=>d k hk (s3 k h')) (λe=>d k hk (e ▸ hb2)))
     ·exact w2 F' w' c es R z m' hz hF hy he (λk a b=>hR k a (s2 k b)) (λk a b c=>hS k (s2 k a) b c) hU hFw
     ·exact λk hk=>.inl ⟨s1 k hk,λh'=>d k hk (s3 k h')⟩
     ·exact λk hk=>hk.imp (λh=>⟨s2 k h.1,h.2⟩) id
     ·exact λk a b=>b.elim (λb=>d k a b.1) (λb=>d k a (s3 k (hR k b (s1 k a))))
  case box.deref t=>
   simp only[dy,ag]at ho
   have hx':∃ c' v,cP t x π c'=some v:=by
    split at hx
    ·exact⟨_,_,by assumption⟩
    ·cases hx
   cases m with
   |ro=>simp[Md.eX]at ho
   |pr _ _=>simp[Md.eX]at ho
   |own m=>
    obtain⟨p,cc,e,rfl,hb,hS0,S1,hr,s1,n1⟩:=h
    have hcl:=aT F w t m x _ _ hr
    have fC:ri w p 0 cc.toList:=⟨cc,e,hb,[],[],by simp,rfl⟩
    obtain⟨ds,s',S',cq,bF,s2,gd⟩:=ih t m x cc.toList S1 (some (p,0)) c hr hg ho.2 hx'
    have hcc:=fP fC
    rw[hcl]at hcc
    have np:¬S' p:=λh'=>n1 (s2 p h')
    have key:∀ {c:V} {v':V},cP (.box t) x (.deref::π) c=some v'->∃ v,cP t x π c=some v/\v'=⟨.box v.t,v.x⟩:=by
     intro c v' hs
     simp only[cP]at hs
     split at hs
     ·rename_i v hv;injection hs with hs;exact⟨v,hv,hs.symm⟩
     ·cases hs
    refine⟨ds,s',S',by simp only[resolve];rw[hcc];exact cq,bF,s2.trans s1,?_⟩
    rcases gd with⟨eC,dq,hc2,rfl,w2⟩|⟨b2,o2,rfl,hb2,rj,hl2,w2⟩
    ·refine .inr ⟨p,0+eC.length,rfl,hS0,np,⟨cc,e,hb,eC,dq,hc2,by simp⟩,?_⟩
     intro F' w' c es R v' m' hs hF hy he hR hk hU hFw
     obtain⟨z,hz,rfl⟩:=key hs
     obtain⟨c1,c',e1,l,r,hb1,hb',hc1,hc',hl⟩:=hU
     have hcc:c1=cc:=by rw[hb]at hb1;injection hb1 with hb1;injection hb1 with hb1 _ _;exact hb1.symm
     subst hcc
     have hsz:c'.size=c1.size:=by
      rw[<-aW,<-aW,hc1,hc'];simp[he]
     refine⟨p,c',e1.to (iy hsz),rfl,hb',.inl ⟨hS0,np⟩,λk=>(S1 k/\¬S' k)\/R k,?_,λk hk=>hk.imp (λh=>⟨s1 k h.1,h.2⟩) id,?_⟩
     ·have:=w2 F' w' c es R z m' hz hF hy he (λk a b=>hR k a (s1 k b)) (λk a b=>hk k (s1 k a) b (λe=>n1 (e ▸ a))) hFw
      have e3:l++(ds++r)=eC++(ds++dq):=by rw[<-aO,<-hc1,<-aO];exact hc2
      obtain⟨k1,k2⟩:=kS e3 (by omega)
      have k3:=qM k2
      rw[hc',k1,k3]
      exact this
     ·rintro(⟨a,_⟩|a)
      ·exact n1 a
      ·exact np (hR p a hS0)
    ·refine .inr ⟨b2,o2,rfl,s1 _ hb2,rj,hl2,?_⟩
     intro F' w' c es R v' m' hs hF hy he hR hk hU hFw
     obtain⟨z,hz,rfl⟩:=key hs
     have hne:p≠b2:=λe=>n1 (e ▸ hb2)
     refine⟨p,cc,e,rfl,(hk p hS0 np hne).trans hb,.inl ⟨hS0,np⟩,λk=>(S1 k/\¬S' k)\/R k,?_,λk hk=>hk.imp (λh=>⟨s1 k h.1,h.2⟩) id,?_⟩
     ·exact w2 F' w' c es R z m' hz hF hy he (λk a b=>hR k a (s1 k b)) (λk a b c=>hk k (s1 k a) b c) hU hFw
     ·rintro(⟨a,_⟩|a)
      ·exact n1 a
      ·exact np (hR p a hS0)
def Ty.atom:Ty->Bool
 |.sl _|.box _|.ptr _|.jM|.int _|.bool|.str=>true
 |_=>false
theorem pg{t:Ty}(h:t.atom=true):t.width=1:=by cases t <;> simp[Ty.atom]at h <;> rfl
theorem vY{t:Ty}(h:t.atom=true)(cs:List Value)(p q:Nat×Nat)(ρ:List Stp)(hr:bg t cs (some p) ρ=some q):ρ=[]/\p=q:=by
 cases ρ with
 |nil=>cases t <;> (simp only[bg,bn]at hr;exact⟨rfl,hr⟩)
 |cons s ρ=>cases t <;> simp[Ty.atom]at h <;> cases s <;> simp[bg]at hr
theorem pP:∀ (ρ:List Stp) (t:Ty) (cs cs':List Value) (p q:Nat×Nat),bg t cs' (some p) ρ=some q->bg t cs (some p) ρ=some q:=by
 intro ρ
 induction ρ with
 |nil=>intro t cs cs' p q h;cases t <;> exact h
 |cons s ρ ih=>
  intro t cs cs' p q h
  cases t <;> cases s <;> simp only[bg,reduceCtorEq,cT]at h |-
  case st.st=>exact ih _ _ _ _ _ h
  case pair.fst=>exact ih _ _ _ _ _ h
  case pair.snd=>exact ih _ _ _ _ _ h
  case arr.ai=>
   split at h
   ·rename_i hc;rw[if_pos hc];exact ih _ _ _ _ _ h
   ·cases h
theorem FC:∀ (π:List Stp) (t:Ty) (x:t.T) (c c':V) (v:V) (cs cs':List Value) (p q:Nat×Nat) (ρ:List Stp),get? t x π=some c->c.t.atom=true->c'.t.atom=true->cP t x π c'=some v->
 bg v.t cs' (some p) ρ=some q->bg t cs (some p) ρ=some q/\v.t.width=t.width:=by
 intro π
 induction π with
 |nil=>
  intro t x c c' v cs cs' p q ρ hg h1 h2 hr ha
  rw[eY]at hg
  injection hg with hg
  subst hg
  have hv:v=c':=by cases t <;> (simp only[cP,bn]at hr;exact hr.symm)
  subst hv
  obtain⟨rfl,rfl⟩:=vY h2 _ _ _ _ ha
  exact⟨by cases t <;> rfl,by rw[pg h1,pg h2]⟩
 |cons p0 π ih=>
  intro t x c c' v cs cs' p q ρ hg h1 h2 hr ha
  unfold get? at hg
  cases t <;> cases p0 <;> simp only[fA,reduceCtorEq]at hg <;> simp only[cP,reduceCtorEq]at hr
  case st.st t=>
   split at hr
   ·rename_i v2 hv2
    injection hr with hr
    subst hr
    cases ρ with
    |nil=>simp only[bg]at ha |-;exact⟨ha,(ih t x c c' v2 cs cs' p p [] hg h1 h2 hv2 (by cases v2.t <;> rfl)).2⟩
    |cons s ρ=>
     cases s <;> simp only[bg,reduceCtorEq]at ha |-
     exact ih t x c c' v2 cs cs' p q ρ hg h1 h2 hv2 ha
   ·cases hr
  case pair.fst a b=>
   split at hr
   ·rename_i v2 hv2
    injection hr with hr
    subst hr
    have hw:=(ih a x.1 c c' v2 cs cs' p p [] hg h1 h2 hv2 (by cases v2.t <;> rfl)).2
    cases ρ with
    |nil=>simp only[bg]at ha |-;exact⟨ha,by simp only[Ty.width,hw]⟩
    |cons s ρ=>
     cases s <;> simp only[bg,reduceCtorEq]at ha |-
     ·exact⟨(ih a x.1 c c' v2 _ _ p q ρ hg h1 h2 hv2 ha).1,by simp only[Ty.width,hw]⟩
     ·simp only[cT,hw]at ha |-
      refine⟨?_,by simp only[Ty.width,hw]⟩
      have:∀ (t:Ty) (cs cs':List Value) (p q:Nat×Nat) (ρ:List Stp),bg t cs' (some p) ρ=some q->bg t cs (some p) ρ=some q:=λt cs cs' p q ρ h=>pP ρ t cs cs' p q h
      exact this _ _ _ _ _ _ ha
   ·cases hr
  case pair.snd a b=>
   split at hr
   ·rename_i v2 hv2
    injection hr with hr
    subst hr
    have hw:=(ih b x.2 c c' v2 cs cs' p p [] hg h1 h2 hv2 (by cases v2.t <;> rfl)).2
    cases ρ with
    |nil=>simp only[bg]at ha |-;exact⟨ha,by simp only[Ty.width,hw]⟩
    |cons s ρ=>
     cases s <;> simp only[bg,reduceCtorEq]at ha |-
     ·exact⟨pP ρ a _ _ _ _ ha,by simp only[Ty.width,hw]⟩
     ·simp only[cT]at ha |-
      exact⟨(ih b x.2 c c' v2 _ _ _ q ρ hg h1 h2 hv2 ha).1,by simp only[Ty.width,hw]⟩
   ·cases hr
  case box.deref t=>
   split at hr
   ·rename_i v2 hv2
    injection hr with hr
    subst hr
    cases ρ with
    |nil=>simp only[bg]at ha |-;exact⟨ha,rfl⟩
    |cons s ρ=>cases s <;> simp only[bg,reduceCtorEq]at ha
   ·cases hr
section
variable {P:Program} {B:dH} {F:af} {Sg:Nat->af} {cg:Nat->List Value} {σ:St} {a:Act} {w:World}
theorem zw{p o:Nat}{ds:List Value}(h:ri w p o ds):Upd w w p o ds ds:=by
 obtain⟨c,e,hb,l,r,hc,hl⟩:=h
 exact⟨c,c,e,l,r,hb,hb,hc,hc,hl⟩
theorem H6{t0:Ty}{x:(Ty.box t0).T}{π:List Stp}{c':V}{v:V}(h:cP (.box t0) x (.deref::π) c'=some v):∃ v0,cP t0 x π c'=some v0/\v=⟨.box v0.t,v0.x⟩:=by
 simp only[cP]at h
 split at h
 ·rename_i v2 hv2;injection h with h;exact⟨v2,hv2,h.symm⟩
 ·cases h
theorem zx{t0:Ty}{x:(Ty.box t0).T}{π:List Stp}{c c' v:V}(hg:get? (.box t0) x (.deref::π)=some c)(h1:c.t.atom=true)(h2:c'.t.atom=true)(hr:cP (.box t0) x (.deref::π) c'=some v)(cs:List Value):
 (∀ u,VR (.box t0) cs u->VR v.t cs u)/\(∀ ρ q,bg v.t cs none ρ=some q->bg (.box t0) cs none ρ=some q):=by
 obtain⟨v0,hv0,rfl⟩:=H6 hr
 refine⟨λu hu=>hu,λρ q ha=>?_⟩
 cases ρ with
 |nil=>simp[bg]at ha
 |cons s ρ=>
  cases s <;> simp only[bg,reduceCtorEq]at ha |-
  split at ha
  ·exact(FC π t0 x c c' v0 _ _ _ q ρ hg h1 h2 hv0 ha).1
  ·cases ha
theorem aS.take(h:aS B F Sg cg σ a w){l:Nat}{v0:Nat}{t0:Ty}{m0:Md}{x0:(Ty.box t0).T}(hl:σ.L l=some ⟨v0,.box t0,m0,x0⟩){π:List Stp}{c:V}(hg:get? (.box t0) x0 (.deref::π)=some c)(ho:dy (.box t0) m0 (.deref::π)=true)(hat:c.t.atom=true)
 {v':V} (hr:cP (.box t0) x0 (.deref::π) ⟨.jM,()⟩=some v') {d:Nat} (hU:σ.U d=false) (hv:∃ t',c.t=.sl t'):
 ∃ ds s Sg' cg',resolve w (.box t0) (cg l) none (.deref::π)=some (ds,s)/\
  aS B F Sg' cg' {σ with L:=upd (upd σ.L l (some ⟨v0+1,v'.t,fW m0 (.deref::π) .ro,v'.x⟩)) d (some ⟨0,c.t,atM (.box t0) m0 (.deref::π),c.x⟩),U:=λj=>Nat.beq j d||σ.U j} a w/\cg' d=ds/\(∀ j,j≠d->cg' j=cg j):=by
 obtain⟨ds,s',S',h1,h2,h3,h4⟩:=H5 F w (.deref::π) (.box t0) m0 x0 (cg l) (Sg l) none c (h.lab l _ hl) hg ho ⟨_,_,hr⟩
 obtain⟨⟨p,o⟩,rfl⟩:=iR (.deref::π) _ _ _ _ _ rfl h1
 have hdl:l≠d:=λe=>by subst e;rw[h.used l _ hl]at hU;cases hU
 obtain⟨z,rfl,hz⟩:∃ z,ds=[z]/\z.oneCell'=true:=by
  obtain⟨t',ht⟩:=hv
  obtain⟨ct,cx⟩:=c
  simp only at ht
  subst ht
  exact eZ rfl h2
 rcases h4 with⟨_,_,_,h5,_⟩|⟨p',o',h5,hSp,hnp,fC,lM⟩
 ·simp at h5
 injection h5 with h5
 injection h5 with e1 e2
 subst e1;subst e2
 have bF:=lM F w ⟨.jM,()⟩ [z] af.none v' .ro hr (Sub.refl _) ⟨z,rfl,hz⟩ rfl (λk hk=>hk.elim) (λ_ _ _ _=>rfl) (zw fC) (λ_ _=>rfl)
 have uc:=zx hg hat rfl hr (cg l)
 have i1:=h.sF rfl rfl rfl (ar _) hl (λ_ _ _=>rfl) (b':=⟨v0+1,v'.t,fW m0 (.deref::π) .ro,v'.x⟩) uc.1 uc.2 (cF _) (Sub.refl _) bF (upd σ.L l (some ⟨v0+1,v'.t,fW m0 (.deref::π) .ro,v'.x⟩)) (aF _ _ _) (λj hj=>by rw[aR _ _ hj];exact .inr rfl) (λk hk=>.inl hk)
  (λk hk=>by rcases hk with hk|hk;exact .inl hk.1;exact hk.elim)
 have i2:=i1.jU (w':=w) rfl rfl rfl (ar _) (l:=d) (b:=⟨0,c.t,atM (.box t0) m0 (.deref::π),c.x⟩) hU (upd (upd σ.L l (some ⟨v0+1,v'.t,fW m0 (.deref::π) .ro,v'.x⟩)) d (some ⟨0,c.t,atM (.box t0) m0 (.deref::π),c.x⟩)) (λ_ _ _=>rfl) h2 (aF _ _ _)
  (λj hj=>by rw[aR _ _ hj];exact .inr rfl)
  (λk hk=>⟨λj bj hj hbj hs=>by
   rw[aR _ _ hj]at hbj
   by_cases e:j=l
   ·subst e;rw[if_pos rfl]at hs;rcases hs with hs|hs;exact hs.2 hk;exact hs.elim
   ·rw[if_neg e]at hs;rw[aR _ _ e]at hbj;exact h.dis j l bj _ e hbj hl k hs (h3 k hk),
   λhf=>h.eu l _ hl k (h3 k hk) hf,h.lt l _ hl k (h3 k hk),h.may l _ hl k (h3 k hk)⟩)
 refine⟨[z],some (p,o),_,_,h1,i2,by simp,λj hj=>by simp[hj]⟩
def Cg:Ty->Bool
 |.jM=>true
 |_=>false
def xG{R:Type}(d:TD)(σ:St)(ep ev:aq)(K:St->Option R):Option R:=
 plc σ ep λl b π c=>
  bif Cg c.t&&d.ty.atom&&d.ty.vty then
   (match b,π with
   |⟨v0,.box t0,m0,x0⟩,.deref::π0=>
    (match ev with
    |.hdr l2 _ π2 _=>bif π2.isEmpty&&!(Nat.beq l l2)then(match σ.L l2 with
     |some b2=>bif decide (b2.t=d.ty)then(match cP (.box t0) x0 (.deref::π0) ⟨b2.t,b2.x⟩with
      |some v'=>K (σ.jV (upd (upd σ.L l2 none) l (some ⟨v0+1,v'.t,fW m0 (.deref::π0) b2.m,v'.x⟩)))
      |none=>none)else none
     |none=>none)else none
    |ev=>asT ev d.ty λy=>match cP (.box t0) x0 (.deref::π0) ⟨d.ty,y⟩with
     |some v'=>K (σ.jV (upd σ.L l (some ⟨v0+1,v'.t,fW m0 (.deref::π0) (ua ev d.ty),v'.x⟩)))
     |none=>none)
   |_,_=>none)
  else none
theorem L6(h:aS B F Sg cg σ a w){R:Type}{t:TypeId}{d:TD}(hd:TOk P t d){ep ev:aq}{K:St->Option R}{r:R}(hk:xG d σ ep ev K=some r){vp v:Value}(hp:aE F w σ.L σ.U cg ep vp)(hv:aE F w σ.L σ.U cg ev v):
 ∃ σ' w' Sg',K σ'=some r/\(Instr.storeAt t vp v).run P w=.ok () w'/\aS B F Sg' cg σ' a w'/\σ'.E=σ.E:=by
 unfold xG at hk
 obtain⟨l,b,π,c,hl,hk1,hc,hg,ho,ds,p,o,S',rfl,h1,h2,h3,h4⟩:=rm h hk hp
 clear hk
 cases hud:Cg c.t&&d.ty.atom&&d.ty.vty
 ·rw[hud]at hk1;cases hk1
 rw[hud]at hk1
 simp only[cond_true]at hk1
 simp only[ag]at hud
 obtain⟨⟨hjk,hat⟩,hvt⟩:=hud
 have hjt:c.t=.jM:=by cases hct:c.t <;> rw[hct]at hjk <;> first|rfl|cases hjk
 obtain⟨v0,bt,m0,x0⟩:=b
 cases bt with
 |box t0=>
  cases π with
  |nil=>simp at hk1
  |cons s0 π0=>
  cases s0 with
  |deref=>
   simp only at hk1 hg ho h1 h2 h4 h3
   have fin:∀ (es:List Value) (y:d.ty.T) (m':Md) (v':V) (Rw:af) (L':Nat->Option Lab),Rep F w d.ty m' y es Rw->VR d.ty es v->cP (.box t0) x0 (.deref::π0) ⟨d.ty,y⟩=some v'->
    (∀ k,Rw k->∃ l2 b2,l2≠l/\σ.L l2=some b2/\L' l2=none/\Sg l2 k)->L' l=some ⟨v0+1,v'.t,fW m0 (.deref::π0) m',v'.x⟩->(∀ j,j≠l->L' j=none\/L' j=σ.L j)->
    ∃ w' Sg',(Instr.storeAt t (.pointer (some ⟨p,o,none⟩)) v).run P w=.ok () w'/\aS B F Sg' cg (σ.jV L') a w':=by
    intro es y m' v' Rw L' hy hv dv hR hLl hL
    obtain⟨ds2,s2,S2,f1,f2,f3,f4⟩:=H5 F w (.deref::π0) (.box t0) m0 x0 (cg l) (Sg l) none c (h.lab l _ hl) hg ho ⟨_,_,dv⟩
    rw[h1]at f1
    injection f1 with f1
    injection f1 with f1 f1'
    subst f1;subst f1'
    rcases f4 with⟨_,_,_,f5,_⟩|⟨p',o',f5,hSp,hnp,fC,lM⟩
    ·simp at f5
    injection f5 with f5
    injection f5 with e1 e2
    subst e1;subst e2
    have hel:=aT _ _ _ _ _ _ _ hy
    have hdl:=aT _ _ _ _ _ _ _ h2
    have ub:es.length=ds.length:=by rw[hel,hdl,hjt,pg hat];rfl
    obtain⟨u1,u2,u3,u4,u5,u6⟩:=tY fC ub
    have bV:=pe fC hd hv.cells hel ub (pK _ _ _ _ _ hy)
    have hRp:¬Rw p:=λhrp=>by
     obtain⟨l2,b2,hne,hb2,_,hk2⟩:=hR p hrp
     exact h.dis l2 l b2 _ hne hb2 hl p hk2 hSp
    have hFp:∀ k,F k->k≠p:=λk hk e=>h.eu l _ hl p hSp (e ▸ hk)
    have hy':Rep F (w.setCells p o es) d.ty m' y es Rw:=aX (Sub.refl _) (λk hk=>u2 k (hFp k hk)) _ _ _ _ _ _ hy (Sub.refl _) (λk hk=>u2 k (λe=>hRp (e ▸ hk)))
    have bF:=lM F (w.setCells p o es) ⟨d.ty,y⟩ es Rw v' m' dv (Sub.refl _) hy' ub
     (λk hk hs=>by obtain⟨l2,b2,hne,hb2,_,hk2⟩:=hR k hk;exact(h.dis l2 l b2 _ hne hb2 hl k hk2 hs).elim)
     (λk _ _ hne=>u2 k hne) u1 (λk hk=>u2 k (hFp k hk))
    have uc:=zx hg (by rw[hjt];rfl) hat dv (cg l)
    refine⟨_,_,bV,h.sF u4 u5 u6 (by rw[u3];exact ar _) hl (λk _ hn=>u2 k (λe=>hn (e ▸ hSp))) (b':=⟨v0+1,v'.t,fW m0 (.deref::π0) m',v'.x⟩) uc.1 uc.2 (cF _) (Sub.refl _) bF L' hLl hL (λk hk=>.inl hk) (λk hk=>?_)⟩
    rcases hk with hk|hk
    ·exact .inl hk.1
    ·exact .inr (.inl (hR k hk))
   split at hk1
   ·rename_i l2 n2 π2 c2
    cases hb:π2.isEmpty&&!(Nat.beq l l2)
    ·rw[hb]at hk1;cases hk1
    rw[hb]at hk1
    simp only[cond_true]at hk1
    simp only[ag,bx]at hb
    have hp2:π2=[]:=by cases π2 <;> simp_all
    subst hp2
    have hne:l≠l2:=λe=>by subst e;simp[cX]at hb
    cases hl2:σ.L l2 with
    |none=>rw[hl2]at hk1;cases hk1
    |some b2=>
    rw[hl2]at hk1
    simp only at hk1
    cases hud:decide (b2.t=d.ty)
    ·rw[hud]at hk1;cases hk1
    rw[hud]at hk1
    simp only[cond_true]at hk1
    have hud:=of_decide_eq_true hud
    have hv2:=(hv.2 b2 hl2).2.1 rfl
    have mE:=h.lab l2 b2 hl2
    cases dv:cP (.box t0) x0 (.deref::π0) ⟨b2.t,b2.x⟩with
    |none=>rw[dv]at hk1;cases hk1
    |some v'=>
    rw[dv]at hk1
    simp only at hk1
    obtain⟨d1,d2,dty,d4⟩:=d
    simp only at hud
    subst hud
    obtain⟨w',Sg',e1,e2⟩:=fin (cg l2) b2.x b2.m v' (Sg l2) (upd (upd σ.L l2 none) l (some ⟨v0+1,v'.t,fW m0 (.deref::π0) b2.m,v'.x⟩)) mE hv2 dv
     (λk hk=>⟨l2,_,Ne.symm hne,hl2,by rw[aR _ _ (Ne.symm hne),aF],hk⟩) (aF _ _ _)
     (λj hj=>by
      rw[aR _ _ hj]
      by_cases e:j=l2
      ·subst e;rw[aF];exact .inl rfl
      ·rw[aR _ _ e];exact .inr rfl)
    exact⟨_,w',Sg',hk1,e1,e2,rfl⟩
   ·obtain⟨y,es,hk2,hy,hvr⟩:=pN hk1 hv
    cases dv:cP (.box t0) x0 (.deref::π0) ⟨d.ty,y⟩with
    |none=>rw[dv]at hk2;cases hk2
    |some v'=>
    rw[dv]at hk2
    simp only at hk2
    obtain⟨w',Sg',e1,e2⟩:=fin es y _ v' af.none (upd σ.L l (some ⟨v0+1,v'.t,fW m0 (.deref::π0) (ua ev d.ty),v'.x⟩)) hy hvr dv (λk hk=>hk.elim) (aF _ _ _) (λj hj=>by rw[aR _ _ hj];exact .inr rfl)
    exact⟨_,w',Sg',hk2,e1,e2,rfl⟩
  |_=>simp at hk1
 |_=>simp at hk1
end
def zy:Ty->Bool
 |.sl _=>true
 |_=>false
theorem xH{t:Ty}(h:zy t=true):∃ t',t=.sl t':=by cases t <;> simp[zy]at h;exact⟨_,rfl⟩
section
variable {α:Type} {R:α->List Value->af->Prop}
theorem FD(hw:∀ y c S,R y c S->c.length=1):∀ {x:List α} {cs:List Value} {S:af},bp R x cs S->bp (LX R) (x.map some) cs S:=by
 intro x
 induction x with
 |nil=>intro cs S h;exact h
 |cons y ys ih=>
  rintro cs S ⟨c1,c2,S1,S2,rfl,h1,h2,r⟩
  exact⟨c1,c2,S1,S2,rfl,⟨h1,hw _ _ _ h1⟩,ih h2,r⟩
theorem zz:∀ {x:List α} {cs:List Value} {S:af},bp (LX R) (x.map some) cs S->bp R x cs S:=by
 intro x
 induction x with
 |nil=>intro cs S h;exact h
 |cons y ys ih=>
  rintro cs S ⟨c1,c2,S1,S2,rfl,h1,h2,r⟩
  exact⟨c1,c2,S1,S2,rfl,h1.1,ih h2,r⟩
theorem FE(x:List α)(j:Nat)(y:α):(jO x j).set j (some y)=(x.set j y).map some:=by
 unfold jO
 rw[List.set_set,List.map_set]
end
theorem Ch{F:af}{w:World}{t:Ty}(ht:t.width=1){m:Md}{x:List t.T}{cs:List Value}{S:af}(h:Rep F w (.sl t) (.own m) x cs S):Rep F w (.sl (.may t)) (.own m) (x.map some) cs S:=by
 obtain⟨a,cap,rfl,h1,h2,h3⟩:=h
 refine⟨a,cap,by rw[bJ],by rw[bJ];exact h1,h2,h3.imp id ?_⟩
 rintro⟨b,off,c,e,rfl,hb,hc,hS,S1,hr,s1,n1⟩
 rw[ht]at hc hr
 refine⟨b,off,c,e.any,rfl,hb,hc,hS,S1,?_,s1,n1⟩
 rw[bJ]
 exact FD (λy c S h=>by rw[aT _ _ _ _ _ _ _ h,ht]) hr
theorem Ci{F:af}{w:World}{t:Ty}(ht:t.width=1){m:Md}{x:List t.T}{cs:List Value}{S:af}(h:Rep F w (.sl (.may t)) (.own m) (x.map some) cs S):Rep F w (.sl t) (.own m) x cs S:=by
 obtain⟨a,cap,rfl,h1,h2,h3⟩:=h
 refine⟨a,cap,by rw[bJ],by rw[bJ]at h1;exact h1,h2,h3.imp id ?_⟩
 rintro⟨b,off,c,e,rfl,hb,hc,hS,S1,hr,s1,n1⟩
 rw[bJ]at hr
 refine⟨b,off,c,e.cast ht,rfl,hb,by rw[ht];exact hc,hS,S1,?_,s1,n1⟩
 rw[ht]
 exact zz hr
theorem L7{F:af}{w:World}{t:Ty}{m:Md}{x:List t.T}{j:Nat}(hj:j<x.length){cs:List Value}{S:af}(h:Rep F w (.sl (.may t)) (.own m) (jO x j) cs S):Rep F w (.hol t) (.own m) (x,j) cs S:=⟨hj,h⟩
theorem L8{F:af}{w:World}{t:Ty}{m:Md}{x:List t.T×Nat}{cs:List Value}{S:af}(h:Rep F w (.hol t) (.own m) x cs S):x.2<x.1.length/\Rep F w (.sl (.may t)) (.own m) (jO x.1 x.2) cs S:=h
theorem zA{w:World}{t:Ty}(ht:t.width=1)(cs:List Value)(s:Option (Nat×Nat))(i:Int):resolve w (.sl t) cs s [.idx i]=resolve w (.sl (.may t)) cs s [.idx i]:=by
 have e:(Ty.may t).width=1:=rfl
 simp only[resolve,ht,e,eR]
section
variable {P:Program} {B:dH} {F:af} {Sg:Nat->af} {cg:Nat->List Value} {σ:St} {a:Act} {w:World}
theorem aS.SO(h:aS B F Sg cg σ a w){l:Nat}{v0:Nat}{t0:Ty}{m0:Md}{x0:List t0.T}(hl:σ.L l=some ⟨v0,.sl t0,.own m0,x0⟩){i:Int}(hi:0<=i){y:t0.T}(hy:x0[i.toNat]?=some y)(ht:∃ t',t0=.sl t'){d:Nat}(hU:σ.U d=false):
 ∃ ds s Sg' cg',resolve w (.sl t0) (cg l) none [.idx i]=some (ds,s)/\
  aS B F Sg' cg' {σ with L:=upd (upd σ.L l (some ⟨v0+1,.hol t0,.own m0,(x0,i.toNat)⟩)) d (some ⟨0,t0,m0,y⟩),U:=λj=>Nat.beq j d||σ.U j} a w/\cg' d=ds/\(∀ j,j≠d->cg' j=cg j):=by
 have hw1:t0.width=1:=by obtain⟨t',rfl⟩:=ht;rfl
 have hm:=Ch hw1 (h.lab l _ hl)
 have hlen:i.toNat<x0.length:=(List.getElem?_eq_some_iff.1 hy).1
 have hg:get? (.sl (.may t0)) (x0.map some) [.idx i]=some ⟨.may t0,some y⟩:=by simp[get?,fA,hi,hy]
 obtain⟨ds,s',S',h1,h2,h3,h4⟩:=focus F w [.idx i] (.sl (.may t0)) (.own m0) (x0.map some) (cg l) (Sg l) none (.may t0) (some y) hm hg rfl
 obtain⟨⟨p,o⟩,rfl⟩:=iR [.idx i] _ _ _ _ _ rfl h1
 have hdl:l≠d:=λe=>by subst e;rw[h.used l _ hl]at hU;cases hU
 have h2':Rep F w t0 m0 y ds S':=h2.1
 obtain⟨z,rfl,hz⟩:∃ z,ds=[z]/\z.oneCell'=true:=by
  obtain⟨t',rfl⟩:=ht
  exact eZ rfl h2'
 rcases h4 with⟨_,_,_,h5,_⟩|⟨p',o',h5,hSp,hnp,fC,lM⟩
 ·simp at h5
 injection h5 with h5
 injection h5 with e1 e2
 subst e1;subst e2
 have dv:ji (.sl (.may t0)) (x0.map some) [.idx i] (.may t0) none=some ((x0.map some).set i.toNat none):=by simp[ji,iB,hi,hy]
 have SP:=lM F w none [z] af.none _ m0 (.own m0) ⟨m0,rfl,rfl,rfl⟩ (Sub.refl _) dv ⟨z,rfl,hz⟩ rfl (λk hk=>hk.elim) (λ_ _ _ _=>rfl) (zw fC) (λ_ _=>rfl)
 have bF:=L7 (t:=t0) hlen SP
 have i1:=h.sF rfl rfl rfl (ar _) hl (λ_ _ _=>rfl) (b':=⟨v0+1,.hol t0,.own m0,(x0,i.toNat)⟩) (λu hu=>hu) (λρ q ha=>by
  cases ρ with
  |nil=>simp[bg]at ha
  |cons s ρ=>cases s <;> simp only[bg,reduceCtorEq]at ha |-;exact ha) (cF _) (Sub.refl _) bF (upd σ.L l (some ⟨v0+1,.hol t0,.own m0,(x0,i.toNat)⟩)) (aF _ _ _) (λj hj=>by rw[aR _ _ hj];exact .inr rfl) (λk hk=>.inl hk)
  (λk hk=>by rcases hk with hk|hk;exact .inl hk.1;exact hk.elim)
 have i2:=i1.jU (w':=w) rfl rfl rfl (ar _) (l:=d) (b:=⟨0,t0,m0,y⟩) hU (upd (upd σ.L l (some ⟨v0+1,.hol t0,.own m0,(x0,i.toNat)⟩)) d (some ⟨0,t0,m0,y⟩)) (λ_ _ _=>rfl) h2' (aF _ _ _)
  (λj hj=>by rw[aR _ _ hj];exact .inr rfl)
  (λk hk=>⟨λj bj hj hbj hs=>by
   rw[aR _ _ hj]at hbj
   by_cases e:j=l
   ·subst e;rw[if_pos rfl]at hs;rcases hs with hs|hs;exact hs.2 hk;exact hs.elim
   ·rw[if_neg e]at hs;rw[aR _ _ e]at hbj;exact h.dis j l bj _ e hbj hl k hs (h3 k hk),
   λhf=>h.eu l _ hl k (h3 k hk) hf,h.lt l _ hl k (h3 k hk),h.may l _ hl k (h3 k hk)⟩)
 exact⟨[z],some (p,o),_,_,(zA hw1 _ _ _).trans h1,i2,by simp,λj hj=>by simp[hj]⟩
def xI(σ:St)(ep:aq):Bool:=match ep with
 |.adr l _ [.idx _] _=>(match σ.L l with
  |some ⟨_,.hol _,_,_⟩=>true
  |_=>false)
 |_=>false
def ud{R:Type}(d:TD)(σ:St)(ep ev:aq)(K:St->Option R):Option R:=
 match ep with
 |.adr l _ [.idx i] _=>(match σ.L l with
  |some ⟨v0,.hol t0,.own m0,x0⟩=>(match ev with
   |.hdr l2 _ [] _=>(match σ.L l2 with
    |some b2=>bif !(Nat.beq l l2)&&zy t0&&decide (d.ty=t0)&&decide (b2.m=m0)then
     (if h:b2.t=t0 then(if 0<=i/\i.toNat=x0.2 then K (σ.jV (upd (upd σ.L l2 none) l (some ⟨v0+1,.sl t0,.own m0,(x0.1.set x0.2 (h ▸ b2.x):List t0.T)⟩)))else none)else none)else none
    |none=>none)
   |_=>none)
  |_=>none)
 |_=>none
theorem H7(h:aS B F Sg cg σ a w){R:Type}{t:TypeId}{d:TD}(hd:TOk P t d){ep ev:aq}{K:St->Option R}{r:R}(hk:ud d σ ep ev K=some r){vp v:Value}(hp:aE F w σ.L σ.U cg ep vp)(hv:aE F w σ.L σ.U cg ev v):
 ∃ σ' w' Sg',K σ'=some r/\(Instr.storeAt t vp v).run P w=.ok () w'/\aS B F Sg' cg σ' a w'/\σ'.E=σ.E:=by
 unfold ud at hk
 split at hk
 case h_2=>cases hk
 rename_i l n i c
 split at hk
 case h_2=>cases hk
 rename_i v0 t0 m0 x0 hl
 split at hk
 case h_2=>cases hk
 rename_i l2 n2 c2
 cases hl2:σ.L l2 with
 |none=>rw[hl2]at hk;cases hk
 |some b2=>
 rw[hl2]at hk
 simp only at hk
 cases hud:!(Nat.beq l l2)&&zy t0&&decide (d.ty=t0)&&decide (b2.m=m0)
 ·rw[hud]at hk;cases hk
 rw[hud]at hk
 simp only[cond_true]at hk
 simp only[ag,bx,decide_eq_true_eq]at hud
 obtain⟨⟨⟨hne,hsl⟩,hdt⟩,hm2⟩:=hud
 have hne:l≠l2:=λe=>by subst e;simp[cX]at hne
 split at hk
 case isFalse=>cases hk
 rename_i ht2
 split at hk
 case isFalse=>cases hk
 rename_i Vn
 obtain⟨hi0,hij⟩:=Vn
 have hw1:t0.width=1:=by obtain⟨t',rfl⟩:=xH hsl;rfl
 obtain⟨hj,bF⟩:=L8 (h.lab l _ hl)
 obtain⟨v2,t2,m2,x2⟩:=b2
 simp only at ht2 hm2
 subst ht2
 subst hm2
 have hlen:x0.2<(jO x0.1 x0.2).length:=by unfold jO;simpa using hj
 have pj:(jO x0.1 x0.2)[i.toNat]?=some none:=by
  rw[hij];unfold jO;simp[hj]
 have hg:get? (.sl (.may t2)) (jO x0.1 x0.2) [.idx i]=some ⟨.may t2,none⟩:=by simp[get?,fA,hi0,pj]
 obtain⟨ds,s',S',h1,h2,h3,h4⟩:=focus F w [.idx i] (.sl (.may t2)) (.own m2) (jO x0.1 x0.2) (cg l) (Sg l) none (.may t2) none bF hg rfl
 obtain⟨⟨p,o⟩,rfl⟩:=iR [.idx i] _ _ _ _ _ rfl h1
 obtain⟨z,rfl,hz⟩:=h2
 rcases h4 with⟨_,_,_,h5,_⟩|⟨p',o',h5,hSp,hnp,fC,lM⟩
 ·simp at h5
 injection h5 with h5
 injection h5 with e1 e2
 subst e1;subst e2
 have hvp:vp=.pointer (some ⟨p,o,none⟩):=by
  refine(hp.2 _ hl).2.1 rfl p o ?_
  have e:(Ty.may t2).width=1:=rfl
  simp only[resolve,e,gI]at h1
  simp only[bg,hw1,gI]
  split at h1
  ·rename_i b off len _ hcs
   simp only[hcs]
   split at h1
   ·rename_i hlt
    rw[if_pos hlt]
    injection h1 with h1
    injection h1 with _ h1
   ·cases h1
  ·cases h1
 have hv2:=(hv.2 _ hl2).2.1 rfl
 have mE:=h.lab l2 _ hl2
 have hel:=aT _ _ _ _ _ _ _ mE
 simp only[hw1]at hel
 have ub:(cg l2).length=[z].length:=hel
 obtain⟨u1,u2,u3,u4,u5,u6⟩:=tY fC ub
 have bV:=pe fC hd hv2.cells (by rw[hdt,hw1];exact hel) ub (pK _ _ _ _ _ mE)
 have hRp:¬Sg l2 p:=λhk2=>h.dis l2 l _ _ (Ne.symm hne) hl2 hl p hk2 hSp
 have hFp:∀ k,F k->k≠p:=λk hk e=>h.eu l _ hl p hSp (e ▸ hk)
 have hy':Rep F (w.setCells p o (cg l2)) t2 m2 x2 (cg l2) (Sg l2):=aX (Sub.refl _) (λk hk=>u2 k (hFp k hk)) _ _ _ _ _ _ mE (Sub.refl _) (λk hk=>u2 k (λe=>hRp (e ▸ hk)))
 have dv:ji (.sl (.may t2)) (jO x0.1 x0.2) [.idx i] (.may t2) (some x2)=some ((jO x0.1 x0.2).set i.toNat (some x2)):=by simp[ji,iB,hi0,pj]
 have PF:=lM F (w.setCells p o (cg l2)) (some x2) (cg l2) (Sg l2) _ m2 (.own m2) ⟨m2,rfl,rfl,rfl⟩ (Sub.refl _) dv ⟨hy',hel⟩ ub
  (λk hk hs=>(h.dis l2 l _ _ (Ne.symm hne) hl2 hl k hk hs).elim) (λk _ _ hne=>u2 k hne) u1 (λk hk=>u2 k (hFp k hk))
 rw[hij,FE]at PF
 have SQ:=Ci hw1 PF
 refine⟨_,_,_,hk,by rw[hvp];exact bV,h.sF u4 u5 u6 (by rw[u3];exact ar _) hl (λk _ hn=>u2 k (λe=>hn (e ▸ hSp))) (b':=⟨v0+1,.sl t2,.own m2,x0.1.set x0.2 x2⟩) (λu hu=>hu) (λρ q ha=>by
  cases ρ with
  |nil=>simp[bg]at ha
  |cons s ρ=>cases s <;> simp only[bg,reduceCtorEq]at ha |-;exact ha) (cF _) (Sub.refl _) SQ _ (aF _ _ _) (λj hj=>by
   rw[aR _ _ hj]
   by_cases e:j=l2
   ·subst e;rw[aF];exact .inl rfl
   ·rw[aR _ _ e];exact .inr rfl) (λk hk=>.inl hk) (λk hk=>?_),rfl⟩
 rcases hk with hk|hk
 ·exact .inl hk.1
 ·exact .inr (.inl ⟨l2,_,Ne.symm hne,hl2,by rw[aR _ _ (Ne.symm hne),aF],hk⟩)
def xSt{R:Type}(d:TD)(σ:St)(ep ev:aq)(K:St->Option R):Option R:=bif xI σ ep then ud d σ ep ev K else lQ d σ ep ev K
theorem Qg(h:aS B F Sg cg σ a w){R:Type}{t:TypeId}{d:TD}(hd:TOk P t d){ep ev:aq}{K:St->Option R}{r:R}(hk:xSt d σ ep ev K=some r){vp v:Value}(hp:aE F w σ.L σ.U cg ep vp)(hv:aE F w σ.L σ.U cg ev v):
 ∃ σ' w' Sg',K σ'=some r/\(Instr.storeAt t vp v).run P w=.ok () w'/\aS B F Sg' cg σ' a w'/\σ'.E=σ.E:=by
 unfold xSt at hk
 cases hh:xI σ ep
 ·rw[hh]at hk;exact FB h hd hk hp hv
 ·rw[hh]at hk;exact H7 h hd hk hp hv
def H8(σ:St)(ex:aq):Bool:=match ex with
 |.hdr l _ [] _=>(match σ.L l with
  |some ⟨_,.hol _,_,_⟩=>true
  |_=>false)
 |_=>false
def jK{R:Type}(TT:Tab)(σ:St)(t:TypeId)(ex ei:aq)(K:aq->Option R):Option R:=
 match ex with
 |.hdr l _ [] _=>(match σ.L l with
  |some ⟨v0,.hol t0,.own _,x0⟩=>jT ei λi=>(match TT t with
   |some d=>(match d.kd with
    |.slice e=>(match TT e with
     |some de=>bif Nat.blt 0 v0&&decide (de.ty=t0)then(if 0<=i/\i.toNat=x0.2 then K (.adr l 0 [.idx i] ⟨.jM,()⟩)else none)else none
     |none=>none)
    |_=>none)
   |none=>none)
  |_=>none)
 |_=>none
theorem xJ(h:aS B F Sg cg σ a w){R:Type}{TT:Tab}(hT:cO P TT){t:TypeId}{ex ei:aq}{K:aq->Option R}{r:R}(hk:jK TT σ t ex ei K=some r){v vi:Value}(he:aE F w σ.L σ.U cg ex v)(hi:aE F w σ.L σ.U cg ei vi):
 ∃ e' z,K e'=some r/\(Instr.indexAt t v vi).run P w=.ok z w/\aE F w σ.L σ.U cg e' z:=by
 unfold jK at hk
 split at hk
 case h_2=>cases hk
 rename_i l n c
 split at hk
 case h_2=>cases hk
 rename_i v0 t0 m0 x0 hl
 obtain⟨k,i,hk,rfl,_⟩:=gM hk hi
 cases h1:TT t with
 |none=>rw[h1]at hk;cases hk
 |some d=>
 rw[h1]at hk
 simp only at hk
 have hd:=(hT t d h1).desc
 split at hk
 case h_2=>cases hk
 rename_i e hkd
 rw[hkd]at hd
 simp only at hd
 cases h2:TT e with
 |none=>rw[h2]at hk;cases hk
 |some de=>
 rw[h2]at hk
 simp only at hk
 have hde:=hT e de h2
 cases hb:Nat.blt 0 v0&&decide (de.ty=t0)
 ·rw[hb]at hk;cases hk
 rw[hb]at hk
 simp only[cond_true]at hk
 simp only[ag,decide_eq_true_eq]at hb
 obtain⟨hv0,hty⟩:=hb
 have hv0:0<v0:=gB hv0
 split at hk
 case isFalse=>cases hk
 rename_i hij
 obtain⟨i0,hij⟩:=hij
 obtain⟨hj,ao,cap,hcs,hlc,_,h3⟩:=h.lab l _ hl
 have hlen:List.length (jO x0.1 x0.2)=x0.1.length:=by unfold jO;simp
 simp only at hj
 have hvr:=(he.2 _ hl).2.1 rfl
 simp only[VR,Ty.agg]at hvr
 rcases h3 with h3|⟨b,off,c',e',rfl,_⟩
 ·simp only[hlen]at hlc;omega
 simp only[hlen]at hcs
 have hvv:v=.slice (some ⟨b,off,none⟩) x0.1.length cap:=by
  have:=hvr.1
  rw[hcs]at this
  injection this with this
  exact this.symm
 subst hvv
 refine⟨_,_,hk,run_indexAt_slice hd hde i0 (by omega),he.1,λbb hbb=>?_⟩
 rw[hl]at hbb
 injection hbb with hbb
 subst hbb
 refine⟨aC _,λ_ p o hr=>?_,λh0=>absurd h0 (Nat.ne_of_lt hv0)⟩
 simp only[hcs,bg]at hr
 rw[if_pos ⟨i0,by omega⟩]at hr
 have hr':(b,off+i.toNat*t0.width)=(p,o):=cu hr
 injection hr' with e1 e2
 rw[cW,hty,<-e1,<-e2]
def FF{R:Type}(TT:Tab)(σ:St)(t:TypeId)(ex ei:aq)(K:aq->Option R):Option R:=bif H8 σ ex then jK TT σ t ex ei K else gq TT σ t ex ei K
theorem L9(h:aS B F Sg cg σ a w){R:Type}{TT:Tab}(hT:cO P TT){t:TypeId}{ex ei:aq}{K:aq->Option R}{r:R}(hk:FF TT σ t ex ei K=some r){v vi:Value}(he:aE F w σ.L σ.U cg ex v)(hi:aE F w σ.L σ.U cg ei vi):
 ∃ e' z,K e'=some r/\(Instr.indexAt t v vi).run P w=.ok z w/\aE F w σ.L σ.U cg e' z:=by
 unfold FF at hk
 cases hh:H8 σ ex
 ·rw[hh]at hk;exact o0 h hT hk he hi
 ·rw[hh]at hk;exact xJ h hT hk he hi
end
end
end Go.Proofs.YtphipehmbefejaaGreat.Rf
