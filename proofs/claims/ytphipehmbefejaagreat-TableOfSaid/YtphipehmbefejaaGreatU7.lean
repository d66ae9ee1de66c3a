/- A part of a proof that the given statement of this claim is true of the program. No conditions. Printed by pack2.py. -/
import Derived.Test.YtphipehmbefejaaGreatU6
set_option linter.unusedVariables false
set_option linter.unusedSimpArgs false
namespace Go.Proofs.YtphipehmbefejaaGreat
open Go Go.ChangeShapes Go.WideShapes Go.ChangeAt Go.RowKit Go.Proofs.YtphipehmbefejaaGreat.Rf
noncomputable section
theorem Cf:ownKnob Tryz.prog.godebug=none:=by kernel_rfl
theorem zx:laidOutB Tryz.prog=true:=by kernel_rfl
set_option maxRecDepth 100000 in
theorem vR(os:Os)(started:os.Started)(H:Type)(enc:TypeId×Value->H):
 ReturnsInHanded {} Tryz.checked os 5 .any (Rows.tableOfSpec.pre6 enc Tryz.prog Tryz.f5 Rows.tableOfRow.domain false) (Rows.tableOfSpec.post enc Tryz.prog Tryz.f5 false true false false):=by
 refine returnsInHanded_of_change (C:=Tryz.checked) Cf started (by kernel_rfl) Tryz.func5
  (ChangeSpec.witness6 (enc:=enc) (C:=Tryz.checked) false ⟨#[],#[.agg #[.slice none 0 0,.slice none 0 0,.slice none 0 0,.slice none 0 0,.int .i64 0]],[]⟩ 8 (by kernel_rfl) (by kernel_rfl) (by kernel_rfl) (by kernel_rfl)) ?_
 intro W base args ds gs before V8 hW0 Zl _
 have hW:DataW.Whole enc Tryz.prog Tryz.f5.params.toList Rows.tableOfSpec.vars false W args.toList ds gs before:=hW0
 have Q5:∀ (j:Nat) t v,Tryz.f5.params.toList[j]?=some t->args[j]?=some v->Value.okWide Tryz.prog W .any base t v:=λj t v h1 h2=>V8 j t v (by simpa using h1) h2
 have hA:∃ p,DataW.TrodAll enc Tryz.prog W 0 (λ_=>true) true Tryz.f5.params.toList args.toList ds p:=by
  obtain⟨p,q,hA0,_⟩:=hW
  exact⟨p,hA0⟩
 obtain⟨p,hA⟩:=hA
 refine(G6 JS (ok5 N0) (λx hx=>by obtain⟨g,u⟩:=x;exact Rk.P9 hx.1) (n:=12) (ts:=Tryz.f5.params.toList) (by rw[Tryz.params5];rfl) hA Q5 (λp hp=>by cases hp)).mono λe W' he=>?_
 obtain⟨he,hb⟩:=he
 exact⟨.bool true,he,JR zx (s:=Rows.tableOfSpec) rfl ⟨4,by kernel_rfl,Tryz.underlying4⟩ (λds hd=>by rw[Tryz.params5]at hd;match ds,hd with|[_],_=>rfl) (by rw[Tryz.params5];kernel_rfl) hW hb⟩
theorem tableOf_holds:Rows.TableOfSaid:=
 OpenClaim.holds_of_wide 5 Tryz.f5 rfl rfl rfl rfl rfl rfl rfl ⟨rfl,rfl,rfl,rfl,rfl⟩ rfl rfl rfl rfl rfl (by kernel_rfl) Tryz.func5 (by kernel_rfl)
  (of_decide_eq_true (by kernel_rfl)) (by unfold Func.isWrapper;first|(rw[if_pos (by decide +kernel)];kernel_rfl)|(rw[if_neg (by decide +kernel)];exact⟨rfl,rfl⟩))
  (λos started H enc _=>vR os started H enc)
end
end Go.Proofs.YtphipehmbefejaaGreat
