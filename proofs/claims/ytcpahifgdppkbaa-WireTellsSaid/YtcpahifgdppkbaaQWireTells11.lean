/- WireTells: the statement of the seat holds; no conditions. -/
import Derived.Test.YtcpahifgdppkbaaQWireTells10
import Derived.Test.YtcpahifgdppkbaaRows
import Derived.ProofKit
import Derived.OpenShut
set_option linter.unusedVariables false
set_option linter.unusedSimpArgs false
set_option maxRecDepth 100000
namespace Go.Proofs.Ytcpahifgdppkbaa.QAI
section
open Go Go.RowKit Go.ChangeShapes Go.WideShapes Go.ChangeAt
theorem wireTells_lr:(Ytcpahifgdppkbaa.Rows.wireTellsRow.lifted==Try.prog.liftsFinal)=true:=by rw [liftsFinal_ok];kernel_rfl
theorem wireTells_mr:(Try.prog.make==some Ytcpahifgdppkbaa.Rows.wireTellsRow.make)=true:=by rw [make_ok];kernel_rfl
theorem wireTells_joined:joinedFacts Try.prog 38 Try.f38 Ytcpahifgdppkbaa.Rows.wireTellsSpec Ytcpahifgdppkbaa.Rows.wireTellsRow=true:=by
 delta joinedFacts
 repeat' (with_reducible refine Bool.and_eq_true_iff.2 ⟨?_,?_⟩)
 all_goals first|(with_reducible exact mayEnter_ok)|(with_reducible exact wireTells_lr)|(with_reducible exact wireTells_mr)|kernel_rfl
theorem wireTells_par:Try.f38.params.toList=[128,131,122,2,22,3,5]:=rfl
theorem wireTells_shp:shqsOk Try.prog [128,131,122,2,22,3,5] wireTellsS=true:=by kernel_rfl
theorem wireTells_lifted (os:Os) (started:os.Started) (H:Type) (enc:TypeId × Value->H) :
  ReturnsInHanded {} Try.checked os 38 .any (Ytcpahifgdppkbaa.Rows.wireTellsSpec.pre6 enc Try.prog Try.f38 Ytcpahifgdppkbaa.Rows.wireTellsRow.domain false) (Ytcpahifgdppkbaa.Rows.wireTellsSpec.post enc Try.prog Try.f38 false true false false):=by
 refine returnsInHanded_of_change_shaped (C:=Try.checked) ownK started (by kernel_rfl) Try.func38
  (ChangeSpec.witness6 (enc:=enc) (C:=Try.checked) false ⟨#[],#[.agg #[.int .i64 0,.int .i64 0,.int .i64 0,.int .i64 0,.int .i64 0,.int .i64 0,.slice none 0 0],.agg (Array.replicate 10 (.int .i64 0)),.slice none 0 0,.int .i64 0,.slice none 0 0,.int .i64 0,.int .u8 0],[]⟩ 8 (by kernel_rfl) (by kernel_rfl) (by kernel_rfl) (by kernel_rfl)) ?_
 intro W base args ds gs before hval0 hW hcnd hwt0 _ _
 have hval1:∀ (j:Nat) t v,Try.f38.params[j]?=some t->args[j]?=some v->Value.okWide Try.prog W .any base t v:=hval0
 have hW':=hW
 obtain ⟨p,q,hA0,hV,rfl,hfz,hnd⟩:=hW
 have hA:DataW.TrodAll enc Try.prog W 0 (fun _=>true) true Try.f38.params.toList args.toList ds p:=hA0
 rw [wireTells_par] at hA
 obtain ⟨rfl,rfl⟩:=trodVars_none hV
 clear hA0 hval0
 have hwt:(DataW.weightsEach Try.prog [128,131,122,2,22,3,5] ds).all (·<=reachBytes)=true:=by
  rw [<-wireTells_par]
  have e:(DataW.weightsEach Try.prog (Try.f38.params.toList++[]) (ds++[])).all (·<=reachBytes)=true:=hwt0
  rw [List.append_nil,List.append_nil] at e
  exact e
 simp only [List.append_nil] at hW'
 have hlt:∀ x ∈ p,x.block<W.heap.size:=fun x hx=>by simpa using hW'.lt x hx
 have hval:∀ (j:Nat) t v,[128,131,122,2,22,3,5][j]?=some t->args.toList[j]?=some v->Value.okWide Try.prog W .any base t v:=by
  intro j t v ht hv
  rw [<-wireTells_par] at ht
  exact hval1 j t v (by simpa using ht) (by simpa using hv)
 refine (law_callsQ KTE_ok Try.func38 wireTells_shp hval hA hlt hwt wireTells_core).mono fun e W' ⟨he,bel⟩=>?_
 subst he
 obtain ⟨d0,d1,d2,d3,d4,d5,d6,rfl⟩:∃ d0 d1 d2 d3 d4 d5 d6,ds=[d0,d1,d2,d3,d4,d5,d6]:=by
  have hl:=trodAll_len hA
  match ds,hl with
  | [d0,d1,d2,d3,d4,d5,d6],_=>exact ⟨d0,d1,d2,d3,d4,d5,d6,rfl⟩
 refine ⟨_,rfl,_,_,_,[],p,[],hW',trodAll_mk1 (shut_bool un4 _),?_,rfl,bel.frame _,fun h=>by cases h⟩
 have:=Below.trodAllq laidOut wireTells_shp hA hlt bel
 rw [<-wireTells_par] at this
 exact this
theorem wireTells_holds:Ytcpahifgdppkbaa.Rows.WireTellsSaid:=
 OpenClaim.holds_of_wide 38 Try.f38 rfl rfl rfl rfl rfl rfl rfl ⟨rfl,rfl,rfl,rfl,rfl⟩ rfl rfl rfl rfl rfl (by kernel_rfl) Try.func38 wireTells_joined
  (of_decide_eq_true (by kernel_rfl)) (by unfold Func.isWrapper;first|(rw [if_pos (by decide +kernel)];kernel_rfl)|(rw [if_neg (by decide +kernel)];exact ⟨rfl,rfl⟩))
  (fun os started H enc _=>wireTells_lifted os started H enc)
#print axioms wireTells_holds
end
end Go.Proofs.Ytcpahifgdppkbaa.QAI
