/- Across a line: what is called; CrosFills. -/
import Derived.Test.YtcpahifgdppkbaaA19
import Derived.Test.YtcpahifgdppkbaaF1
set_option linter.unusedVariables false
set_option linter.unusedSimpArgs false
namespace Go.Proofs.Ytcpahifgdppkbaa.QAI
open Go Go.RowKit
set_option maxRecDepth 100000

theorem K_cons {K : Known} {f : Nat} {F : Spec} (h1 : SpecOk Try.prog f F) (h2 : nameOk Try.prog f = true) (h : KnownOk K) : KnownOk ((f, F) :: K) := by
  intro g G hg
  rcases List.mem_cons.1 hg with hg | hg
  · cases hg
    exact ⟨h1, h2⟩
  · exact h g G hg
theorem K_nil : KnownOk [] := fun _ _ h => by cases h
noncomputable def sHalf : Spec := afun (GK [] (fun _ => []) 0) 60 Try.f120
noncomputable def sStretch : Spec := afun (GK [] (fun _ => []) 0) 60 Try.f71
noncomputable def sSelf : Spec := afun (GK [] (fun _ => []) 0) 60 Try.f73
noncomputable def KX0 : Known := [(120, sHalf)]
theorem KX0_ok : KnownOk KX0 := K_cons (known0 K_nil 60 Try.func120) (by kernel_rfl) K_nil
noncomputable def sOff : Spec := afun (GK KX0 (fun _ => []) 0) 60 Try.f72
def keepLines : Nat → List (Nat × Option TypeId) := fun k => if k = 4 then [(1,none),(2,none),(7,some 2),(8,none),(11,none),(12,none),(13,none)] else []
def keepSame : Nat → List (Nat × Option TypeId) := fun k => if k = 4 then [(0,none),(1,none),(5,none)] else []
noncomputable def sLines : Spec := afun (GK [] keepLines 10) 60 Try.f76
noncomputable def sSame : Spec := afun (GK [] keepSame 10) 60 Try.f70
noncomputable def KX1 : Known := [(71, sStretch), (72, sOff), (73, sSelf), (76, sLines), (70, sSame)]
theorem sOff_ok : SpecOk Try.prog 72 sOff := known0 KX0_ok 60 Try.func72
theorem sStretch_ok : SpecOk Try.prog 71 sStretch := known0 K_nil 60 Try.func71
theorem sSelf_ok : SpecOk Try.prog 73 sSelf := known0 K_nil 60 Try.func73
theorem KX1_ok : KnownOk KX1 :=
  K_cons sStretch_ok (by kernel_rfl) (K_cons sOff_ok (by kernel_rfl)
    (K_cons sSelf_ok (by kernel_rfl) (K_cons (known' K_nil Try.func76 fun _ _ _ h => ⟨_, _, _, h⟩) (by kernel_rfl)
      (K_cons (known' K_nil Try.func70 fun _ _ _ h => ⟨_, _, _, h⟩) (by kernel_rfl) K_nil))))
noncomputable def sAwakeX : Spec := fun args h => match args, h with
  | [], [] => .ret (Bo true, [])
  | _, _ => .fail
theorem awakeX_eq : (afun (GK KX1 (fun _ => []) 0) 60 Try.f74 [] []).eval = some (Bo true, []) := by kernel_rfl
theorem awakeX_ok : SpecOk Try.prog 74 sAwakeX := by
  refine known' KX1_ok Try.func74 fun args h r he => ?_
  unfold sAwakeX at he
  split at he
  · cases he
    exact ⟨_, _, _, awakeX_eq⟩
  · cases he
noncomputable def KX2 : Known := [(71, sStretch), (72, sOff), (73, sSelf), (74, sAwakeX)]
theorem KX2_ok : KnownOk KX2 := K_cons sStretch_ok (by kernel_rfl) (K_cons sOff_ok (by kernel_rfl) (K_cons sSelf_ok (by kernel_rfl) (K_cons awakeX_ok (by kernel_rfl) K_nil)))
end Go.Proofs.Ytcpahifgdppkbaa.QAI
