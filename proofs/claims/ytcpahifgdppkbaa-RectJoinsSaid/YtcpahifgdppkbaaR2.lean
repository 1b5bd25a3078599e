/- Rectangles: RectPoints. -/
import Derived.Test.YtcpahifgdppkbaaR1
import Derived.Test.YtcpahifgdppkbaaC
set_option linter.unusedVariables false
set_option linter.unusedSimpArgs false
namespace Go.Proofs.Ytcpahifgdppkbaa.QAI
open Go Go.RowKit
set_option maxRecDepth 100000
noncomputable def jnG (L : Nat) : Ctx2 := GK [] (fun k => if k = 5 then [(2,none),(3,none),(4,none),(5,none),(6,none),(40,none),(41,none),(42,none)] else []) L
noncomputable def sJn : Spec := afun (jnG 10) 60 Try.f56
noncomputable def sMove : Spec := afun rG0 60 Try.f63
theorem sJn_ok : SpecOk Try.prog 56 sJn := known' rKnil Try.func56 fun _ _ _ h => ⟨_, _, _, h⟩
abbrev qd (a b c d : Int) : List AC := [i64 a, i64 b, i64 c, i64 d]
theorem jn1_eq {a b c d : Int} : (sJn [.c (.sl 0 0 1)] [some ⟨44, true, .lst 4 [qd a b c d] (qd 0 0 0 0)⟩]).eval =
  some
    (AV.agg [i64 a, i64 b, i64 (w64 (w64 (a + c) - a)), i64 (w64 (w64 (b + d) - b))],
      [some
          { t := 44, own := true,
            c :=
              Cont.lst 4 [[i64 a, i64 b, i64 c, i64 d]]
                [i64 (0 : Int), i64 (0 : Int), i64 (0 : Int), i64 (0 : Int)] }]) := by kernel_rfl
theorem jn2_eq {a b c d e f g h : Int} : (sJn [.c (.sl 0 0 2)] [some ⟨44, true, .lst 4 [qd a b c d, qd e f g h] (qd 0 0 0 0)⟩]).eval =
  some
    (AV.agg
        [i64 (mnI e a), i64 (mnI f b), i64 (w64 (mxI (w64 (e + g)) (w64 (a + c)) - mnI e a)),
          i64 (w64 (mxI (w64 (f + h)) (w64 (b + d)) - mnI f b))],
      [some
          { t := 44, own := true,
            c :=
              Cont.lst 4 [[i64 a, i64 b, i64 c, i64 d], [i64 e, i64 f, i64 g, i64 h]]
                [i64 (0 : Int), i64 (0 : Int), i64 (0 : Int), i64 (0 : Int)] }]) := by kernel_rfl
theorem jn3_eq {a b c d e f g h i j k l : Int} : (sJn [.c (.sl 0 0 3)] [some ⟨44, true, .lst 4 [qd a b c d, qd e f g h, qd i j k l] (qd 0 0 0 0)⟩]).eval =
  some
    (AV.agg
        [i64 (mnI i (mnI e a)), i64 (mnI j (mnI f b)),
          i64 (w64 (mxI (w64 (i + k)) (mxI (w64 (e + g)) (w64 (a + c))) - mnI i (mnI e a))),
          i64 (w64 (mxI (w64 (j + l)) (mxI (w64 (f + h)) (w64 (b + d))) - mnI j (mnI f b)))],
      [some
          { t := 44, own := true,
            c :=
              Cont.lst 4
                [[i64 a, i64 b, i64 c, i64 d], [i64 e, i64 f, i64 g, i64 h], [i64 i, i64 j, i64 k, i64 l]]
                [i64 (0 : Int), i64 (0 : Int), i64 (0 : Int), i64 (0 : Int)] }]) := by kernel_rfl
noncomputable def jnF (D : Spec) : Spec := fun args hp => match args, hp with
  | [.c (.sl 0 0 1)], [some ⟨44, true, .lst 4 [[.v (.int .i64 a), .v (.int .i64 b), .v (.int .i64 c), .v (.int .i64 d)]] z⟩] =>
    .need (yes (z = qd 0 0 0 0)) (.ret (Rv a b (w64 (w64 (a + c) - a)) (w64 (w64 (b + d) - b)), [some ⟨44, true, .lst 4 [qd a b c d] z⟩]))
  | [.c (.sl 0 0 2)], [some ⟨44, true, .lst 4 [[.v (.int .i64 a), .v (.int .i64 b), .v (.int .i64 c), .v (.int .i64 d)], [.v (.int .i64 e), .v (.int .i64 f), .v (.int .i64 g), .v (.int .i64 h)]] z⟩] =>
    .need (yes (z = qd 0 0 0 0)) (.ret (Rv (mnI e a) (mnI f b) (w64 (mxI (w64 (e + g)) (w64 (a + c)) - mnI e a)) (w64 (mxI (w64 (f + h)) (w64 (b + d)) - mnI f b)), [some ⟨44, true, .lst 4 [qd a b c d, qd e f g h] z⟩]))
  | [.c (.sl 0 0 3)], [some ⟨44, true, .lst 4 [[.v (.int .i64 a), .v (.int .i64 b), .v (.int .i64 c), .v (.int .i64 d)], [.v (.int .i64 e), .v (.int .i64 f), .v (.int .i64 g), .v (.int .i64 h)], [.v (.int .i64 i), .v (.int .i64 j), .v (.int .i64 k), .v (.int .i64 l)]] z⟩] =>
    .need (yes (z = qd 0 0 0 0)) (.ret (Rv (mnI i (mnI e a)) (mnI j (mnI f b)) (w64 (mxI (w64 (i + k)) (mxI (w64 (e + g)) (w64 (a + c))) - mnI i (mnI e a))) (w64 (mxI (w64 (j + l)) (mxI (w64 (f + h)) (w64 (b + d))) - mnI j (mnI f b))), [some ⟨44, true, .lst 4 [qd a b c d, qd e f g h, qd i j k l] z⟩]))
  | args, hp => D args hp
theorem jnF_ok : SpecOk Try.prog 56 (jnF sJn) := by
  refine known' rKnil Try.func56 fun args h r he => ?_
  unfold jnF at he
  split at he
  · obtain ⟨rfl, he⟩ := Tr.eval_ask.1 he
    cases he; exact ⟨_, _, _, jn1_eq⟩
  · obtain ⟨rfl, he⟩ := Tr.eval_ask.1 he
    cases he; exact ⟨_, _, _, jn2_eq⟩
  · obtain ⟨rfl, he⟩ := Tr.eval_ask.1 he
    cases he; exact ⟨_, _, _, jn3_eq⟩
  · exact ⟨_, _, _, he⟩
noncomputable def rKA : Known := [(53, tame2F), (54, hasF), (56, sJn), (57, meetF), (58, n1F), (60, rokF), (63, sMove)]
theorem rKA_ok : KnownOk rKA := rKcons tame2F_ok (by kernel_rfl) (rKcons hasF_ok (by kernel_rfl) (rKcons sJn_ok (by kernel_rfl) (rKcons meetF_ok (by kernel_rfl) (rKcons n1F_ok (by kernel_rfl) (rKcons iokF_ok (by kernel_rfl) (rKcons (known0 rKnil 60 Try.func63) (by kernel_rfl) rKnil))))))
noncomputable def rK2 : Known := [(53, tame2F), (54, hasF), (56, jnF sJn), (57, meetF), (58, n1F), (60, rokF), (63, sMove)]
theorem rK2_ok : KnownOk rK2 := rKcons tame2F_ok (by kernel_rfl) (rKcons hasF_ok (by kernel_rfl) (rKcons jnF_ok (by kernel_rfl) (rKcons meetF_ok (by kernel_rfl) (rKcons n1F_ok (by kernel_rfl) (rKcons iokF_ok (by kernel_rfl) (rKcons (known0 rKnil 60 Try.func63) (by kernel_rfl) rKnil))))))
theorem awakeR_eq : (afun (GK rKA (fun _ => []) 0) 60 Try.f55 [] []).eval = some (Bo true, []) := by kernel_rfl
noncomputable def sAwakeR : Spec := fun args h => match args, h with
  | [], [] => .ret (Bo true, [])
  | _, _ => .fail
theorem awakeR_ok : SpecOk Try.prog 55 sAwakeR := by
  refine known' rKA_ok Try.func55 fun args h r he => ?_
  unfold sAwakeR at he
  split at he
  · cases he
    exact ⟨_, _, _, awakeR_eq⟩
  · cases he
noncomputable def rK3 : Known := (55, sAwakeR) :: rK2
theorem rK3_ok : KnownOk rK3 := rKcons awakeR_ok (by kernel_rfl) rK2_ok
noncomputable def rG3 : Ctx2 := GK rK3 (fun _ => []) 0
end Go.Proofs.Ytcpahifgdppkbaa.QAI
