/- Requests as bytes: a request; its ways. -/
import Derived.Test.YtcpahifgdppkbaaQWireBack11
set_option linter.unusedVariables false
set_option linter.unusedSimpArgs false
set_option maxRecDepth 100000
namespace Go.Proofs.Ytcpahifgdppkbaa.QAI
section
open Go Go.RowKit
noncomputable def KRE : Known := [(140, wbF), (141, wqF2), (142, haF), (143, wnF), (144, sqF), (145, rqF)]
theorem KRE_ok : KnownOk KRE := consK wbF_ok (by kernel_rfl) (consK wqF2_ok (by kernel_rfl) (consK haF_ok (by kernel_rfl) (consK wnF_ok (by kernel_rfl) (consK sqF_ok (by kernel_rfl) (consK rqF_ok (by kernel_rfl) nilK)))))
noncomputable def reG : Ctx2 := GT KRE (fun _ => []) 0 []
noncomputable def qx0 (q : Qd) := (rqR (fun j => ud (ub (appB (fun x => 0) 0 (IntKind.u8.wrap q.k) j))) 0 1)
noncomputable def qx1 (q : Qd) (m : Nat) (P : Nat → Opp) := (rqR (fun j => ud (ub (wqBs (fun j => decO (encO (P j))) 2 (appB (fun j => ud (ub (appB (fun x => 0) 0 (IntKind.u8.wrap q.k) j))) 1 (IntKind.u8.wrap ((m : Nat) : Int))) m j))) 0 (wqLen (fun j => decO (encO (P j))) 2 m))
noncomputable def qx2 (q : Qd) := (rqR (fun j => ud (ub (fourB (fourB (fun j => ud (ub (appB (fun x => 0) 0 (IntKind.u8.wrap q.k) j))) 1 q.p) 5 q.t j))) 0 9)
noncomputable def qx3 (q : Qd) := (rqR (fun j => ud (ub (fourB (fun j => ud (ub (fourB (fourB (fun j => ud (ub (appB (fun x => 0) 0 (IntKind.u8.wrap q.k) j))) 1 q.p) 5 q.t j))) 9 q.n j))) 0 13)
noncomputable def qx4 (q : Qd) := (rqR (fun j => ud (ub (fourB (fun j => ud (ub (fourB (fun j => ud (ub (fourB (fourB (fun j => ud (ub (appB (fun x => 0) 0 (IntKind.u8.wrap q.k) j))) 1 q.p) 5 q.t j))) 9 q.x j))) 13 q.y j))) 0 17)
noncomputable def qx5 (q : Qd) := (rqR (fun j => ud (ub (appB (fun j => ud (ub (appB (fun x => 0) 0 (IntKind.u8.wrap q.k) j))) 1 (IntKind.u8.wrap ((0 : Nat) : Int)) j))) 0 2)
noncomputable def nc0 (q : Qd) : Bool := yes (9 ≤ maxCells ∧ 1 = 1 ∧ (fun j => ub (appB (fun x => 0) 0 (IntKind.u8.wrap q.k) j)) = fun j => ub (ud (ub (appB (fun x => 0) 0 (IntKind.u8.wrap q.k) j))))
noncomputable def nc1 (q : Qd) : Bool := yes (13 ≤ maxCells ∧ 9 = 9 ∧ (fun j => ub (fourB (fourB (fun j => ud (ub (appB (fun x => 0) 0 (IntKind.u8.wrap q.k) j))) 1 q.p) 5 q.t j)) = fun j => ub (ud (ub (fourB (fourB (fun j => ud (ub (appB (fun x => 0) 0 (IntKind.u8.wrap q.k) j))) 1 q.p) 5 q.t j))))
noncomputable def nc2 (P : Nat → Opp) : Bool := yes ((fun j => encO (P j)) = fun j => encO (decO (encO (P j))))
noncomputable def nc3 (q : Qd) : Bool := yes (1 ≤ 1 ∧ ((fun j => ub (appB (fun x => 0) 0 (IntKind.u8.wrap q.k) j)) = fun j => ub (ud (ub (appB (fun x => 0) 0 (IntKind.u8.wrap q.k) j)))) ∧ rng fun j => ud (ub (appB (fun x => 0) 0 (IntKind.u8.wrap q.k) j)))
noncomputable def nc4 (q : Qd) : Bool := yes (17 ≤ maxCells ∧ 13 = 13 ∧ (fun j => ub (fourB (fun j => ud (ub (fourB (fourB (fun j => ud (ub (appB (fun x => 0) 0 (IntKind.u8.wrap q.k) j))) 1 q.p) 5 q.t j))) 9 q.x j)) = fun j => ub (ud (ub (fourB (fun j => ud (ub (fourB (fourB (fun j => ud (ub (appB (fun x => 0) 0 (IntKind.u8.wrap q.k) j))) 1 q.p) 5 q.t j))) 9 q.x j))))
noncomputable def nc5 (q : Qd) (m : Nat) (P : Nat → Opp) : Bool := yes (m = m ∧ 1 = 1 ∧ ((fun j => encO (P j)) = fun j => encO (decO (encO (P j)))) ∧ ((fun j => ub (appB (fun x => 0) 0 (IntKind.u8.wrap q.k) j)) = fun j => ub (ud (ub (appB (fun x => 0) 0 (IntKind.u8.wrap q.k) j)))) ∧ wqLen (fun j => decO (encO (P j))) 2 m ≤ maxCells)
noncomputable def nc6 (q : Qd) (m : Nat) (P : Nat → Opp) : Bool := wqBad (fun j => decO (encO (P j))) (wqZ m (false || !byOk q.k) || !byOk ((m : Nat) : Int)) m
noncomputable def nc7 (q : Qd) : Bool := yes (sameF { k := (qx0 q).fst.k, n := (qx0 q).fst.n, p := (qx0 q).fst.p, t := (qx0 q).fst.t, x := (qx0 q).fst.x, y := (qx0 q).fst.y, o := [] } { k := q.k, n := q.n, p := q.p, t := q.t, x := q.x, y := q.y, o := [] })
noncomputable def nc8 (q : Qd) : Bool := yes (9 ≤ 9 ∧ ((fun j => ub (fourB (fourB (fun j => ud (ub (appB (fun x => 0) 0 (IntKind.u8.wrap q.k) j))) 1 q.p) 5 q.t j)) = fun j => ub (ud (ub (fourB (fourB (fun j => ud (ub (appB (fun x => 0) 0 (IntKind.u8.wrap q.k) j))) 1 q.p) 5 q.t j)))) ∧ rng fun j => ud (ub (fourB (fourB (fun j => ud (ub (appB (fun x => 0) 0 (IntKind.u8.wrap q.k) j))) 1 q.p) 5 q.t j)))
noncomputable def nc9 (q : Qd) : Bool := yes (13 ≤ 13 ∧ ((fun j => ub (fourB (fun j => ud (ub (fourB (fourB (fun j => ud (ub (appB (fun x => 0) 0 (IntKind.u8.wrap q.k) j))) 1 q.p) 5 q.t j))) 9 q.n j)) = fun j => ub (ud (ub (fourB (fun j => ud (ub (fourB (fourB (fun j => ud (ub (appB (fun x => 0) 0 (IntKind.u8.wrap q.k) j))) 1 q.p) 5 q.t j))) 9 q.n j)))) ∧ rng fun j => ud (ub (fourB (fun j => ud (ub (fourB (fourB (fun j => ud (ub (appB (fun x => 0) 0 (IntKind.u8.wrap q.k) j))) 1 q.p) 5 q.t j))) 9 q.n j)))
noncomputable def nc10 (q : Qd) : Bool := (false || !byOk q.k || !fits q.p || !fits q.t || !fits q.x || !fits q.y)
noncomputable def nc11 (q : Qd) : Bool := yes (17 ≤ 17 ∧ ((fun j => ub (fourB (fun j => ud (ub (fourB (fun j => ud (ub (fourB (fourB (fun j => ud (ub (appB (fun x => 0) 0 (IntKind.u8.wrap q.k) j))) 1 q.p) 5 q.t j))) 9 q.x j))) 13 q.y j)) = fun j => ub (ud (ub (fourB (fun j => ud (ub (fourB (fun j => ud (ub (fourB (fourB (fun j => ud (ub (appB (fun x => 0) 0 (IntKind.u8.wrap q.k) j))) 1 q.p) 5 q.t j))) 9 q.x j))) 13 q.y j)))) ∧ rng fun j => ud (ub (fourB (fun j => ud (ub (fourB (fun j => ud (ub (fourB (fourB (fun j => ud (ub (appB (fun x => 0) 0 (IntKind.u8.wrap q.k) j))) 1 q.p) 5 q.t j))) 9 q.x j))) 13 q.y j)))
noncomputable def nc12 (q : Qd) (m : Nat) (P : Nat → Opp) : Bool := yes (0 + wqLen (fun j => decO (encO (P j))) 2 m ≤ wqLen (fun j => decO (encO (P j))) 2 m ∧ ((fun j => ub (wqBs (fun j => decO (encO (P j))) 2 (appB (fun j => ud (ub (appB (fun x => 0) 0 (IntKind.u8.wrap q.k) j))) 1 (IntKind.u8.wrap ((m : Nat) : Int))) m j)) = fun j => ub (ud (ub (wqBs (fun j => decO (encO (P j))) 2 (appB (fun j => ud (ub (appB (fun x => 0) 0 (IntKind.u8.wrap q.k) j))) 1 (IntKind.u8.wrap ((m : Nat) : Int))) m j)))) ∧ rng fun j => ud (ub (wqBs (fun j => decO (encO (P j))) 2 (appB (fun j => ud (ub (appB (fun x => 0) 0 (IntKind.u8.wrap q.k) j))) 1 (IntKind.u8.wrap ((m : Nat) : Int))) m j)))
noncomputable def nc13 (q : Qd) (c : Nat) : Bool := yes (sameF { k := (qx0 q).fst.k, n := (qx0 q).fst.n, p := (qx0 q).fst.p, t := (qx0 q).fst.t, x := (qx0 q).fst.x, y := (qx0 q).fst.y, o := [] } { k := q.k, n := q.n, p := q.p, t := q.t, x := q.x, y := q.y, o := [] } ∧ c = 0)
theorem ren_1t {q : Qd} : (lfun reG nol 60 Try.f101 [qV q (.v (.slice none 0 0))] []).go [true, true, false, false, false, false, false, false, false, false, true, true, false, false, false] = some ([q.k == (1 : Int), yes (2 ≤ maxCells ∧ 1 = 1 ∧ (fun j => ub (appB (fun x => 0) 0 (IntKind.u8.wrap q.k) j)) = fun j => ub (ud (ub (appB (fun x => 0) 0 (IntKind.u8.wrap q.k) j)))), !(false || !byOk q.k), true, true, true, true, true, true, true, yes (2 ≤ 2 ∧ ((fun j => ub (appB (fun j => ud (ub (appB (fun x => 0) 0 (IntKind.u8.wrap q.k) j))) 1 (IntKind.u8.wrap ((0 : Nat) : Int)) j)) = fun j => ub (ud (ub (appB (fun j => ud (ub (appB (fun x => 0) 0 (IntKind.u8.wrap q.k) j))) 1 (IntKind.u8.wrap ((0 : Nat) : Int)) j)))) ∧ rng fun j => ud (ub (appB (fun j => ud (ub (appB (fun x => 0) 0 (IntKind.u8.wrap q.k) j))) 1 (IntKind.u8.wrap ((0 : Nat) : Int)) j))), (qx5 q).fst.o.isEmpty, true, true, true, !yes (sameF { k := (qx5 q).fst.k, n := (qx5 q).fst.n, p := (qx5 q).fst.p, t := (qx5 q).fst.t, x := (qx5 q).fst.x, y := (qx5 q).fst.y, o := [] } { k := q.k, n := q.n, p := q.p, t := q.t, x := q.x, y := q.y, o := [] })], .tup [.c (.v (.slice none 0 0)), Bo false], []) := by kernel_rfl
theorem ren_1f {q : Qd} : (lfun reG nol 60 Try.f101 [qV q (.v (.slice none 0 0))] []).go [true, true, false, false, false, false, false, false, false, false, true, true, false, false, false, false] = some ([q.k == (1 : Int), yes (2 ≤ maxCells ∧ 1 = 1 ∧ (fun j => ub (appB (fun x => 0) 0 (IntKind.u8.wrap q.k) j)) = fun j => ub (ud (ub (appB (fun x => 0) 0 (IntKind.u8.wrap q.k) j)))), !(false || !byOk q.k), true, true, true, true, true, true, true, yes (2 ≤ 2 ∧ ((fun j => ub (appB (fun j => ud (ub (appB (fun x => 0) 0 (IntKind.u8.wrap q.k) j))) 1 (IntKind.u8.wrap ((0 : Nat) : Int)) j)) = fun j => ub (ud (ub (appB (fun j => ud (ub (appB (fun x => 0) 0 (IntKind.u8.wrap q.k) j))) 1 (IntKind.u8.wrap ((0 : Nat) : Int)) j)))) ∧ rng fun j => ud (ub (appB (fun j => ud (ub (appB (fun x => 0) 0 (IntKind.u8.wrap q.k) j))) 1 (IntKind.u8.wrap ((0 : Nat) : Int)) j))), (qx5 q).fst.o.isEmpty, true, true, true, !!yes (sameF { k := (qx5 q).fst.k, n := (qx5 q).fst.n, p := (qx5 q).fst.p, t := (qx5 q).fst.t, x := (qx5 q).fst.x, y := (qx5 q).fst.y, o := [] } { k := q.k, n := q.n, p := q.p, t := q.t, x := q.x, y := q.y, o := [] })], .tup [.c (.sl 0 0 2), Bo true], [some ⟨5, true, .row 1 2 fun j => [.int .u8 (ud (ub (appB (fun j => ud (ub (appB (fun x => 0) 0 (IntKind.u8.wrap q.k) j))) 1 (IntKind.u8.wrap ((0 : Nat) : Int)) j)))]⟩]) := by kernel_rfl
theorem ren_2t {q : Qd} : (lfun reG nol 60 Try.f101 [qV q (.v (.slice none 0 0))] []).go [false, true, true, false, false, false, false, false, false, false, false, true, true, false, false, false] = some ([!q.k == (1 : Int), q.k == (2 : Int), true, !(false || !byOk q.k), true, true, true, true, true, true, true, nc3 q, (qx0 q).fst.o.isEmpty, true, true, true, !(nc7 q)], .tup [.c (.v (.slice none 0 0)), Bo false], []) := by kernel_rfl
theorem ren_2f {q : Qd} : (lfun reG nol 60 Try.f101 [qV q (.v (.slice none 0 0))] []).go [false, true, true, false, false, false, false, false, false, false, false, true, true, false, false, false, false] = some ([!q.k == (1 : Int), q.k == (2 : Int), true, !(false || !byOk q.k), true, true, true, true, true, true, true, nc3 q, (qx0 q).fst.o.isEmpty, true, true, true, !!(nc7 q)], .tup [.c (.sl 0 0 1), Bo true], [some ⟨5, true, .row 1 1 fun j => [.int .u8 (ud (ub (appB (fun x => 0) 0 (IntKind.u8.wrap q.k) j)))]⟩]) := by kernel_rfl
theorem ren_6t {q : Qd} : (lfun reG nol 60 Try.f101 [qV q (.v (.slice none 0 0))] []).go [false, false, true, false, false, false, false, false, false, false, false, true, true, false, false, false] = some ([!q.k == (1 : Int), !q.k == (2 : Int), q.k == (6 : Int), !(false || !byOk q.k), true, true, true, true, true, true, true, nc3 q, (qx0 q).fst.o.isEmpty, true, true, true, !(nc7 q)], .tup [.c (.v (.slice none 0 0)), Bo false], []) := by kernel_rfl
theorem ren_6f {q : Qd} : (lfun reG nol 60 Try.f101 [qV q (.v (.slice none 0 0))] []).go [false, false, true, false, false, false, false, false, false, false, false, true, true, false, false, false, false] = some ([!q.k == (1 : Int), !q.k == (2 : Int), q.k == (6 : Int), !(false || !byOk q.k), true, true, true, true, true, true, true, nc3 q, (qx0 q).fst.o.isEmpty, true, true, true, !!(nc7 q)], .tup [.c (.sl 0 0 1), Bo true], [some ⟨5, true, .row 1 1 fun j => [.int .u8 (ud (ub (appB (fun x => 0) 0 (IntKind.u8.wrap q.k) j)))]⟩]) := by kernel_rfl
theorem ren_3b {q : Qd} : (lfun reG nol 60 Try.f101 [qV q (.v (.slice none 0 0))] []).go [false, false, false] = some ([!q.k == (1 : Int), !q.k == (2 : Int), !q.k == (6 : Int), q.k == (3 : Int), nc0 q, false || !byOk q.k || !fits q.p || !fits q.t, true, true, true, true, true, true, true, true, true, true, true], .tup [.c (.v (.slice none 0 0)), Bo false], []) := by kernel_rfl
theorem ren_3t {q : Qd} : (lfun reG nol 60 Try.f101 [qV q (.v (.slice none 0 0))] []).go [false, false, false, true, true, false, false, false, false, false, false, false, false, true, true, false, false, false] = some ([!q.k == (1 : Int), !q.k == (2 : Int), !q.k == (6 : Int), q.k == (3 : Int), nc0 q, !(false || !byOk q.k || !fits q.p || !fits q.t), true, true, true, true, true, true, true, nc8 q, (qx2 q).fst.o.isEmpty, true, true, true, !yes (sameF { k := (qx2 q).fst.k, n := (qx2 q).fst.n, p := (qx2 q).fst.p, t := (qx2 q).fst.t, x := (qx2 q).fst.x, y := (qx2 q).fst.y, o := [] } { k := q.k, n := q.n, p := q.p, t := q.t, x := q.x, y := q.y, o := [] })], .tup [.c (.v (.slice none 0 0)), Bo false], []) := by kernel_rfl
theorem ren_3f {q : Qd} : (lfun reG nol 60 Try.f101 [qV q (.v (.slice none 0 0))] []).go [false, false, false, true, true, false, false, false, false, false, false, false, false, true, true, false, false, false, false] = some ([!q.k == (1 : Int), !q.k == (2 : Int), !q.k == (6 : Int), q.k == (3 : Int), nc0 q, !(false || !byOk q.k || !fits q.p || !fits q.t), true, true, true, true, true, true, true, nc8 q, (qx2 q).fst.o.isEmpty, true, true, true, !!yes (sameF { k := (qx2 q).fst.k, n := (qx2 q).fst.n, p := (qx2 q).fst.p, t := (qx2 q).fst.t, x := (qx2 q).fst.x, y := (qx2 q).fst.y, o := [] } { k := q.k, n := q.n, p := q.p, t := q.t, x := q.x, y := q.y, o := [] })], .tup [.c (.sl 0 0 9), Bo true], [some ⟨5, true, .row 1 9 fun j => [.int .u8 (ud (ub (fourB (fourB (fun j => ud (ub (appB (fun x => 0) 0 (IntKind.u8.wrap q.k) j))) 1 q.p) 5 q.t j)))]⟩]) := by kernel_rfl
theorem ren_4b {q : Qd} : (lfun reG nol 60 Try.f101 [qV q (.v (.slice none 0 0))] []).go [false, false, false, false] = some ([!q.k == (1 : Int), !q.k == (2 : Int), !q.k == (6 : Int), !q.k == (3 : Int), q.k == (4 : Int), nc0 q, nc1 q, false || !byOk q.k || !fits q.p || !fits q.t || !fits q.n, true, true, true, true, true, true, true, true, true, true, true], .tup [.c (.v (.slice none 0 0)), Bo false], []) := by kernel_rfl
theorem ren_4t {q : Qd} : (lfun reG nol 60 Try.f101 [qV q (.v (.slice none 0 0))] []).go [false, false, false, false, true, true, true, false, false, false, false, false, false, false, false, true, true, false, false, false] = some ([!q.k == (1 : Int), !q.k == (2 : Int), !q.k == (6 : Int), !q.k == (3 : Int), q.k == (4 : Int), nc0 q, nc1 q, !(false || !byOk q.k || !fits q.p || !fits q.t || !fits q.n), true, true, true, true, true, true, true, nc9 q, (qx3 q).fst.o.isEmpty, true, true, true, !yes (sameF { k := (qx3 q).fst.k, n := (qx3 q).fst.n, p := (qx3 q).fst.p, t := (qx3 q).fst.t, x := (qx3 q).fst.x, y := (qx3 q).fst.y, o := [] } { k := q.k, n := q.n, p := q.p, t := q.t, x := q.x, y := q.y, o := [] })], .tup [.c (.v (.slice none 0 0)), Bo false], []) := by kernel_rfl
theorem ren_4f {q : Qd} : (lfun reG nol 60 Try.f101 [qV q (.v (.slice none 0 0))] []).go [false, false, false, false, true, true, true, false, false, false, false, false, false, false, false, true, true, false, false, false, false] = some ([!q.k == (1 : Int), !q.k == (2 : Int), !q.k == (6 : Int), !q.k == (3 : Int), q.k == (4 : Int), nc0 q, nc1 q, !(false || !byOk q.k || !fits q.p || !fits q.t || !fits q.n), true, true, true, true, true, true, true, nc9 q, (qx3 q).fst.o.isEmpty, true, true, true, !!yes (sameF { k := (qx3 q).fst.k, n := (qx3 q).fst.n, p := (qx3 q).fst.p, t := (qx3 q).fst.t, x := (qx3 q).fst.x, y := (qx3 q).fst.y, o := [] } { k := q.k, n := q.n, p := q.p, t := q.t, x := q.x, y := q.y, o := [] })], .tup [.c (.sl 0 0 13), Bo true], [some ⟨5, true, .row 1 13 fun j => [.int .u8 (ud (ub (fourB (fun j => ud (ub (fourB (fourB (fun j => ud (ub (appB (fun x => 0) 0 (IntKind.u8.wrap q.k) j))) 1 q.p) 5 q.t j))) 9 q.n j)))]⟩]) := by kernel_rfl
theorem ren_5b {q : Qd} : (lfun reG nol 60 Try.f101 [qV q (.v (.slice none 0 0))] []).go [false, false, false, false, false] = some ([!q.k == (1 : Int), !q.k == (2 : Int), !q.k == (6 : Int), !q.k == (3 : Int), !q.k == (4 : Int), q.k == (5 : Int), nc0 q, nc1 q, nc4 q, false || !byOk q.k || !fits q.p || !fits q.t || !fits q.x || !fits q.y, true, true, true, true, true, true, true, true, true, true, true], .tup [.c (.v (.slice none 0 0)), Bo false], []) := by kernel_rfl
theorem ren_5t {q : Qd} : (lfun reG nol 60 Try.f101 [qV q (.v (.slice none 0 0))] []).go [false, false, false, false, false, true, true, true, true, false, false, false, false, false, false, false, false, true, true, false, false, false] = some ([!q.k == (1 : Int), !q.k == (2 : Int), !q.k == (6 : Int), !q.k == (3 : Int), !q.k == (4 : Int), q.k == (5 : Int), nc0 q, nc1 q, nc4 q, !(nc10 q), true, true, true, true, true, true, true, nc11 q, (qx4 q).fst.o.isEmpty, true, true, true, !yes (sameF { k := (qx4 q).fst.k, n := (qx4 q).fst.n, p := (qx4 q).fst.p, t := (qx4 q).fst.t, x := (qx4 q).fst.x, y := (qx4 q).fst.y, o := [] } { k := q.k, n := q.n, p := q.p, t := q.t, x := q.x, y := q.y, o := [] })], .tup [.c (.v (.slice none 0 0)), Bo false], []) := by kernel_rfl
theorem ren_5f {q : Qd} : (lfun reG nol 60 Try.f101 [qV q (.v (.slice none 0 0))] []).go [false, false, false, false, false, true, true, true, true, false, false, false, false, false, false, false, false, true, true, false, false, false, false] = some ([!q.k == (1 : Int), !q.k == (2 : Int), !q.k == (6 : Int), !q.k == (3 : Int), !q.k == (4 : Int), q.k == (5 : Int), nc0 q, nc1 q, nc4 q, !(nc10 q), true, true, true, true, true, true, true, nc11 q, (qx4 q).fst.o.isEmpty, true, true, true, !!yes (sameF { k := (qx4 q).fst.k, n := (qx4 q).fst.n, p := (qx4 q).fst.p, t := (qx4 q).fst.t, x := (qx4 q).fst.x, y := (qx4 q).fst.y, o := [] } { k := q.k, n := q.n, p := q.p, t := q.t, x := q.x, y := q.y, o := [] })], .tup [.c (.sl 0 0 17), Bo true], [some ⟨5, true, .row 1 17 fun j => [.int .u8 (ud (ub (fourB (fun j => ud (ub (fourB (fun j => ud (ub (fourB (fourB (fun j => ud (ub (appB (fun x => 0) 0 (IntKind.u8.wrap q.k) j))) 1 q.p) 5 q.t j))) 9 q.x j))) 13 q.y j)))]⟩]) := by kernel_rfl
theorem ren_x {q : Qd} : (lfun reG nol 60 Try.f101 [qV q (.v (.slice none 0 0))] []).go [false, false, false, false, false, false] = some ([!q.k == (1 : Int), !q.k == (2 : Int), !q.k == (6 : Int), !q.k == (3 : Int), !q.k == (4 : Int), !q.k == (5 : Int)], .tup [.c (.v (.slice none 0 0)), Bo false], []) := by kernel_rfl
theorem res_1b {q : Qd} {o : Bool} {m : Nat} {P : Nat → Opp} : (lfun reG nol 60 Try.f101 [qV q (.sl 0 0 m)] [rowP o m P]).go [] = some ([q.k == (1 : Int), nc5 q m P, nc6 q m P, true, true, true, true, true, true, true, true, true, true, true], .tup [.c (.v (.slice none 0 0)), Bo false], [some ⟨121, o, .row 5 m fun j => [.int .i64 (decO (encO (P j))).k, .int .i64 (decO (encO (P j))).i, .int .i64 (decO (encO (P j))).a, .int .i64 (decO (encO (P j))).b, .string (decO (encO (P j))).s]⟩]) := by kernel_rfl
theorem res_1t {q : Qd} {o : Bool} {m : Nat} {P : Nat → Opp} : (lfun reG nol 60 Try.f101 [qV q (.sl 0 0 m)] [rowP o m P]).go [true, true, false, false, false, false, false, false, false, false, true, true, false, true, false, false] = some ([q.k == (1 : Int), nc5 q m P, !(nc6 q m P), true, true, true, true, true, true, true, nc12 q m P, (qx1 q m P).fst.o.isEmpty, true, yes ((fun j => encO (decO (encO (P j)))) = fun j => encO (decO (encO (decO (encO (P j)))))), true, true, !yes (sameF { k := (qx1 q m P).fst.k, n := (qx1 q m P).fst.n, p := (qx1 q m P).fst.p, t := (qx1 q m P).fst.t, x := (qx1 q m P).fst.x, y := (qx1 q m P).fst.y, o := [] } { k := q.k, n := q.n, p := q.p, t := q.t, x := q.x, y := q.y, o := [] } ∧ m = 0)], .tup [.c (.v (.slice none 0 0)), Bo false], [some ⟨121, o, .row 5 m fun j => [.int .i64 (decO (encO (decO (encO (P j))))).k, .int .i64 (decO (encO (decO (encO (P j))))).i, .int .i64 (decO (encO (decO (encO (P j))))).a, .int .i64 (decO (encO (decO (encO (P j))))).b, .string (decO (encO (decO (encO (P j))))).s]⟩]) := by kernel_rfl
theorem res_1f {q : Qd} {o : Bool} {m : Nat} {P : Nat → Opp} : (lfun reG nol 60 Try.f101 [qV q (.sl 0 0 m)] [rowP o m P]).go [true, true, false, false, false, false, false, false, false, false, true, true, false, true, false, false, false] = some ([q.k == (1 : Int), nc5 q m P, !(nc6 q m P), true, true, true, true, true, true, true, nc12 q m P, (qx1 q m P).fst.o.isEmpty, true, yes ((fun j => encO (decO (encO (P j)))) = fun j => encO (decO (encO (decO (encO (P j)))))), true, true, !!yes (sameF { k := (qx1 q m P).fst.k, n := (qx1 q m P).fst.n, p := (qx1 q m P).fst.p, t := (qx1 q m P).fst.t, x := (qx1 q m P).fst.x, y := (qx1 q m P).fst.y, o := [] } { k := q.k, n := q.n, p := q.p, t := q.t, x := q.x, y := q.y, o := [] } ∧ m = 0)], .tup [.c (.sl 1 0 (wqLen (fun j => decO (encO (P j))) 2 m)), Bo true], [some ⟨121, o, .row 5 m fun j => [.int .i64 (decO (encO (decO (encO (P j))))).k, .int .i64 (decO (encO (decO (encO (P j))))).i, .int .i64 (decO (encO (decO (encO (P j))))).a, .int .i64 (decO (encO (decO (encO (P j))))).b, .string (decO (encO (decO (encO (P j))))).s]⟩, some ⟨5, true, .row 1 (wqLen (fun j => decO (encO (P j))) 2 m) fun j => [.int .u8 (ud (ub (wqBs (fun j => decO (encO (P j))) 2 (appB (fun j => ud (ub (appB (fun x => 0) 0 (IntKind.u8.wrap q.k) j))) 1 (IntKind.u8.wrap ((m : Nat) : Int))) m j)))]⟩]) := by kernel_rfl
theorem res_1T {q : Qd} {o : Bool} {m : Nat} {P : Nat → Opp} : (lfun reG nol 60 Try.f101 [qV q (.sl 0 0 m)] [rowP o m P]).go [true, true, false, false, false, false, false, false, false, false, true, false, false, true, false, false] = some ([q.k == (1 : Int), nc5 q m P, !(nc6 q m P), true, true, true, true, true, true, true, nc12 q m P, !(qx1 q m P).fst.o.isEmpty, true, yes ((qx1 q m P).fst.o.length ≤ (qx1 q m P).fst.o.length ∧ m ≤ m ∧ (qx1 q m P).fst.o.length < 2 ^ 60 ∧ ((fun j => encO (gP (qx1 q m P).fst.o j)) = fun j => encO (decO (encO (gP (qx1 q m P).fst.o j)))) ∧ (fun j => encO (decO (encO (P j)))) = fun j => encO (decO (encO (decO (encO (P j)))))), true, true, !yes (sameF { k := (qx1 q m P).fst.k, n := (qx1 q m P).fst.n, p := (qx1 q m P).fst.p, t := (qx1 q m P).fst.t, x := (qx1 q m P).fst.x, y := (qx1 q m P).fst.y, o := [] } { k := q.k, n := q.n, p := q.p, t := q.t, x := q.x, y := q.y, o := [] } ∧ (qx1 q m P).fst.o.length = m ∧ ∀ (t : Nat), t < (qx1 q m P).fst.o.length → decO (encO (gP (qx1 q m P).fst.o t)) = decO (encO (decO (encO (P t)))))], .tup [.c (.v (.slice none 0 0)), Bo false], [some ⟨121, o, .row 5 m fun j => [.int .i64 (decO (encO (decO (encO (P j))))).k, .int .i64 (decO (encO (decO (encO (P j))))).i, .int .i64 (decO (encO (decO (encO (P j))))).a, .int .i64 (decO (encO (decO (encO (P j))))).b, .string (decO (encO (decO (encO (P j))))).s]⟩]) := by kernel_rfl
theorem res_1F {q : Qd} {o : Bool} {m : Nat} {P : Nat → Opp} : (lfun reG nol 60 Try.f101 [qV q (.sl 0 0 m)] [rowP o m P]).go [true, true, false, false, false, false, false, false, false, false, true, false, false, true, false, false, false] = some ([q.k == (1 : Int), nc5 q m P, !(nc6 q m P), true, true, true, true, true, true, true, nc12 q m P, !(qx1 q m P).fst.o.isEmpty, true, yes ((qx1 q m P).fst.o.length ≤ (qx1 q m P).fst.o.length ∧ m ≤ m ∧ (qx1 q m P).fst.o.length < 2 ^ 60 ∧ ((fun j => encO (gP (qx1 q m P).fst.o j)) = fun j => encO (decO (encO (gP (qx1 q m P).fst.o j)))) ∧ (fun j => encO (decO (encO (P j)))) = fun j => encO (decO (encO (decO (encO (P j)))))), true, true, !!yes (sameF { k := (qx1 q m P).fst.k, n := (qx1 q m P).fst.n, p := (qx1 q m P).fst.p, t := (qx1 q m P).fst.t, x := (qx1 q m P).fst.x, y := (qx1 q m P).fst.y, o := [] } { k := q.k, n := q.n, p := q.p, t := q.t, x := q.x, y := q.y, o := [] } ∧ (qx1 q m P).fst.o.length = m ∧ ∀ (t : Nat), t < (qx1 q m P).fst.o.length → decO (encO (gP (qx1 q m P).fst.o t)) = decO (encO (decO (encO (P t)))))], .tup [.c (.sl 1 0 (wqLen (fun j => decO (encO (P j))) 2 m)), Bo true], [some ⟨121, o, .row 5 m fun j => [.int .i64 (decO (encO (decO (encO (P j))))).k, .int .i64 (decO (encO (decO (encO (P j))))).i, .int .i64 (decO (encO (decO (encO (P j))))).a, .int .i64 (decO (encO (decO (encO (P j))))).b, .string (decO (encO (decO (encO (P j))))).s]⟩, some ⟨5, true, .row 1 (wqLen (fun j => decO (encO (P j))) 2 m) fun j => [.int .u8 (ud (ub (wqBs (fun j => decO (encO (P j))) 2 (appB (fun j => ud (ub (appB (fun x => 0) 0 (IntKind.u8.wrap q.k) j))) 1 (IntKind.u8.wrap ((m : Nat) : Int))) m j)))]⟩]) := by kernel_rfl
theorem res_2t {q : Qd} {o : Bool} {c m : Nat} {P : Nat → Opp} : (lfun reG nol 60 Try.f101 [qV q (.sl 0 0 c)] [rowP o m P]).go [false, true, true, false, false, false, false, false, false, false, false, true, true, false, true, false, false] = some ([!q.k == (1 : Int), q.k == (2 : Int), true, !(false || !byOk q.k), true, true, true, true, true, true, true, nc3 q, (qx0 q).fst.o.isEmpty, true, nc2 P, true, true, !(nc13 q c)], .tup [.c (.v (.slice none 0 0)), Bo false], [some ⟨121, o, .row 5 m fun j => [.int .i64 (decO (encO (P j))).k, .int .i64 (decO (encO (P j))).i, .int .i64 (decO (encO (P j))).a, .int .i64 (decO (encO (P j))).b, .string (decO (encO (P j))).s]⟩]) := by kernel_rfl
theorem res_2f {q : Qd} {o : Bool} {c m : Nat} {P : Nat → Opp} : (lfun reG nol 60 Try.f101 [qV q (.sl 0 0 c)] [rowP o m P]).go [false, true, true, false, false, false, false, false, false, false, false, true, true, false, true, false, false, false] = some ([!q.k == (1 : Int), q.k == (2 : Int), true, !(false || !byOk q.k), true, true, true, true, true, true, true, nc3 q, (qx0 q).fst.o.isEmpty, true, nc2 P, true, true, !!(nc13 q c)], .tup [.c (.sl 1 0 1), Bo true], [some ⟨121, o, .row 5 m fun j => [.int .i64 (decO (encO (P j))).k, .int .i64 (decO (encO (P j))).i, .int .i64 (decO (encO (P j))).a, .int .i64 (decO (encO (P j))).b, .string (decO (encO (P j))).s]⟩, some ⟨5, true, .row 1 1 fun j => [.int .u8 (ud (ub (appB (fun x => 0) 0 (IntKind.u8.wrap q.k) j)))]⟩]) := by kernel_rfl
theorem res_6t {q : Qd} {o : Bool} {c m : Nat} {P : Nat → Opp} : (lfun reG nol 60 Try.f101 [qV q (.sl 0 0 c)] [rowP o m P]).go [false, false, true, false, false, false, false, false, false, false, false, true, true, false, true, false, false] = some ([!q.k == (1 : Int), !q.k == (2 : Int), q.k == (6 : Int), !(false || !byOk q.k), true, true, true, true, true, true, true, nc3 q, (qx0 q).fst.o.isEmpty, true, nc2 P, true, true, !(nc13 q c)], .tup [.c (.v (.slice none 0 0)), Bo false], [some ⟨121, o, .row 5 m fun j => [.int .i64 (decO (encO (P j))).k, .int .i64 (decO (encO (P j))).i, .int .i64 (decO (encO (P j))).a, .int .i64 (decO (encO (P j))).b, .string (decO (encO (P j))).s]⟩]) := by kernel_rfl
theorem res_6f {q : Qd} {o : Bool} {c m : Nat} {P : Nat → Opp} : (lfun reG nol 60 Try.f101 [qV q (.sl 0 0 c)] [rowP o m P]).go [false, false, true, false, false, false, false, false, false, false, false, true, true, false, true, false, false, false] = some ([!q.k == (1 : Int), !q.k == (2 : Int), q.k == (6 : Int), !(false || !byOk q.k), true, true, true, true, true, true, true, nc3 q, (qx0 q).fst.o.isEmpty, true, nc2 P, true, true, !!(nc13 q c)], .tup [.c (.sl 1 0 1), Bo true], [some ⟨121, o, .row 5 m fun j => [.int .i64 (decO (encO (P j))).k, .int .i64 (decO (encO (P j))).i, .int .i64 (decO (encO (P j))).a, .int .i64 (decO (encO (P j))).b, .string (decO (encO (P j))).s]⟩, some ⟨5, true, .row 1 1 fun j => [.int .u8 (ud (ub (appB (fun x => 0) 0 (IntKind.u8.wrap q.k) j)))]⟩]) := by kernel_rfl
theorem res_3b {q : Qd} {o : Bool} {c m : Nat} {P : Nat → Opp} : (lfun reG nol 60 Try.f101 [qV q (.sl 0 0 c)] [rowP o m P]).go [false, false, false] = some ([!q.k == (1 : Int), !q.k == (2 : Int), !q.k == (6 : Int), q.k == (3 : Int), nc0 q, false || !byOk q.k || !fits q.p || !fits q.t, true, true, true, true, true, true, true, true, true, true, true], .tup [.c (.v (.slice none 0 0)), Bo false], [some ⟨121, o, .row 5 m fun j => [.int .i64 (P j).k, .int .i64 (P j).i, .int .i64 (P j).a, .int .i64 (P j).b, .string (P j).s]⟩]) := by kernel_rfl
theorem res_3t {q : Qd} {o : Bool} {c m : Nat} {P : Nat → Opp} : (lfun reG nol 60 Try.f101 [qV q (.sl 0 0 c)] [rowP o m P]).go [false, false, false, true, true, false, false, false, false, false, false, false, false, true, true, false, true, false, false] = some ([!q.k == (1 : Int), !q.k == (2 : Int), !q.k == (6 : Int), q.k == (3 : Int), nc0 q, !(false || !byOk q.k || !fits q.p || !fits q.t), true, true, true, true, true, true, true, nc8 q, (qx2 q).fst.o.isEmpty, true, nc2 P, true, true, !yes (sameF { k := (qx2 q).fst.k, n := (qx2 q).fst.n, p := (qx2 q).fst.p, t := (qx2 q).fst.t, x := (qx2 q).fst.x, y := (qx2 q).fst.y, o := [] } { k := q.k, n := q.n, p := q.p, t := q.t, x := q.x, y := q.y, o := [] } ∧ c = 0)], .tup [.c (.v (.slice none 0 0)), Bo false], [some ⟨121, o, .row 5 m fun j => [.int .i64 (decO (encO (P j))).k, .int .i64 (decO (encO (P j))).i, .int .i64 (decO (encO (P j))).a, .int .i64 (decO (encO (P j))).b, .string (decO (encO (P j))).s]⟩]) := by kernel_rfl
theorem res_3f {q : Qd} {o : Bool} {c m : Nat} {P : Nat → Opp} : (lfun reG nol 60 Try.f101 [qV q (.sl 0 0 c)] [rowP o m P]).go [false, false, false, true, true, false, false, false, false, false, false, false, false, true, true, false, true, false, false, false] = some ([!q.k == (1 : Int), !q.k == (2 : Int), !q.k == (6 : Int), q.k == (3 : Int), nc0 q, !(false || !byOk q.k || !fits q.p || !fits q.t), true, true, true, true, true, true, true, nc8 q, (qx2 q).fst.o.isEmpty, true, nc2 P, true, true, !!yes (sameF { k := (qx2 q).fst.k, n := (qx2 q).fst.n, p := (qx2 q).fst.p, t := (qx2 q).fst.t, x := (qx2 q).fst.x, y := (qx2 q).fst.y, o := [] } { k := q.k, n := q.n, p := q.p, t := q.t, x := q.x, y := q.y, o := [] } ∧ c = 0)], .tup [.c (.sl 1 0 9), Bo true], [some ⟨121, o, .row 5 m fun j => [.int .i64 (decO (encO (P j))).k, .int .i64 (decO (encO (P j))).i, .int .i64 (decO (encO (P j))).a, .int .i64 (decO (encO (P j))).b, .string (decO (encO (P j))).s]⟩, some ⟨5, true, .row 1 9 fun j => [.int .u8 (ud (ub (fourB (fourB (fun j => ud (ub (appB (fun x => 0) 0 (IntKind.u8.wrap q.k) j))) 1 q.p) 5 q.t j)))]⟩]) := by kernel_rfl
theorem res_4b {q : Qd} {o : Bool} {c m : Nat} {P : Nat → Opp} : (lfun reG nol 60 Try.f101 [qV q (.sl 0 0 c)] [rowP o m P]).go [false, false, false, false] = some ([!q.k == (1 : Int), !q.k == (2 : Int), !q.k == (6 : Int), !q.k == (3 : Int), q.k == (4 : Int), nc0 q, nc1 q, false || !byOk q.k || !fits q.p || !fits q.t || !fits q.n, true, true, true, true, true, true, true, true, true, true, true], .tup [.c (.v (.slice none 0 0)), Bo false], [some ⟨121, o, .row 5 m fun j => [.int .i64 (P j).k, .int .i64 (P j).i, .int .i64 (P j).a, .int .i64 (P j).b, .string (P j).s]⟩]) := by kernel_rfl
theorem res_4t {q : Qd} {o : Bool} {c m : Nat} {P : Nat → Opp} : (lfun reG nol 60 Try.f101 [qV q (.sl 0 0 c)] [rowP o m P]).go [false, false, false, false, true, true, true, false, false, false, false, false, false, false, false, true, true, false, true, false, false] = some ([!q.k == (1 : Int), !q.k == (2 : Int), !q.k == (6 : Int), !q.k == (3 : Int), q.k == (4 : Int), nc0 q, nc1 q, !(false || !byOk q.k || !fits q.p || !fits q.t || !fits q.n), true, true, true, true, true, true, true, nc9 q, (qx3 q).fst.o.isEmpty, true, nc2 P, true, true, !yes (sameF { k := (qx3 q).fst.k, n := (qx3 q).fst.n, p := (qx3 q).fst.p, t := (qx3 q).fst.t, x := (qx3 q).fst.x, y := (qx3 q).fst.y, o := [] } { k := q.k, n := q.n, p := q.p, t := q.t, x := q.x, y := q.y, o := [] } ∧ c = 0)], .tup [.c (.v (.slice none 0 0)), Bo false], [some ⟨121, o, .row 5 m fun j => [.int .i64 (decO (encO (P j))).k, .int .i64 (decO (encO (P j))).i, .int .i64 (decO (encO (P j))).a, .int .i64 (decO (encO (P j))).b, .string (decO (encO (P j))).s]⟩]) := by kernel_rfl
theorem res_4f {q : Qd} {o : Bool} {c m : Nat} {P : Nat → Opp} : (lfun reG nol 60 Try.f101 [qV q (.sl 0 0 c)] [rowP o m P]).go [false, false, false, false, true, true, true, false, false, false, false, false, false, false, false, true, true, false, true, false, false, false] = some ([!q.k == (1 : Int), !q.k == (2 : Int), !q.k == (6 : Int), !q.k == (3 : Int), q.k == (4 : Int), nc0 q, nc1 q, !(false || !byOk q.k || !fits q.p || !fits q.t || !fits q.n), true, true, true, true, true, true, true, nc9 q, (qx3 q).fst.o.isEmpty, true, nc2 P, true, true, !!yes (sameF { k := (qx3 q).fst.k, n := (qx3 q).fst.n, p := (qx3 q).fst.p, t := (qx3 q).fst.t, x := (qx3 q).fst.x, y := (qx3 q).fst.y, o := [] } { k := q.k, n := q.n, p := q.p, t := q.t, x := q.x, y := q.y, o := [] } ∧ c = 0)], .tup [.c (.sl 1 0 13), Bo true], [some ⟨121, o, .row 5 m fun j => [.int .i64 (decO (encO (P j))).k, .int .i64 (decO (encO (P j))).i, .int .i64 (decO (encO (P j))).a, .int .i64 (decO (encO (P j))).b, .string (decO (encO (P j))).s]⟩, some ⟨5, true, .row 1 13 fun j => [.int .u8 (ud (ub (fourB (fun j => ud (ub (fourB (fourB (fun j => ud (ub (appB (fun x => 0) 0 (IntKind.u8.wrap q.k) j))) 1 q.p) 5 q.t j))) 9 q.n j)))]⟩]) := by kernel_rfl
theorem res_5b {q : Qd} {o : Bool} {c m : Nat} {P : Nat → Opp} : (lfun reG nol 60 Try.f101 [qV q (.sl 0 0 c)] [rowP o m P]).go [false, false, false, false, false] = some ([!q.k == (1 : Int), !q.k == (2 : Int), !q.k == (6 : Int), !q.k == (3 : Int), !q.k == (4 : Int), q.k == (5 : Int), nc0 q, nc1 q, nc4 q, false || !byOk q.k || !fits q.p || !fits q.t || !fits q.x || !fits q.y, true, true, true, true, true, true, true, true, true, true, true], .tup [.c (.v (.slice none 0 0)), Bo false], [some ⟨121, o, .row 5 m fun j => [.int .i64 (P j).k, .int .i64 (P j).i, .int .i64 (P j).a, .int .i64 (P j).b, .string (P j).s]⟩]) := by kernel_rfl
theorem res_5t {q : Qd} {o : Bool} {c m : Nat} {P : Nat → Opp} : (lfun reG nol 60 Try.f101 [qV q (.sl 0 0 c)] [rowP o m P]).go [false, false, false, false, false, true, true, true, true, false, false, false, false, false, false, false, false, true, true, false, true, false, false] = some ([!q.k == (1 : Int), !q.k == (2 : Int), !q.k == (6 : Int), !q.k == (3 : Int), !q.k == (4 : Int), q.k == (5 : Int), nc0 q, nc1 q, nc4 q, !(nc10 q), true, true, true, true, true, true, true, nc11 q, (qx4 q).fst.o.isEmpty, true, nc2 P, true, true, !yes (sameF { k := (qx4 q).fst.k, n := (qx4 q).fst.n, p := (qx4 q).fst.p, t := (qx4 q).fst.t, x := (qx4 q).fst.x, y := (qx4 q).fst.y, o := [] } { k := q.k, n := q.n, p := q.p, t := q.t, x := q.x, y := q.y, o := [] } ∧ c = 0)], .tup [.c (.v (.slice none 0 0)), Bo false], [some ⟨121, o, .row 5 m fun j => [.int .i64 (decO (encO (P j))).k, .int .i64 (decO (encO (P j))).i, .int .i64 (decO (encO (P j))).a, .int .i64 (decO (encO (P j))).b, .string (decO (encO (P j))).s]⟩]) := by kernel_rfl
theorem res_5f {q : Qd} {o : Bool} {c m : Nat} {P : Nat → Opp} : (lfun reG nol 60 Try.f101 [qV q (.sl 0 0 c)] [rowP o m P]).go [false, false, false, false, false, true, true, true, true, false, false, false, false, false, false, false, false, true, true, false, true, false, false, false] = some ([!q.k == (1 : Int), !q.k == (2 : Int), !q.k == (6 : Int), !q.k == (3 : Int), !q.k == (4 : Int), q.k == (5 : Int), nc0 q, nc1 q, nc4 q, !(nc10 q), true, true, true, true, true, true, true, nc11 q, (qx4 q).fst.o.isEmpty, true, nc2 P, true, true, !!yes (sameF { k := (qx4 q).fst.k, n := (qx4 q).fst.n, p := (qx4 q).fst.p, t := (qx4 q).fst.t, x := (qx4 q).fst.x, y := (qx4 q).fst.y, o := [] } { k := q.k, n := q.n, p := q.p, t := q.t, x := q.x, y := q.y, o := [] } ∧ c = 0)], .tup [.c (.sl 1 0 17), Bo true], [some ⟨121, o, .row 5 m fun j => [.int .i64 (decO (encO (P j))).k, .int .i64 (decO (encO (P j))).i, .int .i64 (decO (encO (P j))).a, .int .i64 (decO (encO (P j))).b, .string (decO (encO (P j))).s]⟩, some ⟨5, true, .row 1 17 fun j => [.int .u8 (ud (ub (fourB (fun j => ud (ub (fourB (fun j => ud (ub (fourB (fourB (fun j => ud (ub (appB (fun x => 0) 0 (IntKind.u8.wrap q.k) j))) 1 q.p) 5 q.t j))) 9 q.x j))) 13 q.y j)))]⟩]) := by kernel_rfl
theorem res_x {q : Qd} {o : Bool} {c m : Nat} {P : Nat → Opp} : (lfun reG nol 60 Try.f101 [qV q (.sl 0 0 c)] [rowP o m P]).go [false, false, false, false, false, false] = some ([!q.k == (1 : Int), !q.k == (2 : Int), !q.k == (6 : Int), !q.k == (3 : Int), !q.k == (4 : Int), !q.k == (5 : Int)], .tup [.c (.v (.slice none 0 0)), Bo false], [some ⟨121, o, .row 5 m fun j => [.int .i64 (P j).k, .int .i64 (P j).i, .int .i64 (P j).a, .int .i64 (P j).b, .string (P j).s]⟩]) := by kernel_rfl
end
section
open Go Go.RowKit
def opsP (P : Nat → Opp) (c : Nat) : List Opp := (List.range c).map P
theorem not_eq {b : Bool} (h : b = false) : (!b) = true := by rw [h]; rfl
theorem notnot {b : Bool} (h : b = true) : (!!b) = true := by rw [h]; rfl
theorem opsP_len (P : Nat → Opp) (c : Nat) : (opsP P c).length = c := by simp [opsP]
def byteL (L : List Int) : Prop := ∀ x, x ∈ L → 0 ≤ x ∧ x < 256
theorem by8_in (n : Int) : 0 ≤ by8 n ∧ by8 n < 256 := by unfold by8; omega
theorem byteL_nil : byteL [] := fun x h => by cases h
theorem byteL_cons {x : Int} {L : List Int} (hx : 0 ≤ x ∧ x < 256) (h : byteL L) : byteL (x :: L) := fun y hy => by
  rcases List.mem_cons.1 hy with rfl | hy
  · exact hx
  · exact h y hy
theorem byteL_app {A C : List Int} (h1 : byteL A) (h2 : byteL C) : byteL (A ++ C) := fun y hy => by
  rcases List.mem_append.1 hy with hy | hy
  · exact h1 y hy
  · exact h2 y hy
theorem byteL_four (n : Int) : byteL (four n) := byteL_cons (by8_in _) (byteL_cons (by8_in _) (byteL_cons (by8_in _) (byteL_cons (by8_in _) byteL_nil)))
theorem byteL_bs (s : ByteArray) : byteL (bs s) := fun y hy => by
  obtain ⟨u, _, rfl⟩ := List.mem_map.1 hy
  have := u.toNat_lt
  omega
theorem byteL_opB (o : Opp) : byteL (opB o) :=
  byteL_cons (by8_in _) (byteL_app (byteL_app (byteL_app (byteL_app (byteL_four _) (byteL_four _)) (byteL_four _)) (byteL_cons (by8_in _) (byteL_cons (by8_in _) byteL_nil))) (byteL_bs _))
theorem byteL_ops (l : List Opp) : byteL (l.flatMap opB) := fun y hy => by
  obtain ⟨o, _, hy⟩ := List.mem_flatMap.1 hy
  exact byteL_opB o y hy
theorem byteL_reqB (q : Qd) : byteL (reqB q) := by
  refine byteL_cons (by8_in _) ?_
  cases q.k == 1
  · cases q.k == 2 || q.k == 6
    · cases q.k == 3
      · cases q.k == 4
        · exact byteL_app (byteL_app (byteL_app (byteL_four _) (byteL_four _)) (byteL_four _)) (byteL_four _)
        · exact byteL_app (byteL_app (byteL_four _) (byteL_four _)) (byteL_four _)
      · exact byteL_app (byteL_four _) (byteL_four _)
    · exact byteL_nil
  · exact byteL_cons (by8_in _) (byteL_ops _)
theorem rng_gL {L : List Int} (h : byteL L) : rng (gL L) := fun j => by
  unfold gL
  by_cases hj : j < L.length
  · rw [List.getD_eq_getElem?_getD, List.getElem?_eq_getElem hj]
    exact h _ (List.getElem_mem hj)
  · rw [List.getD_eq_getElem?_getD, List.getElem?_eq_none (by omega)]
    show (0 : Int) ≤ 0 ∧ (0 : Int) < 256
    omega
def reqOk (q : Qd) : Prop := wrOk q = true ∧ bareQ q = q
theorem qd_eq (a b : Qd) : a = b ↔ sameF a b ∧ a.o = b.o := by
  constructor
  · rintro rfl; exact ⟨⟨rfl, rfl, rfl, rfl, rfl, rfl⟩, rfl⟩
  · obtain ⟨k, n, p, t, x, y, o⟩ := a
    obtain ⟨k2, n2, p2, t2, x2, y2, o2⟩ := b
    rintro ⟨⟨h1, h2, h3, h4, h5, h6⟩, h7⟩
    simp only at h1 h2 h3 h4 h5 h6 h7
    subst h1; subst h2; subst h3; subst h4; subst h5; subst h6; subst h7; rfl
theorem rq_back {q : Qd} (h : wrOk q = true) : rqR (gL (reqB q)) 0 (reqB q).length = (bareQ q, [], false) := by
  unfold rqR; rw [lst_gL, rQuery_reqB h]
theorem wq_congr {P Q : Nat → Opp} (k : Nat) (B : Nat → Int) (bad : Bool) : ∀ m, (∀ i, i < m → P i = Q i) → wqLen P k m = wqLen Q k m ∧ wqBad P bad m = wqBad Q bad m ∧ wqBs P k B m = wqBs Q k B m
  | 0, _ => ⟨rfl, rfl, rfl⟩
  | m + 1, h => by
    obtain ⟨h1, h2, h3⟩ := wq_congr k B bad m fun i hi => h i (by omega)
    simp only [wqLen, wqBad, wqBs, h1, h2, h3, h m (by omega), and_self]
theorem opsP_gP (P : Nat → Opp) (m : Nat) : ∀ i, i < m → P i = gP (opsP P m) i := fun i hi => by
  rw [gP_get _ _ (by rw [opsP_len]; exact hi)]
  simp [opsP]
theorem wq_ops (P : Nat → Opp) (m : Nat) (q : Qd) (hk : q.k = 1) (ho : q.o = opsP P m) :
    wqLen P 2 m = (reqB q).length ∧ wqBs P 2 (appB (appB (fun _ => 0) 0 (IntKind.u8.wrap q.k)) 1 (IntKind.u8.wrap (m : Nat))) m = gL (reqB q) := by
  have hc := wq_congr (P := P) (Q := gP (opsP P m)) 2 (appB (appB (fun _ => 0) 0 (IntKind.u8.wrap q.k)) 1 (IntKind.u8.wrap (m : Nat))) false m (opsP_gP P m)
  have hl := wq_list (opsP P m) [by8 q.k, by8 (m : Nat)] m (by rw [opsP_len]; exact Nat.le_refl _)
  have e0 : appB (appB (fun _ => 0) 0 (IntKind.u8.wrap q.k)) 1 (IntKind.u8.wrap (m : Nat)) = gL [by8 q.k, by8 (m : Nat)] := by
    have e1 : (fun _ => (0 : Int)) = gL [] := rfl
    rw [wrap_by8, wrap_by8, e1, gL_app' [] 0 rfl, gL_app' _ 1 rfl]
    rfl
  have er : reqB q = [by8 q.k, by8 (m : Nat)] ++ ((opsP P m).take m).flatMap opB := by
    unfold reqB
    rw [hk, ho, opsP_len, List.take_of_length_le (by rw [opsP_len]; exact Nat.le_refl _)]
    rfl
  rw [hc.1, hc.2.2, e0, er]
  exact ⟨hl.1, hl.2⟩
theorem wqBad_ops (P : Nat → Opp) (m : Nat) (q : Qd) (hk : q.k = 1) (ho : q.o = opsP P m) : wqBad P (wqZ m (false || !byOk q.k) || !byOk (m : Nat)) m = !wrOk q := by
  have hc := wq_congr (P := P) (Q := gP (opsP P m)) 2 (fun _ => 0) (wqZ m (false || !byOk q.k) || !byOk (m : Nat)) m (opsP_gP P m)
  rw [hc.2.1, wqBad_eq _ _ _ (by rw [opsP_len]; exact Nat.le_refl _), List.take_of_length_le (by rw [opsP_len]; exact Nat.le_refl _)]
  have ew : wrOk q = (decide (m ≤ 100) && allOk (opsP P m)) := by
    unfold wrOk
    rw [hk, ho, opsP_len]
    rfl
  rw [ew]
  have ek : byOk q.k = true := by rw [hk]; rfl
  unfold wqZ
  rw [ek]
  have : (((false || !true) || decide (((m : Nat) : Int) > 100)) || !byOk ((m : Nat) : Int)) = !decide (m ≤ 100) := by
    unfold byOk
    by_cases h : m ≤ 100
    · rw [decide_eq_true h, decide_eq_false (by omega), decide_eq_true (by omega), decide_eq_true (by omega)]; rfl
    · rw [decide_eq_false h, decide_eq_true (by omega)]; rfl
  rw [this]
  cases decide (m ≤ 100) <;> cases allOk (opsP P m) <;> rfl
/- What a request gives. -/
open Classical in
noncomputable def reN (q : Qd) : AV × AHeap := if reqOk q then (.tup [.c (.sl 0 0 (reqB q).length), Bo true], [rowU true (reqB q).length (gL (reqB q))]) else (.tup [.c (.v (.slice none 0 0)), Bo false], [])
open Classical in
noncomputable def reS (q : Qd) (o : Bool) (m : Nat) (P : Nat → Opp) : AV × AHeap := if reqOk q then (.tup [.c (.sl 1 0 (reqB q).length), Bo true], [rowP o m P, rowU true (reqB q).length (gL (reqB q))]) else (.tup [.c (.v (.slice none 0 0)), Bo false], [rowP o m P])
end
section
open Go Go.RowKit
theorem byteL_ansB (a : Rd) : byteL (ansB a) := by
  refine byteL_cons (by8_in _) ?_
  cases a.k == 1
  · cases a.k == 2
    · cases a.k == 3
      · cases a.k == 4
        · exact byteL_four _
        · exact byteL_app (byteL_app (byteL_app (byteL_four _) (byteL_four _)) (byteL_four _)) (byteL_four _)
      · exact byteL_app (byteL_four _) (byteL_four _)
    · exact byteL_cons (by8_in _) (byteL_four _)
  · exact byteL_nil
theorem rr_back {a : Rd} (h : anW a = true) : rrR (gL (ansB a)) 0 (ansB a).length = (bareR a, [], false) := by
  unfold rrR; rw [lst_gL]
  have := rReply_ansB h []
  rwa [List.append_nil] at this
def eqR (r a : Rd) : Bool := r.k == a.k && (r.e == a.e && (r.a == a.a && (r.n == a.n && (r.p == a.p && (r.t == a.t && (r.x == a.x && (r.y == a.y && (r.w == a.w && (r.h == a.h && true)))))))))
theorem eqR_iff (r a : Rd) : eqR r a = true ↔ r = a := by
  cases r; cases a
  simp [eqR]
theorem eqR_no {r a : Rd} (h : ¬ r = a) : eqR r a = false := by
  rw [← Bool.not_eq_true, eqR_iff]; exact h
def anOk (a : Rd) : Prop := anW a = true ∧ tellR a = a
open Classical in
noncomputable def anO (a : Rd) : AV × AHeap := if anOk a then (.tup [.c (.sl 0 0 (ansB a).length), Bo true], [rowU true (ansB a).length (gL (ansB a))]) else (.tup [.c (.v (.slice none 0 0)), Bo false], [])
theorem anO_1 {a : Rd} (hk : a.k = 1) : (afun anG 60 Try.f105 [rV a] []).eval = some (anO a) := by
  have n2 : (!(a.k == (2 : Int))) = true := by rw [hk]; rfl
  have n3 : (!(a.k == (3 : Int))) = true := by rw [hk]; rfl
  have n4 : (!(a.k == (4 : Int))) = true := by rw [hk]; rfl
  have n5 : (!(a.k == (5 : Int))) = true := by rw [hk]; rfl
  have n6 : (!(a.k == (6 : Int))) = true := by rw [hk]; rfl
  have kk : (a.k == (1 : Int)) = true := by rw [hk]; rfl
  have ew : anW a = true := by unfold anW; rw [hk]; rfl
  have er : ansB a = by8 a.k :: ([]) := by unfold ansB; rw [hk]; rfl
  have hn : (ansB a).length = 1 := by rw [er]; rfl
  have hB : (appB (fun _ => 0) 0 (IntKind.u8.wrap a.k)) = gL (ansB a) := by rw [er, wrap_by8, show (fun _ => (0 : Int)) = gL [] from rfl, gL_app' [] 0 rfl]; rfl
  have hr : rng (appB (fun _ => 0) 0 (IntKind.u8.wrap a.k)) := by rw [hB]; exact rng_gL (byteL_ansB a)
  have hbw : (false || !byOk a.k) = !anW a := by rw [ew, hk]; rfl
  by_cases hw : anW a = true
  · have hR : rrR (appB (fun _ => 0) 0 (IntKind.u8.wrap a.k)) 0 1 = (bareR a, [], false) := by rw [hB, ← hn]; exact rr_back hw
    have hb := not_eq (hbw.trans (by rw [hw]; rfl))
    have hX : (rrR (appB (fun _ => 0) 0 (IntKind.u8.wrap a.k)) 0 1).1 = tellR a := by rw [hR]; unfold tellR bareR; rw [hk]; rfl
    by_cases hs : tellR a = a
    · have hS : (!!eqR (rrR (appB (fun _ => 0) 0 (IntKind.u8.wrap a.k)) 0 1).1 a) = true := notnot ((eqR_iff _ _).2 (hX.trans hs))
      refine (Tr.go_eval an_1f ⟨kk, yes_of ⟨Nat.le_refl _, rfl, hr⟩, n4, hb, rfl, rfl, rfl, hS, trivial⟩).trans ?_
      unfold anO; rw [if_pos ⟨hw, hs⟩, hn, ← hB]; all_goals rfl
    · have hS : (!eqR (rrR (appB (fun _ => 0) 0 (IntKind.u8.wrap a.k)) 0 1).1 a) = true := not_eq (eqR_no fun h => hs (hX.symm.trans h))
      refine (Tr.go_eval an_1t ⟨kk, yes_of ⟨Nat.le_refl _, rfl, hr⟩, n4, hb, rfl, rfl, rfl, hS, trivial⟩).trans ?_
      unfold anO; rw [if_neg fun h => hs h.2]; all_goals rfl
  · exact absurd ew hw
theorem anO_2 {a : Rd} (hk : a.k = 2) : (afun anG 60 Try.f105 [rV a] []).eval = some (anO a) := by
  have n1 : (!(a.k == (1 : Int))) = true := by rw [hk]; rfl
  have n3 : (!(a.k == (3 : Int))) = true := by rw [hk]; rfl
  have n4 : (!(a.k == (4 : Int))) = true := by rw [hk]; rfl
  have n5 : (!(a.k == (5 : Int))) = true := by rw [hk]; rfl
  have n6 : (!(a.k == (6 : Int))) = true := by rw [hk]; rfl
  have kk : (a.k == (2 : Int)) = true := by rw [hk]; rfl
  have ew : anW a = (byOk a.e && fits a.a) := by unfold anW; rw [hk]; rfl
  have er : ansB a = by8 a.k :: (by8 a.e :: four a.a) := by unfold ansB; rw [hk]; rfl
  have hn : (ansB a).length = 6 := by rw [er]; rfl
  have hB : (fourB (appB (appB (fun _ => 0) 0 (IntKind.u8.wrap a.k)) 1 (IntKind.u8.wrap a.e)) 2 a.a) = gL (ansB a) := by rw [er, wrap_by8, show (fun _ => (0 : Int)) = gL [] from rfl, gL_app' [] 0 rfl, wrap_by8, gL_app' _ 1 rfl, gL_four _ 2 rfl]; rfl
  have hr : rng (fourB (appB (appB (fun _ => 0) 0 (IntKind.u8.wrap a.k)) 1 (IntKind.u8.wrap a.e)) 2 a.a) := by rw [hB]; exact rng_gL (byteL_ansB a)
  have hbw : (((false || !byOk a.k) || !byOk a.e) || !fits a.a) = !anW a := by rw [ew, hk]; cases byOk a.e <;> cases fits a.a <;> rfl
  by_cases hw : anW a = true
  · have hR : rrR (fourB (appB (appB (fun _ => 0) 0 (IntKind.u8.wrap a.k)) 1 (IntKind.u8.wrap a.e)) 2 a.a) 0 6 = (bareR a, [], false) := by rw [hB, ← hn]; exact rr_back hw
    have hb := not_eq (hbw.trans (by rw [hw]; rfl))
    have hX : (rrR (fourB (appB (appB (fun _ => 0) 0 (IntKind.u8.wrap a.k)) 1 (IntKind.u8.wrap a.e)) 2 a.a) 0 6).1 = tellR a := by rw [hR]; unfold tellR bareR; rw [hk]; rfl
    by_cases hs : tellR a = a
    · have hS : (!!eqR (rrR (fourB (appB (appB (fun _ => 0) 0 (IntKind.u8.wrap a.k)) 1 (IntKind.u8.wrap a.e)) 2 a.a) 0 6).1 a) = true := notnot ((eqR_iff _ _).2 (hX.trans hs))
      refine (Tr.go_eval an_2f ⟨n1, kk, yes_of ⟨by unfold maxCells; omega, rfl, rfl⟩, yes_of ⟨by unfold maxCells; omega, rfl, rfl⟩, yes_of ⟨Nat.le_refl _, rfl, hr⟩, n4, hb, rfl, rfl, rfl, hS, trivial⟩).trans ?_
      unfold anO; rw [if_pos ⟨hw, hs⟩, hn, ← hB]; all_goals rfl
    · have hS : (!eqR (rrR (fourB (appB (appB (fun _ => 0) 0 (IntKind.u8.wrap a.k)) 1 (IntKind.u8.wrap a.e)) 2 a.a) 0 6).1 a) = true := not_eq (eqR_no fun h => hs (hX.symm.trans h))
      refine (Tr.go_eval an_2t ⟨n1, kk, yes_of ⟨by unfold maxCells; omega, rfl, rfl⟩, yes_of ⟨by unfold maxCells; omega, rfl, rfl⟩, yes_of ⟨Nat.le_refl _, rfl, hr⟩, n4, hb, rfl, rfl, rfl, hS, trivial⟩).trans ?_
      unfold anO; rw [if_neg fun h => hs h.2]; all_goals rfl
  · have hb := hbw.trans (show (!anW a) = true by rw [Bool.not_eq_true] at hw; rw [hw]; rfl)
    refine (Tr.go_eval an_2b ⟨n1, kk, yes_of ⟨by unfold maxCells; omega, rfl, rfl⟩, yes_of ⟨by unfold maxCells; omega, rfl, rfl⟩, yes_of ⟨Nat.le_refl _, rfl, hr⟩, n4, hb, rfl, rfl, rfl, rfl, trivial⟩).trans ?_
    unfold anO; rw [if_neg fun h => hw h.1]; all_goals rfl
theorem anO_3 {a : Rd} (hk : a.k = 3) : (afun anG 60 Try.f105 [rV a] []).eval = some (anO a) := by
  have n1 : (!(a.k == (1 : Int))) = true := by rw [hk]; rfl
  have n2 : (!(a.k == (2 : Int))) = true := by rw [hk]; rfl
  have n4 : (!(a.k == (4 : Int))) = true := by rw [hk]; rfl
  have n5 : (!(a.k == (5 : Int))) = true := by rw [hk]; rfl
  have n6 : (!(a.k == (6 : Int))) = true := by rw [hk]; rfl
  have kk : (a.k == (3 : Int)) = true := by rw [hk]; rfl
  have ew : anW a = (fits a.p && fits a.t) := by unfold anW; rw [hk]; rfl
  have er : ansB a = by8 a.k :: (four a.p ++ four a.t) := by unfold ansB; rw [hk]; rfl
  have hn : (ansB a).length = 9 := by rw [er]; rfl
  have hB : (fourB (fourB (appB (fun _ => 0) 0 (IntKind.u8.wrap a.k)) 1 a.p) 5 a.t) = gL (ansB a) := by rw [er, wrap_by8, show (fun _ => (0 : Int)) = gL [] from rfl, gL_app' [] 0 rfl, gL_four _ 1 rfl, gL_four _ 5 rfl]; rfl
  have hr : rng (fourB (fourB (appB (fun _ => 0) 0 (IntKind.u8.wrap a.k)) 1 a.p) 5 a.t) := by rw [hB]; exact rng_gL (byteL_ansB a)
  have hbw : (((false || !byOk a.k) || !fits a.p) || !fits a.t) = !anW a := by rw [ew, hk]; cases fits a.p <;> cases fits a.t <;> rfl
  by_cases hw : anW a = true
  · have hR : rrR (fourB (fourB (appB (fun _ => 0) 0 (IntKind.u8.wrap a.k)) 1 a.p) 5 a.t) 0 9 = (bareR a, [], false) := by rw [hB, ← hn]; exact rr_back hw
    have hb := not_eq (hbw.trans (by rw [hw]; rfl))
    have hX : (rrR (fourB (fourB (appB (fun _ => 0) 0 (IntKind.u8.wrap a.k)) 1 a.p) 5 a.t) 0 9).1 = tellR a := by rw [hR]; unfold tellR bareR; rw [hk]; rfl
    by_cases hs : tellR a = a
    · have hS : (!!eqR (rrR (fourB (fourB (appB (fun _ => 0) 0 (IntKind.u8.wrap a.k)) 1 a.p) 5 a.t) 0 9).1 a) = true := notnot ((eqR_iff _ _).2 (hX.trans hs))
      refine (Tr.go_eval an_3f ⟨n1, n2, kk, yes_of ⟨by unfold maxCells; omega, rfl, rfl⟩, yes_of ⟨Nat.le_refl _, rfl, hr⟩, n4, hb, rfl, rfl, rfl, hS, trivial⟩).trans ?_
      unfold anO; rw [if_pos ⟨hw, hs⟩, hn, ← hB]; all_goals rfl
    · have hS : (!eqR (rrR (fourB (fourB (appB (fun _ => 0) 0 (IntKind.u8.wrap a.k)) 1 a.p) 5 a.t) 0 9).1 a) = true := not_eq (eqR_no fun h => hs (hX.symm.trans h))
      refine (Tr.go_eval an_3t ⟨n1, n2, kk, yes_of ⟨by unfold maxCells; omega, rfl, rfl⟩, yes_of ⟨Nat.le_refl _, rfl, hr⟩, n4, hb, rfl, rfl, rfl, hS, trivial⟩).trans ?_
      unfold anO; rw [if_neg fun h => hs h.2]; all_goals rfl
  · have hb := hbw.trans (show (!anW a) = true by rw [Bool.not_eq_true] at hw; rw [hw]; rfl)
    refine (Tr.go_eval an_3b ⟨n1, n2, kk, yes_of ⟨by unfold maxCells; omega, rfl, rfl⟩, yes_of ⟨Nat.le_refl _, rfl, hr⟩, n4, hb, rfl, rfl, rfl, rfl, trivial⟩).trans ?_
    unfold anO; rw [if_neg fun h => hw h.1]; all_goals rfl
theorem anO_4 {a : Rd} (hk : a.k = 4) : (afun anG 60 Try.f105 [rV a] []).eval = some (anO a) := by
  have n1 : (!(a.k == (1 : Int))) = true := by rw [hk]; rfl
  have n2 : (!(a.k == (2 : Int))) = true := by rw [hk]; rfl
  have n3 : (!(a.k == (3 : Int))) = true := by rw [hk]; rfl
  have n5 : (!(a.k == (5 : Int))) = true := by rw [hk]; rfl
  have n6 : (!(a.k == (6 : Int))) = true := by rw [hk]; rfl
  have kk : (a.k == (4 : Int)) = true := by rw [hk]; rfl
  have ew : anW a = true := by unfold anW; rw [hk]; rfl
  have er : ansB a = by8 a.k :: (four (held4 a.x) ++ four (held4 a.y) ++ four (held4 a.w) ++ four (held4 a.h)) := by unfold ansB; rw [hk]; rfl
  have hn : (ansB a).length = 17 := by rw [er]; rfl
  have hB : (fourB (fourB (fourB (fourB (appB (fun _ => 0) 0 (IntKind.u8.wrap a.k)) 1 (held4 a.x)) 5 (held4 a.y)) 9 (held4 a.w)) 13 (held4 a.h)) = gL (ansB a) := by rw [er, wrap_by8, show (fun _ => (0 : Int)) = gL [] from rfl, gL_app' [] 0 rfl, gL_four _ 1 rfl, gL_four _ 5 rfl, gL_four _ 9 rfl, gL_four _ 13 rfl]; rfl
  have hr : rng (fourB (fourB (fourB (fourB (appB (fun _ => 0) 0 (IntKind.u8.wrap a.k)) 1 (held4 a.x)) 5 (held4 a.y)) 9 (held4 a.w)) 13 (held4 a.h)) := by rw [hB]; exact rng_gL (byteL_ansB a)
  have hbw : (false || !byOk a.k) = !anW a := by rw [ew, hk]; rfl
  by_cases hw : anW a = true
  · have hR : rrR (fourB (fourB (fourB (fourB (appB (fun _ => 0) 0 (IntKind.u8.wrap a.k)) 1 (held4 a.x)) 5 (held4 a.y)) 9 (held4 a.w)) 13 (held4 a.h)) 0 17 = (bareR a, [], false) := by rw [hB, ← hn]; exact rr_back hw
    have hb := not_eq (hbw.trans (by rw [hw]; rfl))
    have hX : ⟨(rrR (fourB (fourB (fourB (fourB (appB (fun _ => 0) 0 (IntKind.u8.wrap a.k)) 1 (held4 a.x)) 5 (held4 a.y)) 9 (held4 a.w)) 13 (held4 a.h)) 0 17).1.k, (rrR (fourB (fourB (fourB (fourB (appB (fun _ => 0) 0 (IntKind.u8.wrap a.k)) 1 (held4 a.x)) 5 (held4 a.y)) 9 (held4 a.w)) 13 (held4 a.h)) 0 17).1.e, (rrR (fourB (fourB (fourB (fourB (appB (fun _ => 0) 0 (IntKind.u8.wrap a.k)) 1 (held4 a.x)) 5 (held4 a.y)) 9 (held4 a.w)) 13 (held4 a.h)) 0 17).1.a, (rrR (fourB (fourB (fourB (fourB (appB (fun _ => 0) 0 (IntKind.u8.wrap a.k)) 1 (held4 a.x)) 5 (held4 a.y)) 9 (held4 a.w)) 13 (held4 a.h)) 0 17).1.n, (rrR (fourB (fourB (fourB (fourB (appB (fun _ => 0) 0 (IntKind.u8.wrap a.k)) 1 (held4 a.x)) 5 (held4 a.y)) 9 (held4 a.w)) 13 (held4 a.h)) 0 17).1.p, (rrR (fourB (fourB (fourB (fourB (appB (fun _ => 0) 0 (IntKind.u8.wrap a.k)) 1 (held4 a.x)) 5 (held4 a.y)) 9 (held4 a.w)) 13 (held4 a.h)) 0 17).1.t, a.x, a.y, a.w, a.h⟩ = tellR a := by rw [hR]; unfold tellR bareR; rw [hk]; rfl
    by_cases hs : tellR a = a
    · have hS : (!!eqR ⟨(rrR (fourB (fourB (fourB (fourB (appB (fun _ => 0) 0 (IntKind.u8.wrap a.k)) 1 (held4 a.x)) 5 (held4 a.y)) 9 (held4 a.w)) 13 (held4 a.h)) 0 17).1.k, (rrR (fourB (fourB (fourB (fourB (appB (fun _ => 0) 0 (IntKind.u8.wrap a.k)) 1 (held4 a.x)) 5 (held4 a.y)) 9 (held4 a.w)) 13 (held4 a.h)) 0 17).1.e, (rrR (fourB (fourB (fourB (fourB (appB (fun _ => 0) 0 (IntKind.u8.wrap a.k)) 1 (held4 a.x)) 5 (held4 a.y)) 9 (held4 a.w)) 13 (held4 a.h)) 0 17).1.a, (rrR (fourB (fourB (fourB (fourB (appB (fun _ => 0) 0 (IntKind.u8.wrap a.k)) 1 (held4 a.x)) 5 (held4 a.y)) 9 (held4 a.w)) 13 (held4 a.h)) 0 17).1.n, (rrR (fourB (fourB (fourB (fourB (appB (fun _ => 0) 0 (IntKind.u8.wrap a.k)) 1 (held4 a.x)) 5 (held4 a.y)) 9 (held4 a.w)) 13 (held4 a.h)) 0 17).1.p, (rrR (fourB (fourB (fourB (fourB (appB (fun _ => 0) 0 (IntKind.u8.wrap a.k)) 1 (held4 a.x)) 5 (held4 a.y)) 9 (held4 a.w)) 13 (held4 a.h)) 0 17).1.t, a.x, a.y, a.w, a.h⟩ a) = true := notnot ((eqR_iff _ _).2 (hX.trans hs))
      refine (Tr.go_eval an_4f ⟨n1, n2, n3, kk, rfl, rfl, rfl, rfl, yes_of ⟨by unfold maxCells; omega, rfl, rfl⟩, rfl, rfl, rfl, rfl, yes_of ⟨by unfold maxCells; omega, rfl, rfl⟩, rfl, rfl, rfl, rfl, yes_of ⟨by unfold maxCells; omega, rfl, rfl⟩, rfl, rfl, rfl, rfl, yes_of ⟨by unfold maxCells; omega, rfl, rfl⟩, rfl, yes_of ⟨Nat.le_refl _, rfl, hr⟩, kk, hb, rfl, rfl, rfl, hS, trivial⟩).trans ?_
      unfold anO; rw [if_pos ⟨hw, hs⟩, hn, ← hB]; all_goals rfl
    · have hS : (!eqR ⟨(rrR (fourB (fourB (fourB (fourB (appB (fun _ => 0) 0 (IntKind.u8.wrap a.k)) 1 (held4 a.x)) 5 (held4 a.y)) 9 (held4 a.w)) 13 (held4 a.h)) 0 17).1.k, (rrR (fourB (fourB (fourB (fourB (appB (fun _ => 0) 0 (IntKind.u8.wrap a.k)) 1 (held4 a.x)) 5 (held4 a.y)) 9 (held4 a.w)) 13 (held4 a.h)) 0 17).1.e, (rrR (fourB (fourB (fourB (fourB (appB (fun _ => 0) 0 (IntKind.u8.wrap a.k)) 1 (held4 a.x)) 5 (held4 a.y)) 9 (held4 a.w)) 13 (held4 a.h)) 0 17).1.a, (rrR (fourB (fourB (fourB (fourB (appB (fun _ => 0) 0 (IntKind.u8.wrap a.k)) 1 (held4 a.x)) 5 (held4 a.y)) 9 (held4 a.w)) 13 (held4 a.h)) 0 17).1.n, (rrR (fourB (fourB (fourB (fourB (appB (fun _ => 0) 0 (IntKind.u8.wrap a.k)) 1 (held4 a.x)) 5 (held4 a.y)) 9 (held4 a.w)) 13 (held4 a.h)) 0 17).1.p, (rrR (fourB (fourB (fourB (fourB (appB (fun _ => 0) 0 (IntKind.u8.wrap a.k)) 1 (held4 a.x)) 5 (held4 a.y)) 9 (held4 a.w)) 13 (held4 a.h)) 0 17).1.t, a.x, a.y, a.w, a.h⟩ a) = true := not_eq (eqR_no fun h => hs (hX.symm.trans h))
      refine (Tr.go_eval an_4t ⟨n1, n2, n3, kk, rfl, rfl, rfl, rfl, yes_of ⟨by unfold maxCells; omega, rfl, rfl⟩, rfl, rfl, rfl, rfl, yes_of ⟨by unfold maxCells; omega, rfl, rfl⟩, rfl, rfl, rfl, rfl, yes_of ⟨by unfold maxCells; omega, rfl, rfl⟩, rfl, rfl, rfl, rfl, yes_of ⟨by unfold maxCells; omega, rfl, rfl⟩, rfl, yes_of ⟨Nat.le_refl _, rfl, hr⟩, kk, hb, rfl, rfl, rfl, hS, trivial⟩).trans ?_
      unfold anO; rw [if_neg fun h => hs h.2]; all_goals rfl
  · exact absurd ew hw
theorem anO_5 {a : Rd} (hk : a.k = 5) : (afun anG 60 Try.f105 [rV a] []).eval = some (anO a) := by
  have n1 : (!(a.k == (1 : Int))) = true := by rw [hk]; rfl
  have n2 : (!(a.k == (2 : Int))) = true := by rw [hk]; rfl
  have n3 : (!(a.k == (3 : Int))) = true := by rw [hk]; rfl
  have n4 : (!(a.k == (4 : Int))) = true := by rw [hk]; rfl
  have n6 : (!(a.k == (6 : Int))) = true := by rw [hk]; rfl
  have kk : (a.k == (5 : Int)) = true := by rw [hk]; rfl
  have ew : anW a = fits a.n := by unfold anW; rw [hk]; rfl
  have er : ansB a = by8 a.k :: (four a.n) := by unfold ansB; rw [hk]; rfl
  have hn : (ansB a).length = 5 := by rw [er]; rfl
  have hB : (fourB (appB (fun _ => 0) 0 (IntKind.u8.wrap a.k)) 1 a.n) = gL (ansB a) := by rw [er, wrap_by8, show (fun _ => (0 : Int)) = gL [] from rfl, gL_app' [] 0 rfl, gL_four _ 1 rfl]; rfl
  have hr : rng (fourB (appB (fun _ => 0) 0 (IntKind.u8.wrap a.k)) 1 a.n) := by rw [hB]; exact rng_gL (byteL_ansB a)
  have hbw : ((false || !byOk a.k) || !fits a.n) = !anW a := by rw [ew, hk]; cases fits a.n <;> rfl
  by_cases hw : anW a = true
  · have hR : rrR (fourB (appB (fun _ => 0) 0 (IntKind.u8.wrap a.k)) 1 a.n) 0 5 = (bareR a, [], false) := by rw [hB, ← hn]; exact rr_back hw
    have hb := not_eq (hbw.trans (by rw [hw]; rfl))
    have hX : (rrR (fourB (appB (fun _ => 0) 0 (IntKind.u8.wrap a.k)) 1 a.n) 0 5).1 = tellR a := by rw [hR]; unfold tellR bareR; rw [hk]; rfl
    by_cases hs : tellR a = a
    · have hS : (!!eqR (rrR (fourB (appB (fun _ => 0) 0 (IntKind.u8.wrap a.k)) 1 a.n) 0 5).1 a) = true := notnot ((eqR_iff _ _).2 (hX.trans hs))
      refine (Tr.go_eval an_5f ⟨n1, n2, n3, n4, kk, rfl, yes_of ⟨by unfold maxCells; omega, rfl, rfl⟩, yes_of ⟨Nat.le_refl _, rfl, hr⟩, n4, hb, rfl, rfl, rfl, hS, trivial⟩).trans ?_
      unfold anO; rw [if_pos ⟨hw, hs⟩, hn, ← hB]; all_goals rfl
    · have hS : (!eqR (rrR (fourB (appB (fun _ => 0) 0 (IntKind.u8.wrap a.k)) 1 a.n) 0 5).1 a) = true := not_eq (eqR_no fun h => hs (hX.symm.trans h))
      refine (Tr.go_eval an_5t ⟨n1, n2, n3, n4, kk, rfl, yes_of ⟨by unfold maxCells; omega, rfl, rfl⟩, yes_of ⟨Nat.le_refl _, rfl, hr⟩, n4, hb, rfl, rfl, rfl, hS, trivial⟩).trans ?_
      unfold anO; rw [if_neg fun h => hs h.2]; all_goals rfl
  · have hb := hbw.trans (show (!anW a) = true by rw [Bool.not_eq_true] at hw; rw [hw]; rfl)
    refine (Tr.go_eval an_5b ⟨n1, n2, n3, n4, kk, rfl, yes_of ⟨by unfold maxCells; omega, rfl, rfl⟩, yes_of ⟨Nat.le_refl _, rfl, hr⟩, n4, hb, rfl, rfl, rfl, rfl, trivial⟩).trans ?_
    unfold anO; rw [if_neg fun h => hw h.1]; all_goals rfl
theorem anO_6 {a : Rd} (hk : a.k = 6) : (afun anG 60 Try.f105 [rV a] []).eval = some (anO a) := by
  have n1 : (!(a.k == (1 : Int))) = true := by rw [hk]; rfl
  have n2 : (!(a.k == (2 : Int))) = true := by rw [hk]; rfl
  have n3 : (!(a.k == (3 : Int))) = true := by rw [hk]; rfl
  have n4 : (!(a.k == (4 : Int))) = true := by rw [hk]; rfl
  have n5 : (!(a.k == (5 : Int))) = true := by rw [hk]; rfl
  have kk : (a.k == (6 : Int)) = true := by rw [hk]; rfl
  have ew : anW a = fits a.n := by unfold anW; rw [hk]; rfl
  have er : ansB a = by8 a.k :: (four a.n) := by unfold ansB; rw [hk]; rfl
  have hn : (ansB a).length = 5 := by rw [er]; rfl
  have hB : (fourB (appB (fun _ => 0) 0 (IntKind.u8.wrap a.k)) 1 a.n) = gL (ansB a) := by rw [er, wrap_by8, show (fun _ => (0 : Int)) = gL [] from rfl, gL_app' [] 0 rfl, gL_four _ 1 rfl]; rfl
  have hr : rng (fourB (appB (fun _ => 0) 0 (IntKind.u8.wrap a.k)) 1 a.n) := by rw [hB]; exact rng_gL (byteL_ansB a)
  have hbw : ((false || !byOk a.k) || !fits a.n) = !anW a := by rw [ew, hk]; cases fits a.n <;> rfl
  by_cases hw : anW a = true
  · have hR : rrR (fourB (appB (fun _ => 0) 0 (IntKind.u8.wrap a.k)) 1 a.n) 0 5 = (bareR a, [], false) := by rw [hB, ← hn]; exact rr_back hw
    have hb := not_eq (hbw.trans (by rw [hw]; rfl))
    have hX : (rrR (fourB (appB (fun _ => 0) 0 (IntKind.u8.wrap a.k)) 1 a.n) 0 5).1 = tellR a := by rw [hR]; unfold tellR bareR; rw [hk]; rfl
    by_cases hs : tellR a = a
    · have hS : (!!eqR (rrR (fourB (appB (fun _ => 0) 0 (IntKind.u8.wrap a.k)) 1 a.n) 0 5).1 a) = true := notnot ((eqR_iff _ _).2 (hX.trans hs))
      refine (Tr.go_eval an_6f ⟨n1, n2, n3, n4, n5, kk, yes_of ⟨by unfold maxCells; omega, rfl, rfl⟩, yes_of ⟨Nat.le_refl _, rfl, hr⟩, n4, hb, rfl, rfl, rfl, hS, trivial⟩).trans ?_
      unfold anO; rw [if_pos ⟨hw, hs⟩, hn, ← hB]; all_goals rfl
    · have hS : (!eqR (rrR (fourB (appB (fun _ => 0) 0 (IntKind.u8.wrap a.k)) 1 a.n) 0 5).1 a) = true := not_eq (eqR_no fun h => hs (hX.symm.trans h))
      refine (Tr.go_eval an_6t ⟨n1, n2, n3, n4, n5, kk, yes_of ⟨by unfold maxCells; omega, rfl, rfl⟩, yes_of ⟨Nat.le_refl _, rfl, hr⟩, n4, hb, rfl, rfl, rfl, hS, trivial⟩).trans ?_
      unfold anO; rw [if_neg fun h => hs h.2]; all_goals rfl
  · have hb := hbw.trans (show (!anW a) = true by rw [Bool.not_eq_true] at hw; rw [hw]; rfl)
    refine (Tr.go_eval an_6b ⟨n1, n2, n3, n4, n5, kk, yes_of ⟨by unfold maxCells; omega, rfl, rfl⟩, yes_of ⟨Nat.le_refl _, rfl, hr⟩, n4, hb, rfl, rfl, rfl, rfl, trivial⟩).trans ?_
    unfold anO; rw [if_neg fun h => hw h.1]; all_goals rfl
theorem anO_x {a : Rd} (h1 : a.k ≠ 1) (h2 : a.k ≠ 2) (h3 : a.k ≠ 3) (h4 : a.k ≠ 4) (h5 : a.k ≠ 5) (h6 : a.k ≠ 6) : (afun anG 60 Try.f105 [rV a] []).eval = some (anO a) := by
  have n1 : (!(a.k == (1 : Int))) = true := not_eq (nb h1)
  have n2 : (!(a.k == (2 : Int))) = true := not_eq (nb h2)
  have n3 : (!(a.k == (3 : Int))) = true := not_eq (nb h3)
  have n4 : (!(a.k == (4 : Int))) = true := not_eq (nb h4)
  have n5 : (!(a.k == (5 : Int))) = true := not_eq (nb h5)
  have n6 : (!(a.k == (6 : Int))) = true := not_eq (nb h6)
  have hw : ¬ anW a = true := by unfold anW; rw [nb h1, nb h2, nb h3, nb h4, nb h5, nb h6]; exact Bool.false_ne_true
  refine (Tr.go_eval an_x ⟨n1, n2, n3, n4, n5, n6, trivial⟩).trans ?_
  unfold anO; rw [if_neg fun h => hw h.1]; all_goals rfl
noncomputable def anF : Spec := fun args h => match args, h with
  | [.agg [.v (.int .i64 k), .v (.int .i64 e), .v (.int .i64 a), .v (.int .i64 n), .v (.int .i64 p), .v (.int .i64 t), .v (.int .i64 x), .v (.int .i64 y), .v (.int .i64 w), .v (.int .i64 hh)]], [] =>
    .ite (yes (anOk ⟨k, e, a, n, p, t, x, y, w, hh⟩))
      (.ret (.tup [.c (.sl 0 0 (ansB ⟨k, e, a, n, p, t, x, y, w, hh⟩).length), Bo true], [rowU true (ansB ⟨k, e, a, n, p, t, x, y, w, hh⟩).length (gL (ansB ⟨k, e, a, n, p, t, x, y, w, hh⟩))]))
      (.ret (.tup [.c (.v (.slice none 0 0)), Bo false], []))
  | _, _ => .fail
theorem anO_all (a : Rd) : (afun anG 60 Try.f105 [rV a] []).eval = some (anO a) := by
  by_cases h1 : a.k = 1
  · exact anO_1 h1
  by_cases h2 : a.k = 2
  · exact anO_2 h2
  by_cases h3 : a.k = 3
  · exact anO_3 h3
  by_cases h4 : a.k = 4
  · exact anO_4 h4
  by_cases h5 : a.k = 5
  · exact anO_5 h5
  by_cases h6 : a.k = 6
  · exact anO_6 h6
  · exact anO_x h1 h2 h3 h4 h5 h6
theorem anF_ok : SpecOk Try.prog 105 anF := by
  refine known' KAN_ok Try.func105 fun args h r he => ?_
  unfold anF at he
  split at he
  · rename_i k e a n p t x y w hh
    refine ⟨_, _, _, (anO_all ⟨k, e, a, n, p, t, x, y, w, hh⟩).trans ?_⟩
    unfold anO
    by_cases hr : anOk ⟨k, e, a, n, p, t, x, y, w, hh⟩
    · rw [if_pos hr]; rw [yes_of hr] at he; exact he
    · rw [if_neg hr]; rw [yes_no hr] at he; exact he
  · cases he
end
section
open Go Go.RowKit
theorem lst_gL_take (L : List Int) (k : Nat) (h : k ≤ L.length) : lst (gL L) 0 k = L.take k := by
  rw [← lst_take (gL L) 0 L.length k h, lst_gL]
theorem rq_more {q : Qd} (h : wrOk q = true) (b : Int) : rqR (gL (reqB q ++ [b])) 0 ((reqB q).length + 1) = (bareQ q, [b], false) := by
  unfold rqR
  rw [show (reqB q).length + 1 = (reqB q ++ [b]).length by simp, lst_gL]
  exact rQuery_reqB' h [b]
theorem rq_less {q : Qd} (h : wrOk q = true) : (rqR (gL (reqB q)) 0 ((reqB q).length - 1)).2.2 = true := by
  have hn : reqB q ≠ [] := by unfold reqB; exact List.cons_ne_nil _ _
  unfold rqR
  rw [lst_gL_take _ _ (Nat.sub_le _ _), ← List.dropLast_eq_take]
  exact rQuery_less h (List.dropLast_concat_getLast hn)
theorem reqB_pos (q : Qd) : 0 < (reqB q).length := by unfold reqB; simp
def fo4 (v : Int) : Int := w64 (IntKind.i32.wrap v)
theorem fo4_fits (v : Int) : fits (fo4 v) = true := by
  unfold fo4
  rw [IntKind.wrap_i32, w64_id (by omega) (by omega)]
  unfold fits
  rw [Bool.and_eq_true, decide_eq_true_eq, decide_eq_true_eq]; omega
theorem held_fits {n : Int} (h : fits n = true) : held4 n = n := by
  unfold fits at h
  rw [Bool.and_eq_true, decide_eq_true_eq, decide_eq_true_eq] at h
  unfold held4; omega
/- The law's query of numbers. -/
def lqK (n : Int) : Int := [(1 : Int), 1, 1, 2, 3, 4, 5, 6, 4, 5].getD (0 + ((and64 n 255).tmod 10).toNat) 0
def lqP0 (n : Int) : Int := w64 (and64 (n.fdiv ((2 : Int) ^ min 8 IntKind.i64.bits)) 3 - 1)
def lqT0 (n : Int) : Int := bif decide (lqP0 n < 0) then 0 else w64 (and64 (n.fdiv ((2 : Int) ^ min 10 IntKind.i64.bits)) 3 + 1)
def lqN0 (n : Int) : Int := w64 ((and64 (n.fdiv ((2 : Int) ^ min 16 IntKind.i64.bits)) 255).tmod 24 - 1)
def lqX0 (n : Int) : Int := w64 (and64 (n.fdiv ((2 : Int) ^ min 16 IntKind.i64.bits)) 65535 - 100)
def lqY0 (n : Int) : Int := w64 (and64 (n.fdiv ((2 : Int) ^ min 32 IntKind.i64.bits)) 4095 - 100)
def lqD (n : Int) : Qd := ⟨lqK n, bif lqK n == 4 then lqN0 n else 0, bif lqK n == 3 || lqK n == 4 || lqK n == 5 then lqP0 n else 0, bif lqK n == 3 || lqK n == 4 || lqK n == 5 then lqT0 n else 0, bif lqK n == 5 then lqX0 n else 0, bif lqK n == 5 then lqY0 n else 0, []⟩
theorem lqK_in (n : Int) : lqK n = 1 ∨ lqK n = 2 ∨ lqK n = 3 ∨ lqK n = 4 ∨ lqK n = 5 ∨ lqK n = 6 := by
  have ha : and64 n 255 = n % (2 ^ 8 : Int) := and_mask 8 (by omega) n 255 (by decide)
  have hb : 0 ≤ n % (2 ^ 8 : Int) := by omega
  have ht : (and64 n 255).tmod 10 = (n % (2 ^ 8 : Int)) % 10 := by rw [ha]; exact Int.tmod_eq_emod_of_nonneg hb
  unfold lqK
  rw [ht]
  have hi : ((n % (2 ^ 8 : Int)) % 10).toNat < 10 := by omega
  generalize ((n % (2 ^ 8 : Int)) % 10).toNat = i at hi
  have : i = 0 ∨ i = 1 ∨ i = 2 ∨ i = 3 ∨ i = 4 ∨ i = 5 ∨ i = 6 ∨ i = 7 ∨ i = 8 ∨ i = 9 := by omega
  rcases this with rfl | rfl | rfl | rfl | rfl | rfl | rfl | rfl | rfl | rfl <;> simp
theorem fits_of {x : Int} (h : -2147483648 ≤ x ∧ x < 2147483648) : fits x = true := by
  unfold fits; rw [decide_eq_true h.1, decide_eq_true h.2]; rfl
theorem lqP_fits (n : Int) : fits (lqP0 n) = true := by
  have ha := and_mask 2 (by omega) (n.fdiv ((2 : Int) ^ min 8 IntKind.i64.bits)) 3 (by decide)
  refine fits_of ?_
  unfold lqP0; rw [ha, w64_id (by omega) (by omega)]; omega
theorem lqT_fits (n : Int) : fits (lqT0 n) = true := by
  have ha := and_mask 2 (by omega) (n.fdiv ((2 : Int) ^ min 10 IntKind.i64.bits)) 3 (by decide)
  refine fits_of ?_
  unfold lqT0; rw [ha, w64_id (x := _ + 1) (by omega) (by omega)]
  cases decide (lqP0 n < 0)
  · rw [cond_false]; omega
  · rw [cond_true]; omega
theorem lqN_fits (n : Int) : fits (lqN0 n) = true := by
  have ha := and_mask 8 (by omega) (n.fdiv ((2 : Int) ^ min 16 IntKind.i64.bits)) 255 (by decide)
  refine fits_of ?_
  unfold lqN0
  rw [ha]
  generalize n.fdiv ((2 : Int) ^ min 16 IntKind.i64.bits) = z
  have hb : 0 ≤ z % (2 ^ 8 : Int) := by omega
  rw [Int.tmod_eq_emod_of_nonneg hb, w64_id (by omega) (by omega)]; omega
theorem lqX_fits (n : Int) : fits (lqX0 n) = true := by
  have ha := and_mask 16 (by omega) (n.fdiv ((2 : Int) ^ min 16 IntKind.i64.bits)) 65535 (by decide)
  refine fits_of ?_
  unfold lqX0; rw [ha, w64_id (by omega) (by omega)]; omega
theorem lqY_fits (n : Int) : fits (lqY0 n) = true := by
  have ha := and_mask 12 (by omega) (n.fdiv ((2 : Int) ^ min 32 IntKind.i64.bits)) 4095 (by decide)
  refine fits_of ?_
  unfold lqY0; rw [ha, w64_id (by omega) (by omega)]; omega
def lqQ (n : Int) (os : List Opp) : Qd := ⟨(lqD n).k, (lqD n).n, (lqD n).p, (lqD n).t, (lqD n).x, (lqD n).y, os⟩
theorem lq_ok {n : Int} {os : List Opp} (h1 : lqK n = 1 → os.length ≤ 100 ∧ os.all opOk = true) (h2 : lqK n ≠ 1 → os = []) : reqOk (lqQ n os) := by
  unfold reqOk lqQ lqD wrOk bareQ
  rcases lqK_in n with h | h | h | h | h | h
  · obtain ⟨g1, g2⟩ := h1 h
    simp only [h]
    refine ⟨?_, rfl⟩
    show (decide (os.length ≤ 100) && os.all opOk) = true
    rw [decide_eq_true g1, g2]; rfl
  · have := h2 (by omega); subst this; simp only [h]; exact ⟨rfl, rfl⟩
  · have := h2 (by omega); subst this; simp only [h]
    refine ⟨?_, rfl⟩
    show (fits (lqP0 n) && fits (lqT0 n)) = true
    rw [lqP_fits, lqT_fits]; rfl
  · have := h2 (by omega); subst this; simp only [h]
    refine ⟨?_, rfl⟩
    show (fits (lqP0 n) && fits (lqT0 n) && fits (lqN0 n)) = true
    rw [lqP_fits, lqT_fits, lqN_fits]; rfl
  · have := h2 (by omega); subst this; simp only [h]
    refine ⟨?_, rfl⟩
    show (fits (lqP0 n) && fits (lqT0 n) && fits (lqX0 n) && fits (lqY0 n)) = true
    rw [lqP_fits, lqT_fits, lqX_fits, lqY_fits]; rfl
  · have := h2 (by omega); subst this; simp only [h]; exact ⟨rfl, rfl⟩
end
section
open Go Go.RowKit
noncomputable def lqO (own : Bool) (K : Nat) (f : Nat → Int) (n : Int) : AV × AHeap := bif lqK n == 1 then (qV (lqD n) (.sl 1 0 (osN K)), [rowJ own K f, rowP true (osN K) (opsL (fun j => f (0 + j)) (osN K))]) else (qV (lqD n) (.v (.slice none 0 0)), [rowJ own K f])
theorem lq_eval (own : Bool) (K : Nat) (f : Nat → Int) (n : Int) : (lfun lqG nol 60 Try.f112 [I64 n, .c (.sl 0 0 K)] [rowJ own K f]).eval = some (lqO own K f n) := by
  have hb := tm (and64 n 255) 10 (m255 n).1 (by decide)
  cases hs : decide (lqP0 n < 0) with
  | true =>
    have hs2 := hs
    have hT : lqT0 n = 0 := by unfold lqT0; rw [hs]; rfl
    rcases lqK_in n with hk | hk | hk | hk | hk | hk
    · have hD : lqD n = ⟨lqK n, 0, 0, 0, 0, 0, []⟩ := by unfold lqD; rw [hk]; rfl
      have n3 : (!(lqK n == (3 : Int))) = true := by rw [hk]; rfl
      have n4 : (!(lqK n == (4 : Int))) = true := by rw [hk]; rfl
      have n5 : (!(lqK n == (5 : Int))) = true := by rw [hk]; rfl
      have kk : (lqK n == (1 : Int)) = true := by rw [hk]; rfl
      refine (Tr.go_eval lq_t1 ?_).trans ?_
      · repeat' (first | exact AllT.nil | refine AllT.cons ?_ ?_)
        all_goals first | (with_reducible rfl) | exact decide_eq_true (by omega) | exact hs2 | exact yes_of ⟨by omega, rfl⟩ | exact n3 | exact n4 | exact n5 | exact kk
      · unfold lqO; rw [hD]
        have e1 : (lqK n == (1 : Int)) = true := by rw [hk]; rfl
        rw [e1]; rfl
    · have hD : lqD n = ⟨lqK n, 0, 0, 0, 0, 0, []⟩ := by unfold lqD; rw [hk]; rfl
      have n1 : (!(lqK n == (1 : Int))) = true := by rw [hk]; rfl
      have n3 : (!(lqK n == (3 : Int))) = true := by rw [hk]; rfl
      have n4 : (!(lqK n == (4 : Int))) = true := by rw [hk]; rfl
      have n5 : (!(lqK n == (5 : Int))) = true := by rw [hk]; rfl
      refine (Tr.go_eval lq_tx ?_).trans ?_
      · repeat' (first | exact AllT.nil | refine AllT.cons ?_ ?_)
        all_goals first | (with_reducible rfl) | exact decide_eq_true (by omega) | exact hs2 | exact yes_of ⟨by omega, rfl⟩ | exact n1 | exact n3 | exact n4 | exact n5
      · unfold lqO; rw [hD]
        have e1 : (lqK n == (1 : Int)) = false := by rw [hk]; rfl
        rw [e1]; rfl
    · have hD : lqD n = ⟨lqK n, 0, lqP0 n, lqT0 n, 0, 0, []⟩ := by unfold lqD; rw [hk]; rfl
      have n1 : (!(lqK n == (1 : Int))) = true := by rw [hk]; rfl
      have n4 : (!(lqK n == (4 : Int))) = true := by rw [hk]; rfl
      have n5 : (!(lqK n == (5 : Int))) = true := by rw [hk]; rfl
      have kk : (lqK n == (3 : Int)) = true := by rw [hk]; rfl
      refine (Tr.go_eval lq_t3 ?_).trans ?_
      · repeat' (first | exact AllT.nil | refine AllT.cons ?_ ?_)
        all_goals first | (with_reducible rfl) | exact decide_eq_true (by omega) | exact hs2 | exact yes_of ⟨by omega, rfl⟩ | exact n1 | exact n4 | exact n5 | exact kk
      · unfold lqO; rw [hD, hT]
        have e1 : (lqK n == (1 : Int)) = false := by rw [hk]; rfl
        rw [e1]; rfl
    · have hD : lqD n = ⟨lqK n, lqN0 n, lqP0 n, lqT0 n, 0, 0, []⟩ := by unfold lqD; rw [hk]; rfl
      have n1 : (!(lqK n == (1 : Int))) = true := by rw [hk]; rfl
      have n3 : (!(lqK n == (3 : Int))) = true := by rw [hk]; rfl
      have n5 : (!(lqK n == (5 : Int))) = true := by rw [hk]; rfl
      have kk : (lqK n == (4 : Int)) = true := by rw [hk]; rfl
      refine (Tr.go_eval lq_t4 ?_).trans ?_
      · repeat' (first | exact AllT.nil | refine AllT.cons ?_ ?_)
        all_goals first | (with_reducible rfl) | exact decide_eq_true (by omega) | exact hs2 | exact yes_of ⟨by omega, rfl⟩ | exact n1 | exact n3 | exact n5 | exact kk
      · unfold lqO; rw [hD, hT]
        have e1 : (lqK n == (1 : Int)) = false := by rw [hk]; rfl
        rw [e1]; rfl
    · have hD : lqD n = ⟨lqK n, 0, lqP0 n, lqT0 n, lqX0 n, lqY0 n, []⟩ := by unfold lqD; rw [hk]; rfl
      have n1 : (!(lqK n == (1 : Int))) = true := by rw [hk]; rfl
      have n3 : (!(lqK n == (3 : Int))) = true := by rw [hk]; rfl
      have n4 : (!(lqK n == (4 : Int))) = true := by rw [hk]; rfl
      have kk : (lqK n == (5 : Int)) = true := by rw [hk]; rfl
      refine (Tr.go_eval lq_t5 ?_).trans ?_
      · repeat' (first | exact AllT.nil | refine AllT.cons ?_ ?_)
        all_goals first | (with_reducible rfl) | exact decide_eq_true (by omega) | exact hs2 | exact yes_of ⟨by omega, rfl⟩ | exact n1 | exact n3 | exact n4 | exact kk
      · unfold lqO; rw [hD, hT]
        have e1 : (lqK n == (1 : Int)) = false := by rw [hk]; rfl
        rw [e1]; rfl
    · have hD : lqD n = ⟨lqK n, 0, 0, 0, 0, 0, []⟩ := by unfold lqD; rw [hk]; rfl
      have n1 : (!(lqK n == (1 : Int))) = true := by rw [hk]; rfl
      have n3 : (!(lqK n == (3 : Int))) = true := by rw [hk]; rfl
      have n4 : (!(lqK n == (4 : Int))) = true := by rw [hk]; rfl
      have n5 : (!(lqK n == (5 : Int))) = true := by rw [hk]; rfl
      refine (Tr.go_eval lq_tx ?_).trans ?_
      · repeat' (first | exact AllT.nil | refine AllT.cons ?_ ?_)
        all_goals first | (with_reducible rfl) | exact decide_eq_true (by omega) | exact hs2 | exact yes_of ⟨by omega, rfl⟩ | exact n1 | exact n3 | exact n4 | exact n5
      · unfold lqO; rw [hD]
        have e1 : (lqK n == (1 : Int)) = false := by rw [hk]; rfl
        rw [e1]; rfl
  | false =>
    have hs2 : (!decide (lqP0 n < 0)) = true := by rw [hs]; rfl
    have hT : lqT0 n = w64 (and64 (n.fdiv ((2 : Int) ^ min 10 IntKind.i64.bits)) 3 + 1) := by unfold lqT0; rw [hs]; rfl
    rcases lqK_in n with hk | hk | hk | hk | hk | hk
    · have hD : lqD n = ⟨lqK n, 0, 0, 0, 0, 0, []⟩ := by unfold lqD; rw [hk]; rfl
      have n3 : (!(lqK n == (3 : Int))) = true := by rw [hk]; rfl
      have n4 : (!(lqK n == (4 : Int))) = true := by rw [hk]; rfl
      have n5 : (!(lqK n == (5 : Int))) = true := by rw [hk]; rfl
      have kk : (lqK n == (1 : Int)) = true := by rw [hk]; rfl
      refine (Tr.go_eval lq_f1 ?_).trans ?_
      · repeat' (first | exact AllT.nil | refine AllT.cons ?_ ?_)
        all_goals first | (with_reducible rfl) | exact decide_eq_true (by omega) | exact hs2 | exact yes_of ⟨by omega, rfl⟩ | exact n3 | exact n4 | exact n5 | exact kk
      · unfold lqO; rw [hD]
        have e1 : (lqK n == (1 : Int)) = true := by rw [hk]; rfl
        rw [e1]; rfl
    · have hD : lqD n = ⟨lqK n, 0, 0, 0, 0, 0, []⟩ := by unfold lqD; rw [hk]; rfl
      have n1 : (!(lqK n == (1 : Int))) = true := by rw [hk]; rfl
      have n3 : (!(lqK n == (3 : Int))) = true := by rw [hk]; rfl
      have n4 : (!(lqK n == (4 : Int))) = true := by rw [hk]; rfl
      have n5 : (!(lqK n == (5 : Int))) = true := by rw [hk]; rfl
      refine (Tr.go_eval lq_fx ?_).trans ?_
      · repeat' (first | exact AllT.nil | refine AllT.cons ?_ ?_)
        all_goals first | (with_reducible rfl) | exact decide_eq_true (by omega) | exact hs2 | exact yes_of ⟨by omega, rfl⟩ | exact n1 | exact n3 | exact n4 | exact n5
      · unfold lqO; rw [hD]
        have e1 : (lqK n == (1 : Int)) = false := by rw [hk]; rfl
        rw [e1]; rfl
    · have hD : lqD n = ⟨lqK n, 0, lqP0 n, lqT0 n, 0, 0, []⟩ := by unfold lqD; rw [hk]; rfl
      have n1 : (!(lqK n == (1 : Int))) = true := by rw [hk]; rfl
      have n4 : (!(lqK n == (4 : Int))) = true := by rw [hk]; rfl
      have n5 : (!(lqK n == (5 : Int))) = true := by rw [hk]; rfl
      have kk : (lqK n == (3 : Int)) = true := by rw [hk]; rfl
      refine (Tr.go_eval lq_f3 ?_).trans ?_
      · repeat' (first | exact AllT.nil | refine AllT.cons ?_ ?_)
        all_goals first | (with_reducible rfl) | exact decide_eq_true (by omega) | exact hs2 | exact yes_of ⟨by omega, rfl⟩ | exact n1 | exact n4 | exact n5 | exact kk
      · unfold lqO; rw [hD, hT]
        have e1 : (lqK n == (1 : Int)) = false := by rw [hk]; rfl
        rw [e1]; rfl
    · have hD : lqD n = ⟨lqK n, lqN0 n, lqP0 n, lqT0 n, 0, 0, []⟩ := by unfold lqD; rw [hk]; rfl
      have n1 : (!(lqK n == (1 : Int))) = true := by rw [hk]; rfl
      have n3 : (!(lqK n == (3 : Int))) = true := by rw [hk]; rfl
      have n5 : (!(lqK n == (5 : Int))) = true := by rw [hk]; rfl
      have kk : (lqK n == (4 : Int)) = true := by rw [hk]; rfl
      refine (Tr.go_eval lq_f4 ?_).trans ?_
      · repeat' (first | exact AllT.nil | refine AllT.cons ?_ ?_)
        all_goals first | (with_reducible rfl) | exact decide_eq_true (by omega) | exact hs2 | exact yes_of ⟨by omega, rfl⟩ | exact n1 | exact n3 | exact n5 | exact kk
      · unfold lqO; rw [hD, hT]
        have e1 : (lqK n == (1 : Int)) = false := by rw [hk]; rfl
        rw [e1]; rfl
    · have hD : lqD n = ⟨lqK n, 0, lqP0 n, lqT0 n, lqX0 n, lqY0 n, []⟩ := by unfold lqD; rw [hk]; rfl
      have n1 : (!(lqK n == (1 : Int))) = true := by rw [hk]; rfl
      have n3 : (!(lqK n == (3 : Int))) = true := by rw [hk]; rfl
      have n4 : (!(lqK n == (4 : Int))) = true := by rw [hk]; rfl
      have kk : (lqK n == (5 : Int)) = true := by rw [hk]; rfl
      refine (Tr.go_eval lq_f5 ?_).trans ?_
      · repeat' (first | exact AllT.nil | refine AllT.cons ?_ ?_)
        all_goals first | (with_reducible rfl) | exact decide_eq_true (by omega) | exact hs2 | exact yes_of ⟨by omega, rfl⟩ | exact n1 | exact n3 | exact n4 | exact kk
      · unfold lqO; rw [hD, hT]
        have e1 : (lqK n == (1 : Int)) = false := by rw [hk]; rfl
        rw [e1]; rfl
    · have hD : lqD n = ⟨lqK n, 0, 0, 0, 0, 0, []⟩ := by unfold lqD; rw [hk]; rfl
      have n1 : (!(lqK n == (1 : Int))) = true := by rw [hk]; rfl
      have n3 : (!(lqK n == (3 : Int))) = true := by rw [hk]; rfl
      have n4 : (!(lqK n == (4 : Int))) = true := by rw [hk]; rfl
      have n5 : (!(lqK n == (5 : Int))) = true := by rw [hk]; rfl
      refine (Tr.go_eval lq_fx ?_).trans ?_
      · repeat' (first | exact AllT.nil | refine AllT.cons ?_ ?_)
        all_goals first | (with_reducible rfl) | exact decide_eq_true (by omega) | exact hs2 | exact yes_of ⟨by omega, rfl⟩ | exact n1 | exact n3 | exact n4 | exact n5
      · unfold lqO; rw [hD]
        have e1 : (lqK n == (1 : Int)) = false := by rw [hk]; rfl
        rw [e1]; rfl
noncomputable def lqF : Spec := fun args h => match args, h with
  | [.c (.v (.int .i64 n)), .c (.sl 0 0 K)], [some ⟨2, own, .row 1 k f⟩] =>
    .need (yes (k = K ∧ f = fun j => v1 (vd (f j))))
      (.ite (lqK n == 1) (.ret (qV (lqD n) (.sl 1 0 (osN K)), [rowJ own K fun j => vd (f j), rowP true (osN K) (opsL (fun j => vd (f (0 + j))) (osN K))])) (.ret (qV (lqD n) (.v (.slice none 0 0)), [rowJ own K fun j => vd (f j)])))
  | _, _ => .fail
theorem lqF_ok : SpecOk Try.prog 112 lqF := by
  refine knownS KLQ_ok Try.func112 fun args h r he => ?_
  unfold lqF at he
  split at he
  · rename_i n K own k f
    obtain ⟨⟨h1, h2⟩, he'⟩ := Tr.eval_ask.1 he
    subst h1
    have e1 : some ⟨2, own, .row 1 k f⟩ = rowJ own k fun j => vd (f j) := by rw [rowJ, ← h2]
    rw [e1]
    refine ⟨(fun _ => []), [], 60, nol, noLoopsS, (lq_eval own k (fun j => vd (f j)) n).trans ?_⟩
    unfold lqO
    revert he'
    simp only [Tr.eval]
    cases lqK n == 1 <;> exact id
  · cases he
end
section
open Go Go.RowKit
abbrev laK : List (Nat × Option TypeId) := [(2,none),(3,none),(4,none),(5,none)]
noncomputable def laG : Ctx2 := GT [] (fun k => if k = 4 then laK else []) 0 []
theorem laG_ok : XOk laG := GT_ok nilK _ _ _
def bxQ (q : Qd) (s : AC) : Option ABlk := some ⟨128, true, .one [i64 q.k, i64 q.n, i64 q.p, i64 q.t, i64 q.x, i64 q.y, s]⟩
def laS (a b : Qd) (o1 o2 : Bool) (m1 m2 : Nat) (P1 P2 : Nat → Opp) (n n2 : Nat) (i : Int) : St := ⟨slots 66 [(2, .c (.ptr 2 0 0)), (3, .c (.ptr 3 0 0)), (4, Bo false), (5, I64 i)], [rowP o1 m1 P1, rowP o2 m2 P2, bxQ a (.sl 0 0 n), bxQ b (.sl 1 0 n2)]⟩
theorem la_e {a b : Qd} {o1 o2 : Bool} {m1 m2 : Nat} {P1 P2 : Nat → Opp} {n n2 : Nat} {i : Int} : (rT laG nol 2 54 (bodyOf Try.f111 0) laK laK (laS a b o1 o2 m1 m2 P1 P2 n n2 i)).go [false] = some ([!decide (i < ((n : Nat) : Int))], Ex.exit 0, { sl := slots 66 [(2, .c (.ptr 2 0 0)), (3, .c (.ptr 3 0 0)), (4, Bo false), (5, I64 i)], h := [some ⟨121, o1, .row 5 m1 fun j => [.int .i64 (P1 j).k, .int .i64 (P1 j).i, .int .i64 (P1 j).a, .int .i64 (P1 j).b, .string (P1 j).s]⟩, some ⟨121, o2, .row 5 m2 fun j => [.int .i64 (P2 j).k, .int .i64 (P2 j).i, .int .i64 (P2 j).a, .int .i64 (P2 j).b, .string (P2 j).s]⟩, some ⟨128, true, .one [i64 a.k, i64 a.n, i64 a.p, i64 a.t, i64 a.x, i64 a.y, .sl 0 0 n]⟩, some ⟨128, true, .one [i64 b.k, i64 b.n, i64 b.p, i64 b.t, i64 b.x, i64 b.y, .sl 1 0 n2]⟩] }) := by kernel_rfl
theorem la_df {a b : Qd} {o1 o2 : Bool} {m1 m2 : Nat} {P1 P2 : Nat → Opp} {n n2 : Nat} {i : Int} : (rT laG nol 2 54 (bodyOf Try.f111 0) laK laK (laS a b o1 o2 m1 m2 P1 P2 n n2 i)).go [] = some ([decide (i < ((n : Nat) : Int)), decide ((0 : Int) ≤ i), decide (i < ((n : Nat) : Int)), decide (0 + i.toNat < m1), decide ((0 : Int) ≤ i), decide (i < ((n2 : Nat) : Int)), decide (0 + i.toNat < m2), !((P1 (0 + i.toNat)).k == (P2 (0 + i.toNat)).k && ((P1 (0 + i.toNat)).i == (P2 (0 + i.toNat)).i && ((P1 (0 + i.toNat)).a == (P2 (0 + i.toNat)).a && ((P1 (0 + i.toNat)).b == (P2 (0 + i.toNat)).b && ((P1 (0 + i.toNat)).s == (P2 (0 + i.toNat)).s && true)))))], Ex.ret, { sl := slots 66 [(2, .c (.ptr 2 0 0)), (3, .c (.ptr 3 0 0)), (4, Bo false), (5, I64 i)], h := [some ⟨121, o1, .row 5 m1 fun j => [.int .i64 (P1 j).k, .int .i64 (P1 j).i, .int .i64 (P1 j).a, .int .i64 (P1 j).b, .string (P1 j).s]⟩, some ⟨121, o2, .row 5 m2 fun j => [.int .i64 (P2 j).k, .int .i64 (P2 j).i, .int .i64 (P2 j).a, .int .i64 (P2 j).b, .string (P2 j).s]⟩, some ⟨128, true, .one [i64 a.k, i64 a.n, i64 a.p, i64 a.t, i64 a.x, i64 a.y, .sl 0 0 n]⟩, some ⟨128, true, .one [i64 b.k, i64 b.n, i64 b.p, i64 b.t, i64 b.x, i64 b.y, .sl 1 0 n2]⟩] }) := by kernel_rfl
theorem la_go {a b : Qd} {o1 o2 : Bool} {m1 m2 : Nat} {P1 P2 : Nat → Opp} {n n2 : Nat} {i : Int} : (rT laG nol 2 54 (bodyOf Try.f111 0) laK laK (laS a b o1 o2 m1 m2 P1 P2 n n2 i)).go [true, true, true, true, true, true, true, false] = some ([decide (i < ((n : Nat) : Int)), decide ((0 : Int) ≤ i), decide (i < ((n : Nat) : Int)), decide (0 + i.toNat < m1), decide ((0 : Int) ≤ i), decide (i < ((n2 : Nat) : Int)), decide (0 + i.toNat < m2), !!((P1 (0 + i.toNat)).k == (P2 (0 + i.toNat)).k && ((P1 (0 + i.toNat)).i == (P2 (0 + i.toNat)).i && ((P1 (0 + i.toNat)).a == (P2 (0 + i.toNat)).a && ((P1 (0 + i.toNat)).b == (P2 (0 + i.toNat)).b && ((P1 (0 + i.toNat)).s == (P2 (0 + i.toNat)).s && true)))))], Ex.normal, { sl := slots 66 [(2, .c (.ptr 2 0 0)), (3, .c (.ptr 3 0 0)), (4, Bo false), (5, I64 (w64 (i + (1 : Int))))], h := [some ⟨121, o1, .row 5 m1 fun j => [.int .i64 (P1 j).k, .int .i64 (P1 j).i, .int .i64 (P1 j).a, .int .i64 (P1 j).b, .string (P1 j).s]⟩, some ⟨121, o2, .row 5 m2 fun j => [.int .i64 (P2 j).k, .int .i64 (P2 j).i, .int .i64 (P2 j).a, .int .i64 (P2 j).b, .string (P2 j).s]⟩, some ⟨128, true, .one [i64 a.k, i64 a.n, i64 a.p, i64 a.t, i64 a.x, i64 a.y, .sl 0 0 n]⟩, some ⟨128, true, .one [i64 b.k, i64 b.n, i64 b.p, i64 b.t, i64 b.x, i64 b.y, .sl 1 0 n2]⟩] }) := by kernel_rfl
def laN (a b : Qd) : St := ⟨slots 66 [(2, .c (.ptr 0 0 0)), (3, .c (.ptr 1 0 0)), (4, Bo false), (5, I64 0)], [bxQ a (.v (.slice none 0 0)), bxQ b (.v (.slice none 0 0))]⟩
def laN1 (a b : Qd) (o1 : Bool) (m1 : Nat) (P1 : Nat → Opp) : St := ⟨slots 66 [(2, .c (.ptr 1 0 0)), (3, .c (.ptr 2 0 0)), (4, Bo false), (5, I64 0)], [rowP o1 m1 P1, bxQ a (.sl 0 0 0), bxQ b (.v (.slice none 0 0))]⟩
def laN2 (a b : Qd) (o1 : Bool) (m1 : Nat) (P1 : Nat → Opp) : St := ⟨slots 66 [(2, .c (.ptr 1 0 0)), (3, .c (.ptr 2 0 0)), (4, Bo false), (5, I64 0)], [rowP o1 m1 P1, bxQ a (.v (.slice none 0 0)), bxQ b (.sl 0 0 0)]⟩
theorem lan_e {a b : Qd} : (rT laG nol 0 54 (bodyOf Try.f111 0) laK laK (laN a b)).go [false] = some ([true], Ex.exit 0, { sl := slots 66 [(2, .c (.ptr 0 0 0)), (3, .c (.ptr 1 0 0)), (4, Bo false), (5, I64 0)], h := [some ⟨128, true, .one [i64 a.k, i64 a.n, i64 a.p, i64 a.t, i64 a.x, i64 a.y, .v (.slice none 0 0)]⟩, some ⟨128, true, .one [i64 b.k, i64 b.n, i64 b.p, i64 b.t, i64 b.x, i64 b.y, .v (.slice none 0 0)]⟩] }) := by kernel_rfl
theorem lan1_e {a b : Qd} {o1 : Bool} {m1 : Nat} {P1 : Nat → Opp} : (rT laG nol 1 54 (bodyOf Try.f111 0) laK laK (laN1 a b o1 m1 P1)).go [false] = some ([true], Ex.exit 0, { sl := slots 66 [(2, .c (.ptr 1 0 0)), (3, .c (.ptr 2 0 0)), (4, Bo false), (5, I64 0)], h := [some ⟨121, o1, .row 5 m1 fun j => [.int .i64 (P1 j).k, .int .i64 (P1 j).i, .int .i64 (P1 j).a, .int .i64 (P1 j).b, .string (P1 j).s]⟩, some ⟨128, true, .one [i64 a.k, i64 a.n, i64 a.p, i64 a.t, i64 a.x, i64 a.y, .sl 0 0 0]⟩, some ⟨128, true, .one [i64 b.k, i64 b.n, i64 b.p, i64 b.t, i64 b.x, i64 b.y, .v (.slice none 0 0)]⟩] }) := by kernel_rfl
theorem lan2_e {a b : Qd} {o1 : Bool} {m1 : Nat} {P1 : Nat → Opp} : (rT laG nol 1 54 (bodyOf Try.f111 0) laK laK (laN2 a b o1 m1 P1)).go [false] = some ([true], Ex.exit 0, { sl := slots 66 [(2, .c (.ptr 1 0 0)), (3, .c (.ptr 2 0 0)), (4, Bo false), (5, I64 0)], h := [some ⟨121, o1, .row 5 m1 fun j => [.int .i64 (P1 j).k, .int .i64 (P1 j).i, .int .i64 (P1 j).a, .int .i64 (P1 j).b, .string (P1 j).s]⟩, some ⟨128, true, .one [i64 a.k, i64 a.n, i64 a.p, i64 a.t, i64 a.x, i64 a.y, .v (.slice none 0 0)]⟩, some ⟨128, true, .one [i64 b.k, i64 b.n, i64 b.p, i64 b.t, i64 b.x, i64 b.y, .sl 0 0 0]⟩] }) := by kernel_rfl
theorem la_nnf {a b : Qd} : (lfun laG nol 60 Try.f111 [qV a (.v (.slice none 0 0)), qV b (.v (.slice none 0 0))] []).eval = bif a.k != b.k then some (Bo false, []) else bif a.n != b.n then some (Bo false, []) else bif !(a.p == b.p && (a.t == b.t && true)) then some (Bo false, []) else bif a.x != b.x then some (Bo false, []) else bif a.y != b.y then some (Bo false, []) else none := by kernel_rfl
theorem la_nsf {a b : Qd} {o : Bool} {m n : Nat} {P : Nat → Opp} : (lfun laG nol 60 Try.f111 [qV a (.v (.slice none 0 0)), qV b (.sl 0 0 n)] [rowP o m P]).eval = bif a.k != b.k then some (Bo false, [some ⟨121, o, .row 5 m fun j => [.int .i64 (P j).k, .int .i64 (P j).i, .int .i64 (P j).a, .int .i64 (P j).b, .string (P j).s]⟩]) else bif a.n != b.n then some (Bo false, [some ⟨121, o, .row 5 m fun j => [.int .i64 (P j).k, .int .i64 (P j).i, .int .i64 (P j).a, .int .i64 (P j).b, .string (P j).s]⟩]) else bif !(a.p == b.p && (a.t == b.t && true)) then some (Bo false, [some ⟨121, o, .row 5 m fun j => [.int .i64 (P j).k, .int .i64 (P j).i, .int .i64 (P j).a, .int .i64 (P j).b, .string (P j).s]⟩]) else bif a.x != b.x then some (Bo false, [some ⟨121, o, .row 5 m fun j => [.int .i64 (P j).k, .int .i64 (P j).i, .int .i64 (P j).a, .int .i64 (P j).b, .string (P j).s]⟩]) else bif a.y != b.y then some (Bo false, [some ⟨121, o, .row 5 m fun j => [.int .i64 (P j).k, .int .i64 (P j).i, .int .i64 (P j).a, .int .i64 (P j).b, .string (P j).s]⟩]) else bif ((0 : Nat) : Int) != ((n : Nat) : Int) then some (Bo false, [some ⟨121, o, .row 5 m fun j => [.int .i64 (P j).k, .int .i64 (P j).i, .int .i64 (P j).a, .int .i64 (P j).b, .string (P j).s]⟩]) else none := by kernel_rfl
theorem la_snf {a b : Qd} {o : Bool} {m n : Nat} {P : Nat → Opp} : (lfun laG nol 60 Try.f111 [qV a (.sl 0 0 n), qV b (.v (.slice none 0 0))] [rowP o m P]).eval = bif a.k != b.k then some (Bo false, [some ⟨121, o, .row 5 m fun j => [.int .i64 (P j).k, .int .i64 (P j).i, .int .i64 (P j).a, .int .i64 (P j).b, .string (P j).s]⟩]) else bif a.n != b.n then some (Bo false, [some ⟨121, o, .row 5 m fun j => [.int .i64 (P j).k, .int .i64 (P j).i, .int .i64 (P j).a, .int .i64 (P j).b, .string (P j).s]⟩]) else bif !(a.p == b.p && (a.t == b.t && true)) then some (Bo false, [some ⟨121, o, .row 5 m fun j => [.int .i64 (P j).k, .int .i64 (P j).i, .int .i64 (P j).a, .int .i64 (P j).b, .string (P j).s]⟩]) else bif a.x != b.x then some (Bo false, [some ⟨121, o, .row 5 m fun j => [.int .i64 (P j).k, .int .i64 (P j).i, .int .i64 (P j).a, .int .i64 (P j).b, .string (P j).s]⟩]) else bif a.y != b.y then some (Bo false, [some ⟨121, o, .row 5 m fun j => [.int .i64 (P j).k, .int .i64 (P j).i, .int .i64 (P j).a, .int .i64 (P j).b, .string (P j).s]⟩]) else bif ((n : Nat) : Int) != ((0 : Nat) : Int) then some (Bo false, [some ⟨121, o, .row 5 m fun j => [.int .i64 (P j).k, .int .i64 (P j).i, .int .i64 (P j).a, .int .i64 (P j).b, .string (P j).s]⟩]) else none := by kernel_rfl
theorem la_ssf {a b : Qd} {o o2 : Bool} {m n m2 n2 : Nat} {P P2 : Nat → Opp} : (lfun laG nol 60 Try.f111 [qV a (.sl 0 0 n), qV b (.sl 1 0 n2)] [rowP o m P, rowP o2 m2 P2]).eval = bif a.k != b.k then some (Bo false, [some ⟨121, o, .row 5 m fun j => [.int .i64 (P j).k, .int .i64 (P j).i, .int .i64 (P j).a, .int .i64 (P j).b, .string (P j).s]⟩, some ⟨121, o2, .row 5 m2 fun j => [.int .i64 (P2 j).k, .int .i64 (P2 j).i, .int .i64 (P2 j).a, .int .i64 (P2 j).b, .string (P2 j).s]⟩]) else bif a.n != b.n then some (Bo false, [some ⟨121, o, .row 5 m fun j => [.int .i64 (P j).k, .int .i64 (P j).i, .int .i64 (P j).a, .int .i64 (P j).b, .string (P j).s]⟩, some ⟨121, o2, .row 5 m2 fun j => [.int .i64 (P2 j).k, .int .i64 (P2 j).i, .int .i64 (P2 j).a, .int .i64 (P2 j).b, .string (P2 j).s]⟩]) else bif !(a.p == b.p && (a.t == b.t && true)) then some (Bo false, [some ⟨121, o, .row 5 m fun j => [.int .i64 (P j).k, .int .i64 (P j).i, .int .i64 (P j).a, .int .i64 (P j).b, .string (P j).s]⟩, some ⟨121, o2, .row 5 m2 fun j => [.int .i64 (P2 j).k, .int .i64 (P2 j).i, .int .i64 (P2 j).a, .int .i64 (P2 j).b, .string (P2 j).s]⟩]) else bif a.x != b.x then some (Bo false, [some ⟨121, o, .row 5 m fun j => [.int .i64 (P j).k, .int .i64 (P j).i, .int .i64 (P j).a, .int .i64 (P j).b, .string (P j).s]⟩, some ⟨121, o2, .row 5 m2 fun j => [.int .i64 (P2 j).k, .int .i64 (P2 j).i, .int .i64 (P2 j).a, .int .i64 (P2 j).b, .string (P2 j).s]⟩]) else bif a.y != b.y then some (Bo false, [some ⟨121, o, .row 5 m fun j => [.int .i64 (P j).k, .int .i64 (P j).i, .int .i64 (P j).a, .int .i64 (P j).b, .string (P j).s]⟩, some ⟨121, o2, .row 5 m2 fun j => [.int .i64 (P2 j).k, .int .i64 (P2 j).i, .int .i64 (P2 j).a, .int .i64 (P2 j).b, .string (P2 j).s]⟩]) else bif ((n : Nat) : Int) != ((n2 : Nat) : Int) then some (Bo false, [some ⟨121, o, .row 5 m fun j => [.int .i64 (P j).k, .int .i64 (P j).i, .int .i64 (P j).a, .int .i64 (P j).b, .string (P j).s]⟩, some ⟨121, o2, .row 5 m2 fun j => [.int .i64 (P2 j).k, .int .i64 (P2 j).i, .int .i64 (P2 j).a, .int .i64 (P2 j).b, .string (P2 j).s]⟩]) else none := by kernel_rfl
theorem la_nn {a b : Qd} : (lfun laG (tell (bodyOf Try.f111 0) (laN a b) (.exit 0, laN a b)) 60 Try.f111 [qV a (.v (.slice none 0 0)), qV b (.v (.slice none 0 0))] []).go [false, false, false, false, false, false, false, false, false, false, false, false, false, false, false, false, false, false, false, false, false, false, false, false, false, false, false, false, false, false, false, false, false] = some ([!a.k != b.k, true, true, true, true, true, !a.n != b.n, true, true, true, true, true, !!(a.p == b.p && (a.t == b.t && true)), true, true, true, true, true, !a.x != b.x, true, true, true, true, true, !a.y != b.y, true, true, true, true, true, true, true, true, yes (wasS (bodyOf Try.f111 0) (laN a b))], Bo true, []) := by kernel_rfl
theorem la_sn {a b : Qd} {o1 : Bool} {m1 : Nat} {P1 : Nat → Opp} : (lfun laG (tell (bodyOf Try.f111 0) (laN1 a b o1 m1 P1) (.exit 0, laN1 a b o1 m1 P1)) 60 Try.f111 [qV a (.sl 0 0 0), qV b (.v (.slice none 0 0))] [rowP o1 m1 P1]).go [false, false, false, false, false, false, false, false, false, false, false, false, false, false, false, false, false, false, false, false, false, false, false, false, false, false, false, false, false, false, false, false, false] = some ([!a.k != b.k, true, true, true, true, true, !a.n != b.n, true, true, true, true, true, !!(a.p == b.p && (a.t == b.t && true)), true, true, true, true, true, !a.x != b.x, true, true, true, true, true, !a.y != b.y, true, true, true, true, true, true, true, true, yes (wasS (bodyOf Try.f111 0) (laN1 a b o1 m1 P1))], Bo true, [some ⟨121, o1, .row 5 m1 fun j => [.int .i64 (P1 j).k, .int .i64 (P1 j).i, .int .i64 (P1 j).a, .int .i64 (P1 j).b, .string (P1 j).s]⟩]) := by kernel_rfl
theorem la_ns {a b : Qd} {o1 : Bool} {m1 : Nat} {P1 : Nat → Opp} : (lfun laG (tell (bodyOf Try.f111 0) (laN2 a b o1 m1 P1) (.exit 0, laN2 a b o1 m1 P1)) 60 Try.f111 [qV a (.v (.slice none 0 0)), qV b (.sl 0 0 0)] [rowP o1 m1 P1]).go [false, false, false, false, false, false, false, false, false, false, false, false, false, false, false, false, false, false, false, false, false, false, false, false, false, false, false, false, false, false, false, false, false] = some ([!a.k != b.k, true, true, true, true, true, !a.n != b.n, true, true, true, true, true, !!(a.p == b.p && (a.t == b.t && true)), true, true, true, true, true, !a.x != b.x, true, true, true, true, true, !a.y != b.y, true, true, true, true, true, true, true, true, yes (wasS (bodyOf Try.f111 0) (laN2 a b o1 m1 P1))], Bo true, [some ⟨121, o1, .row 5 m1 fun j => [.int .i64 (P1 j).k, .int .i64 (P1 j).i, .int .i64 (P1 j).a, .int .i64 (P1 j).b, .string (P1 j).s]⟩]) := by kernel_rfl
theorem la_st {a b : Qd} {o1 o2 : Bool} {m1 m2 : Nat} {P1 P2 : Nat → Opp} {n n2 : Nat} {i : Int} : (lfun laG (tell (bodyOf Try.f111 0) (laS a b o1 o2 m1 m2 P1 P2 n n2 0) (.exit 0, laS a b o1 o2 m1 m2 P1 P2 n n2 i)) 60 Try.f111 [qV a (.sl 0 0 n), qV b (.sl 1 0 n2)] [rowP o1 m1 P1, rowP o2 m2 P2]).go [false, false, false, false, false, false, false, false, false, false, false, false, false, false, false, false, false, false, false, false, false, false, false, false, false, false, false, false, false, false, false, false, false] = some ([!a.k != b.k, true, true, true, true, true, !a.n != b.n, true, true, true, true, true, !!(a.p == b.p && (a.t == b.t && true)), true, true, true, true, true, !a.x != b.x, true, true, true, true, true, !a.y != b.y, true, true, true, true, true, true, true, !((n : Nat) : Int) != ((n2 : Nat) : Int), yes (wasS (bodyOf Try.f111 0) (laS a b o1 o2 m1 m2 P1 P2 n n2 0))], Bo true, [some ⟨121, o1, .row 5 m1 fun j => [.int .i64 (P1 j).k, .int .i64 (P1 j).i, .int .i64 (P1 j).a, .int .i64 (P1 j).b, .string (P1 j).s]⟩, some ⟨121, o2, .row 5 m2 fun j => [.int .i64 (P2 j).k, .int .i64 (P2 j).i, .int .i64 (P2 j).a, .int .i64 (P2 j).b, .string (P2 j).s]⟩]) := by kernel_rfl
theorem la_sf {a b : Qd} {o1 o2 : Bool} {m1 m2 : Nat} {P1 P2 : Nat → Opp} {n n2 : Nat} {i : Int} : (lfun laG (tell (bodyOf Try.f111 0) (laS a b o1 o2 m1 m2 P1 P2 n n2 0) (.ret, laS a b o1 o2 m1 m2 P1 P2 n n2 i)) 60 Try.f111 [qV a (.sl 0 0 n), qV b (.sl 1 0 n2)] [rowP o1 m1 P1, rowP o2 m2 P2]).go [false, false, false, false, false, false, false, false, false, false, false, false, false, false, false, false, false, false, false, false, false, false, false, false, false, false, false, false, false, false, false, false, false] = some ([!a.k != b.k, true, true, true, true, true, !a.n != b.n, true, true, true, true, true, !!(a.p == b.p && (a.t == b.t && true)), true, true, true, true, true, !a.x != b.x, true, true, true, true, true, !a.y != b.y, true, true, true, true, true, true, true, !((n : Nat) : Int) != ((n2 : Nat) : Int), yes (wasS (bodyOf Try.f111 0) (laS a b o1 o2 m1 m2 P1 P2 n n2 0))], Bo false, [some ⟨121, o1, .row 5 m1 fun j => [.int .i64 (P1 j).k, .int .i64 (P1 j).i, .int .i64 (P1 j).a, .int .i64 (P1 j).b, .string (P1 j).s]⟩, some ⟨121, o2, .row 5 m2 fun j => [.int .i64 (P2 j).k, .int .i64 (P2 j).i, .int .i64 (P2 j).a, .int .i64 (P2 j).b, .string (P2 j).s]⟩]) := by kernel_rfl
end
section
open Go Go.RowKit
theorem ne_t {x y : Int} (h : x ≠ y) : (x != y) = true := by rw [bne_iff_ne]; exact h
theorem ne_f {x y : Int} (h : x = y) : (x != y) = false := by rw [h]; simp
theorem five_t {α : Type} {a b : Qd} {X F : α} (h : sameF a b) : (bif a.k != b.k then F else bif a.n != b.n then F else bif !(a.p == b.p && (a.t == b.t && true)) then F else bif a.x != b.x then F else bif a.y != b.y then F else X) = X := by
  obtain ⟨h1, h2, h3, h4, h5, h6⟩ := h
  rw [ne_f h1, ne_f h2, h3, h4, ne_f h5, ne_f h6]
  simp
theorem five_f {α : Type} {a b : Qd} {X F : α} (h : ¬ sameF a b) : (bif a.k != b.k then F else bif a.n != b.n then F else bif !(a.p == b.p && (a.t == b.t && true)) then F else bif a.x != b.x then F else bif a.y != b.y then F else X) = F := by
  by_cases h1 : a.k = b.k
  · by_cases h2 : a.n = b.n
    · by_cases h3 : a.p = b.p
      · by_cases h4 : a.t = b.t
        · by_cases h5 : a.x = b.x
          · by_cases h6 : a.y = b.y
            · exact absurd ⟨h1, h2, h3, h4, h5, h6⟩ h
            · rw [ne_t h6]; simp
          · rw [ne_t h5]; simp
        · rw [nb h4]; simp
      · rw [nb h3]; simp
    · rw [ne_t h2]; simp
  · rw [ne_t h1]; rfl
theorem la_loop_t {a b : Qd} {o1 o2 : Bool} {m1 m2 : Nat} {P1 P2 : Nat → Opp} {n : Nat} (h1 : n ≤ m1) (h2 : n ≤ m2) (hn : n < 2 ^ 60) (hp : ∀ t, t < n → P1 t = P2 t) :
    CodeSem laG 2 (.loop (bodyOf Try.f111 0)) (laS a b o1 o2 m1 m2 P1 P2 n n 0) (.exit 0, laS a b o1 o2 m1 m2 P1 P2 n n (n : Nat)) := by
  refine loop_of (fun i => laS a b o1 o2 m1 m2 P1 P2 n n (i : Nat)) n (by simp) ?_ fun j hj => ?_
  · refine rT_sem laG_ok noLoopsS ((rT_go la_e ?_).trans rfl)
    repeat' (first | exact AllT.nil | refine AllT.cons ?_ ?_)
    all_goals first | (with_reducible rfl) | (rw [decide_eq_false (by omega)]; rfl)
  · have e1 := succ64 (j := j) (by omega)
    refine rT_sem laG_ok noLoopsS ((rT_go la_go ?_).trans ?_)
    · simp only [Int.toNat_natCast, Nat.zero_add]
      have e2 := (eqO_iff (P1 j) (P2 j)).2 (hp j hj)
      repeat' (first | exact AllT.nil | refine AllT.cons ?_ ?_)
      all_goals first | (with_reducible rfl) | exact decide_eq_true (by omega) | (rw [e2]; rfl)
    · simp only [Int.toNat_natCast, e1]
      rfl
theorem la_loop_f {a b : Qd} {o1 o2 : Bool} {m1 m2 : Nat} {P1 P2 : Nat → Opp} {n t : Nat} (h1 : n ≤ m1) (h2 : n ≤ m2) (hn : n < 2 ^ 60) (ht : t < n) (hd : ¬ P1 t = P2 t) (hp : ∀ s, s < t → P1 s = P2 s) :
    CodeSem laG 2 (.loop (bodyOf Try.f111 0)) (laS a b o1 o2 m1 m2 P1 P2 n n 0) (.ret, laS a b o1 o2 m1 m2 P1 P2 n n (t : Nat)) := by
  refine loop_of (fun i => laS a b o1 o2 m1 m2 P1 P2 n n (i : Nat)) t (by simp) ?_ fun j hj => ?_
  · refine rT_sem laG_ok noLoopsS ((rT_go la_df ?_).trans ?_)
    · simp only [Int.toNat_natCast, Nat.zero_add]
      have e2 : (((P1 t).k == (P2 t).k && ((P1 t).i == (P2 t).i && ((P1 t).a == (P2 t).a && ((P1 t).b == (P2 t).b && ((P1 t).s == (P2 t).s && true))))) : Bool) = false := by
        rw [← Bool.not_eq_true, eqO_iff]; exact hd
      repeat' (first | exact AllT.nil | refine AllT.cons ?_ ?_)
      all_goals first | (with_reducible rfl) | exact decide_eq_true (by omega) | (rw [e2]; rfl)
    · rfl
  · have e1 := succ64 (j := j) (by omega)
    refine rT_sem laG_ok noLoopsS ((rT_go la_go ?_).trans ?_)
    · simp only [Int.toNat_natCast, Nat.zero_add]
      have e2 := (eqO_iff (P1 j) (P2 j)).2 (hp j hj)
      repeat' (first | exact AllT.nil | refine AllT.cons ?_ ?_)
      all_goals first | (with_reducible rfl) | exact decide_eq_true (by omega) | (rw [e2]; rfl)
    · simp only [Int.toNat_natCast, e1]
      rfl
theorem laF_ok : SpecOk Try.prog 111 sqF := by
  refine knownS nilK Try.func111 fun args h r he => ?_
  unfold sqF at he
  split at he
  · rename_i k1 n1 p1 t1 x1 y1 k2 n2 p2 t2 x2 y2
    cases he
    by_cases hs : sameF ⟨k1, n1, p1, t1, x1, y1, []⟩ ⟨k2, n2, p2, t2, x2, y2, []⟩
    · obtain ⟨h1, h2, h3, h4, h5, h6⟩ := hs
      refine ⟨(fun k => if k = 4 then laK else []), [], 60, _, tell_ok (LoopR.stop (by simp) (rT_sem laG_ok noLoopsS (rT_go (lan_e (a := ⟨k1, n1, p1, t1, x1, y1, []⟩) (b := ⟨k2, n2, p2, t2, x2, y2, []⟩)) ?_))).sem, (Tr.go_eval la_nn ?_).trans ?_⟩
      · repeat' (first | exact AllT.nil | refine AllT.cons ?_ ?_)
        all_goals rfl
      · simp only at h1 h2 h3 h4 h5 h6
        subst h1; subst h2; subst h3; subst h4; subst h5; subst h6
        repeat' (first | exact AllT.nil | refine AllT.cons ?_ ?_)
        all_goals first | rfl | exact yes_of ⟨rfl, rfl⟩ | simp
      · rw [yes_of (show sameF ⟨k1, n1, p1, t1, x1, y1, []⟩ ⟨k2, n2, p2, t2, x2, y2, []⟩ from ⟨h1, h2, h3, h4, h5, h6⟩)]; all_goals rfl
    · refine ⟨(fun k => if k = 4 then laK else []), [], 60, nol, noLoopsS, (la_nnf (a := ⟨k1, n1, p1, t1, x1, y1, []⟩) (b := ⟨k2, n2, p2, t2, x2, y2, []⟩)).trans ?_⟩
      refine (five_f hs).trans ?_
      rw [yes_no hs]
  · rename_i k1 n1 p1 t1 x1 y1 k2 n2 p2 t2 x2 y2 c o m f
    obtain ⟨h1, he'⟩ := Tr.eval_ask.1 he
    cases he'
    have e2 : some ⟨121, o, .row 5 m f⟩ = rowP o m fun j => decO (f j) := by rw [rowP, ← h1]
    rw [e2]
    by_cases hs : sameF ⟨k1, n1, p1, t1, x1, y1, []⟩ ⟨k2, n2, p2, t2, x2, y2, []⟩
    · cases c with
      | zero =>
        obtain ⟨h1, h2, h3, h4, h5, h6⟩ := hs
        refine ⟨(fun k => if k = 4 then laK else []), [], 60, _, tell_ok (LoopR.stop (by simp) (rT_sem laG_ok noLoopsS (rT_go (lan2_e (a := ⟨k1, n1, p1, t1, x1, y1, []⟩) (b := ⟨k2, n2, p2, t2, x2, y2, []⟩) (o1 := o) (m1 := m) (P1 := fun j => decO (f j))) ?_))).sem, (Tr.go_eval la_ns ?_).trans ?_⟩
        · repeat' (first | exact AllT.nil | refine AllT.cons ?_ ?_)
          all_goals rfl
        · simp only at h1 h2 h3 h4 h5 h6
          subst h1; subst h2; subst h3; subst h4; subst h5; subst h6
          repeat' (first | exact AllT.nil | refine AllT.cons ?_ ?_)
          all_goals first | rfl | exact yes_of ⟨rfl, rfl⟩ | simp
        · rw [yes_of (show sameF ⟨k1, n1, p1, t1, x1, y1, []⟩ ⟨k2, n2, p2, t2, x2, y2, []⟩ ∧ 0 = 0 from ⟨⟨h1, h2, h3, h4, h5, h6⟩, rfl⟩)]; rfl
      | succ c =>
        refine ⟨(fun k => if k = 4 then laK else []), [], 60, nol, noLoopsS, (la_nsf (a := ⟨k1, n1, p1, t1, x1, y1, []⟩) (b := ⟨k2, n2, p2, t2, x2, y2, []⟩)).trans ?_⟩
        refine (five_t hs).trans ?_
        rw [yes_no fun h => Nat.succ_ne_zero c h.2, ne_t (by omega)]; rfl
    · refine ⟨(fun k => if k = 4 then laK else []), [], 60, nol, noLoopsS, (la_nsf (a := ⟨k1, n1, p1, t1, x1, y1, []⟩) (b := ⟨k2, n2, p2, t2, x2, y2, []⟩)).trans ?_⟩
      refine (five_f hs).trans ?_
      rw [yes_no fun h => hs h.1]; rfl
  · rename_i k1 n1 p1 t1 x1 y1 c k2 n2 p2 t2 x2 y2 o m f
    obtain ⟨h1, he'⟩ := Tr.eval_ask.1 he
    cases he'
    have e2 : some ⟨121, o, .row 5 m f⟩ = rowP o m fun j => decO (f j) := by rw [rowP, ← h1]
    rw [e2]
    by_cases hs : sameF ⟨k1, n1, p1, t1, x1, y1, []⟩ ⟨k2, n2, p2, t2, x2, y2, []⟩
    · cases c with
      | zero =>
        obtain ⟨h1, h2, h3, h4, h5, h6⟩ := hs
        refine ⟨(fun k => if k = 4 then laK else []), [], 60, _, tell_ok (LoopR.stop (by simp) (rT_sem laG_ok noLoopsS (rT_go (lan1_e (a := ⟨k1, n1, p1, t1, x1, y1, []⟩) (b := ⟨k2, n2, p2, t2, x2, y2, []⟩) (o1 := o) (m1 := m) (P1 := fun j => decO (f j))) ?_))).sem, (Tr.go_eval la_sn ?_).trans ?_⟩
        · repeat' (first | exact AllT.nil | refine AllT.cons ?_ ?_)
          all_goals rfl
        · simp only at h1 h2 h3 h4 h5 h6
          subst h1; subst h2; subst h3; subst h4; subst h5; subst h6
          repeat' (first | exact AllT.nil | refine AllT.cons ?_ ?_)
          all_goals first | rfl | exact yes_of ⟨rfl, rfl⟩ | simp
        · rw [yes_of (show sameF ⟨k1, n1, p1, t1, x1, y1, []⟩ ⟨k2, n2, p2, t2, x2, y2, []⟩ ∧ 0 = 0 from ⟨⟨h1, h2, h3, h4, h5, h6⟩, rfl⟩)]; rfl
      | succ c =>
        refine ⟨(fun k => if k = 4 then laK else []), [], 60, nol, noLoopsS, (la_snf (a := ⟨k1, n1, p1, t1, x1, y1, []⟩) (b := ⟨k2, n2, p2, t2, x2, y2, []⟩)).trans ?_⟩
        refine (five_t hs).trans ?_
        rw [yes_no fun h => Nat.succ_ne_zero c h.2, ne_t (by omega)]; rfl
    · refine ⟨(fun k => if k = 4 then laK else []), [], 60, nol, noLoopsS, (la_snf (a := ⟨k1, n1, p1, t1, x1, y1, []⟩) (b := ⟨k2, n2, p2, t2, x2, y2, []⟩)).trans ?_⟩
      refine (five_f hs).trans ?_
      rw [yes_no fun h => hs h.1]; rfl
  · rename_i k1 n1 p1 t1 x1 y1 c1 k2 n2 p2 t2 x2 y2 c2 o1 m1 f1 o2 m2 f2
    obtain ⟨⟨g1, g2, g3, g4, g5⟩, he'⟩ := Tr.eval_ask.1 he
    cases he'
    have e1 : some ⟨121, o1, .row 5 m1 f1⟩ = rowP o1 m1 fun j => decO (f1 j) := by rw [rowP, ← g4]
    have e2 : some ⟨121, o2, .row 5 m2 f2⟩ = rowP o2 m2 fun j => decO (f2 j) := by rw [rowP, ← g5]
    rw [e1, e2]
    by_cases hs : sameF ⟨k1, n1, p1, t1, x1, y1, []⟩ ⟨k2, n2, p2, t2, x2, y2, []⟩
    · by_cases hn : c1 = c2
      · subst hn
        rcases first_diff (fun t => decO (f1 t) = decO (f2 t)) c1 with hp | ⟨t, ht, hd, hp⟩
        · refine ⟨(fun k => if k = 4 then laK else []), [], 60, _, tell_ok (la_loop_t (a := ⟨k1, n1, p1, t1, x1, y1, []⟩) (b := ⟨k2, n2, p2, t2, x2, y2, []⟩) (o1 := o1) (o2 := o2) (m1 := m1) (m2 := m2) (P1 := fun j => decO (f1 j)) (P2 := fun j => decO (f2 j)) g1 g2 g3 hp), (Tr.go_eval la_st ?_).trans ?_⟩
          · obtain ⟨h1, h2, h3, h4, h5, h6⟩ := hs
            simp only at h1 h2 h3 h4 h5 h6
            subst h1; subst h2; subst h3; subst h4; subst h5; subst h6
            repeat' (first | exact AllT.nil | refine AllT.cons ?_ ?_)
            all_goals first | rfl | exact yes_of ⟨rfl, rfl⟩ | simp
          · rw [yes_of ⟨hs, rfl, hp⟩]; rfl
        · refine ⟨(fun k => if k = 4 then laK else []), [], 60, _, tell_ok (la_loop_f (a := ⟨k1, n1, p1, t1, x1, y1, []⟩) (b := ⟨k2, n2, p2, t2, x2, y2, []⟩) (o1 := o1) (o2 := o2) (m1 := m1) (m2 := m2) (P1 := fun j => decO (f1 j)) (P2 := fun j => decO (f2 j)) g1 g2 g3 ht hd hp), (Tr.go_eval la_sf ?_).trans ?_⟩
          · obtain ⟨h1, h2, h3, h4, h5, h6⟩ := hs
            simp only at h1 h2 h3 h4 h5 h6
            subst h1; subst h2; subst h3; subst h4; subst h5; subst h6
            repeat' (first | exact AllT.nil | refine AllT.cons ?_ ?_)
            all_goals first | rfl | exact yes_of ⟨rfl, rfl⟩ | simp
          · rw [yes_no fun h => hd (h.2.2 t ht)]; rfl
      · refine ⟨(fun k => if k = 4 then laK else []), [], 60, nol, noLoopsS, (la_ssf (a := ⟨k1, n1, p1, t1, x1, y1, []⟩) (b := ⟨k2, n2, p2, t2, x2, y2, []⟩)).trans ?_⟩
        refine (five_t hs).trans ?_
        rw [yes_no fun h => hn h.2.1, ne_t (by omega)]; rfl
    · refine ⟨(fun k => if k = 4 then laK else []), [], 60, nol, noLoopsS, (la_ssf (a := ⟨k1, n1, p1, t1, x1, y1, []⟩) (b := ⟨k2, n2, p2, t2, x2, y2, []⟩)).trans ?_⟩
      refine (five_f hs).trans ?_
      rw [yes_no fun h => hs h.1]; rfl
  · cases he
end
end Go.Proofs.Ytcpahifgdppkbaa.QAI
