/-
  No cell of these rows narrows 'for every input' (looked for: loops, veiled, ifaces, maps, wideKeys, modest, calm, conditions, laid).
  DERIVED. THE GIVEN ROWS OF THIS SEAT. 37 by the template 'for every input the law returns true; each argument reads behind the call as it read before'; 0 by the template 'total and deterministic' (their statements: YtcpahifgdppkbaaTotals.lean).
  GIVEN WITH THE SEED: the statements are not yours to turn. If you find one false, say at which input.
  Laid BY PROGRAM, IN A SANDBOX (cutbox-rows.mjs): the forced cells as the released guide's own fill.sh prints them over the translation 9fb9c5ac1acba8ce… (all of the seat's roots in one cut). By AI agents, Wed Nov 11 2026. No macro, syntax, notation, axiom, sorry.
-/
import Derived.Test.YtcpahifgdppkbaaChecked
import GoSem.Claim
import GoSem.ClaimJoined
import GoSem.ClaimMapViews
import Derived.JoinedTies
import Derived.KernelRfl
namespace Go.Proofs.Ytcpahifgdppkbaa
/- THE CELL 'sum', in the pinned program and in every row, IS THE sha256 OF THE DUMP (.gsa) THAT YtcpahifgdppkbaaProg.lean LOADS. Nothing in Lean hashes anything: it is a label: what it is worth is what the hold of that sum in a sandbox is worth. -/
noncomputable def Try.pinned : Pinned := { name := "ytcpahifgdppkbaa", sum := "9fb9c5ac1acba8ce7fe52b2ee69c94447bcafe37ef6a72b7dfde827e85797e8f", checked := Try.checked }
namespace Rows
def none {H : Type} : Left H := { results := [], args := [] }

/-- 'quoinlaw15.FoldBounds': WHATEVER THE INPUT: true; the input reads as it did. -/
def foldBoundsSpec : ChangeSpec := { name := "foldBounds", fn := fun _ => fun
  | [d1, d2] => { results := [.lit (.bool true)], args := [d1, d2] }
  | _ => none }
def foldBoundsRow : OpenClaim := { program := "ytcpahifgdppkbaa", sum := "9fb9c5ac1acba8ce7fe52b2ee69c94447bcafe37ef6a72b7dfde827e85797e8f", func := "quoin/quoinlaw15.FoldBounds", spec := "foldBounds", apart := false }
def FoldBoundsSaid : Prop := foldBoundsRow.holds Try.pinned (OpenSpec.ofChange foldBoundsSpec)

/-- ITS FALSE NEIGHBOUR: 'it returns false'. Refute it at one input. -/
def foldBoundsWrong : ChangeSpec := { name := "foldBounds", fn := fun _ => fun
  | [d1, d2] => { results := [.lit (.bool false)], args := [d1, d2] }
  | _ => none }
def FoldBoundsWrongFalsely : Prop := foldBoundsRow.holds Try.pinned (OpenSpec.ofChange foldBoundsWrong)

/-- 'quoinlaw15.FoldTells': WHATEVER THE INPUT: true; the input reads as it did. -/
def foldTellsSpec : ChangeSpec := { name := "foldTells", fn := fun _ => fun
  | [d1, d2] => { results := [.lit (.bool true)], args := [d1, d2] }
  | _ => none }
def foldTellsRow : OpenClaim := { program := "ytcpahifgdppkbaa", sum := "9fb9c5ac1acba8ce7fe52b2ee69c94447bcafe37ef6a72b7dfde827e85797e8f", func := "quoin/quoinlaw15.FoldTells", spec := "foldTells", apart := false }
def FoldTellsSaid : Prop := foldTellsRow.holds Try.pinned (OpenSpec.ofChange foldTellsSpec)

/-- ITS FALSE NEIGHBOUR: 'it returns false'. Refute it at one input. -/
def foldTellsWrong : ChangeSpec := { name := "foldTells", fn := fun _ => fun
  | [d1, d2] => { results := [.lit (.bool false)], args := [d1, d2] }
  | _ => none }
def FoldTellsWrongFalsely : Prop := foldTellsRow.holds Try.pinned (OpenSpec.ofChange foldTellsWrong)

/-- 'quoinlaw9.GaugBytes': WHATEVER THE INPUT: true; the input reads as it did. -/
def gaugBytesSpec : ChangeSpec := { name := "gaugBytes", fn := fun _ => fun
  | [d1, d2] => { results := [.lit (.bool true)], args := [d1, d2] }
  | _ => none }
def gaugBytesRow : OpenClaim := { program := "ytcpahifgdppkbaa", sum := "9fb9c5ac1acba8ce7fe52b2ee69c94447bcafe37ef6a72b7dfde827e85797e8f", func := "quoin/quoinlaw9.GaugBytes", spec := "gaugBytes", apart := false }
def GaugBytesSaid : Prop := gaugBytesRow.holds Try.pinned (OpenSpec.ofChange gaugBytesSpec)

/-- ITS FALSE NEIGHBOUR: 'it returns false'. Refute it at one input. -/
def gaugBytesWrong : ChangeSpec := { name := "gaugBytes", fn := fun _ => fun
  | [d1, d2] => { results := [.lit (.bool false)], args := [d1, d2] }
  | _ => none }
def GaugBytesWrongFalsely : Prop := gaugBytesRow.holds Try.pinned (OpenSpec.ofChange gaugBytesWrong)

/-- 'quoinlaw9.GaugTells': WHATEVER THE INPUT: true; the input reads as it did. -/
def gaugTellsSpec : ChangeSpec := { name := "gaugTells", fn := fun _ => fun
  | [d1, d2, d3] => { results := [.lit (.bool true)], args := [d1, d2, d3] }
  | _ => none }
def gaugTellsRow : OpenClaim := { program := "ytcpahifgdppkbaa", sum := "9fb9c5ac1acba8ce7fe52b2ee69c94447bcafe37ef6a72b7dfde827e85797e8f", func := "quoin/quoinlaw9.GaugTells", spec := "gaugTells", apart := false }
def GaugTellsSaid : Prop := gaugTellsRow.holds Try.pinned (OpenSpec.ofChange gaugTellsSpec)

/-- ITS FALSE NEIGHBOUR: 'it returns false'. Refute it at one input. -/
def gaugTellsWrong : ChangeSpec := { name := "gaugTells", fn := fun _ => fun
  | [d1, d2, d3] => { results := [.lit (.bool false)], args := [d1, d2, d3] }
  | _ => none }
def GaugTellsWrongFalsely : Prop := gaugTellsRow.holds Try.pinned (OpenSpec.ofChange gaugTellsWrong)

/-- 'quoinlaw9.GaugParts': WHATEVER THE INPUT: true; the input reads as it did. -/
def gaugPartsSpec : ChangeSpec := { name := "gaugParts", fn := fun _ => fun
  | [d1, d2, d3, d4] => { results := [.lit (.bool true)], args := [d1, d2, d3, d4] }
  | _ => none }
def gaugPartsRow : OpenClaim := { program := "ytcpahifgdppkbaa", sum := "9fb9c5ac1acba8ce7fe52b2ee69c94447bcafe37ef6a72b7dfde827e85797e8f", func := "quoin/quoinlaw9.GaugParts", spec := "gaugParts", apart := false }
def GaugPartsSaid : Prop := gaugPartsRow.holds Try.pinned (OpenSpec.ofChange gaugPartsSpec)

/-- ITS FALSE NEIGHBOUR: 'it returns false'. Refute it at one input. -/
def gaugPartsWrong : ChangeSpec := { name := "gaugParts", fn := fun _ => fun
  | [d1, d2, d3, d4] => { results := [.lit (.bool false)], args := [d1, d2, d3, d4] }
  | _ => none }
def GaugPartsWrongFalsely : Prop := gaugPartsRow.holds Try.pinned (OpenSpec.ofChange gaugPartsWrong)

/-- 'quoinlaw2.RectEdges': WHATEVER THE INPUT: true; the input reads as it did. -/
def rectEdgesSpec : ChangeSpec := { name := "rectEdges", fn := fun _ => fun
  | [d] => { results := [.lit (.bool true)], args := [d] }
  | _ => none }
def rectEdgesRow : OpenClaim := { program := "ytcpahifgdppkbaa", sum := "9fb9c5ac1acba8ce7fe52b2ee69c94447bcafe37ef6a72b7dfde827e85797e8f", func := "quoin/quoinlaw2.RectEdges", spec := "rectEdges", apart := false }
def RectEdgesSaid : Prop := rectEdgesRow.holds Try.pinned (OpenSpec.ofChange rectEdgesSpec)

/-- ITS FALSE NEIGHBOUR: 'it returns false'. Refute it at one input. -/
def rectEdgesWrong : ChangeSpec := { name := "rectEdges", fn := fun _ => fun
  | [d] => { results := [.lit (.bool false)], args := [d] }
  | _ => none }
def RectEdgesWrongFalsely : Prop := rectEdgesRow.holds Try.pinned (OpenSpec.ofChange rectEdgesWrong)

/-- 'quoinlaw2.RectJoins': WHATEVER THE INPUT: true; the input reads as it did. -/
def rectJoinsSpec : ChangeSpec := { name := "rectJoins", fn := fun _ => fun
  | [d1, d2, d3] => { results := [.lit (.bool true)], args := [d1, d2, d3] }
  | _ => none }
def rectJoinsRow : OpenClaim := { program := "ytcpahifgdppkbaa", sum := "9fb9c5ac1acba8ce7fe52b2ee69c94447bcafe37ef6a72b7dfde827e85797e8f", func := "quoin/quoinlaw2.RectJoins", spec := "rectJoins", apart := false }
def RectJoinsSaid : Prop := rectJoinsRow.holds Try.pinned (OpenSpec.ofChange rectJoinsSpec)

/-- ITS FALSE NEIGHBOUR: 'it returns false'. Refute it at one input. -/
def rectJoinsWrong : ChangeSpec := { name := "rectJoins", fn := fun _ => fun
  | [d1, d2, d3] => { results := [.lit (.bool false)], args := [d1, d2, d3] }
  | _ => none }
def RectJoinsWrongFalsely : Prop := rectJoinsRow.holds Try.pinned (OpenSpec.ofChange rectJoinsWrong)

/-- 'quoinlaw2.RectTells': WHATEVER THE INPUT: true; the input reads as it did. -/
def rectTellsSpec : ChangeSpec := { name := "rectTells", fn := fun _ => fun
  | [d1, d2, d3, d4, d5, d6, d7] => { results := [.lit (.bool true)], args := [d1, d2, d3, d4, d5, d6, d7] }
  | _ => none }
def rectTellsRow : OpenClaim := { program := "ytcpahifgdppkbaa", sum := "9fb9c5ac1acba8ce7fe52b2ee69c94447bcafe37ef6a72b7dfde827e85797e8f", func := "quoin/quoinlaw2.RectTells", spec := "rectTells", apart := false }
def RectTellsSaid : Prop := rectTellsRow.holds Try.pinned (OpenSpec.ofChange rectTellsSpec)

/-- ITS FALSE NEIGHBOUR: 'it returns false'. Refute it at one input. -/
def rectTellsWrong : ChangeSpec := { name := "rectTells", fn := fun _ => fun
  | [d1, d2, d3, d4, d5, d6, d7] => { results := [.lit (.bool false)], args := [d1, d2, d3, d4, d5, d6, d7] }
  | _ => none }
def RectTellsWrongFalsely : Prop := rectTellsRow.holds Try.pinned (OpenSpec.ofChange rectTellsWrong)

/-- 'quoinlaw2.RectPoints': WHATEVER THE INPUT: true; the input reads as it did. -/
def rectPointsSpec : ChangeSpec := { name := "rectPoints", fn := fun _ => fun
  | [d1, d2, d3, d4, d5, d6] => { results := [.lit (.bool true)], args := [d1, d2, d3, d4, d5, d6] }
  | _ => none }
def rectPointsRow : OpenClaim := { program := "ytcpahifgdppkbaa", sum := "9fb9c5ac1acba8ce7fe52b2ee69c94447bcafe37ef6a72b7dfde827e85797e8f", func := "quoin/quoinlaw2.RectPoints", spec := "rectPoints", apart := false }
def RectPointsSaid : Prop := rectPointsRow.holds Try.pinned (OpenSpec.ofChange rectPointsSpec)

/-- ITS FALSE NEIGHBOUR: 'it returns false'. Refute it at one input. -/
def rectPointsWrong : ChangeSpec := { name := "rectPoints", fn := fun _ => fun
  | [d1, d2, d3, d4, d5, d6] => { results := [.lit (.bool false)], args := [d1, d2, d3, d4, d5, d6] }
  | _ => none }
def RectPointsWrongFalsely : Prop := rectPointsRow.holds Try.pinned (OpenSpec.ofChange rectPointsWrong)

/-- 'quoinlaw16.StakOpens': WHATEVER THE INPUT: true; the input reads as it did. -/
def stakOpensSpec : ChangeSpec := { name := "stakOpens", fn := fun _ => fun
  | [d1, d2] => { results := [.lit (.bool true)], args := [d1, d2] }
  | _ => none }
def stakOpensRow : OpenClaim := { program := "ytcpahifgdppkbaa", sum := "9fb9c5ac1acba8ce7fe52b2ee69c94447bcafe37ef6a72b7dfde827e85797e8f", func := "quoin/quoinlaw16.StakOpens", spec := "stakOpens", unfollowed := true, recurses := true, apart := false }
def StakOpensSaid : Prop := stakOpensRow.holds Try.pinned (OpenSpec.ofChange stakOpensSpec)

/-- ITS FALSE NEIGHBOUR: 'it returns false'. Refute it at one input. -/
def stakOpensWrong : ChangeSpec := { name := "stakOpens", fn := fun _ => fun
  | [d1, d2] => { results := [.lit (.bool false)], args := [d1, d2] }
  | _ => none }
def StakOpensWrongFalsely : Prop := stakOpensRow.holds Try.pinned (OpenSpec.ofChange stakOpensWrong)

/-- 'quoinlaw16.StakRises': WHATEVER THE INPUT: true; the input reads as it did. -/
def stakRisesSpec : ChangeSpec := { name := "stakRises", fn := fun _ => fun
  | [d1, d2, d3] => { results := [.lit (.bool true)], args := [d1, d2, d3] }
  | _ => none }
def stakRisesRow : OpenClaim := { program := "ytcpahifgdppkbaa", sum := "9fb9c5ac1acba8ce7fe52b2ee69c94447bcafe37ef6a72b7dfde827e85797e8f", func := "quoin/quoinlaw16.StakRises", spec := "stakRises", unfollowed := true, recurses := true, apart := false }
def StakRisesSaid : Prop := stakRisesRow.holds Try.pinned (OpenSpec.ofChange stakRisesSpec)

/-- ITS FALSE NEIGHBOUR: 'it returns false'. Refute it at one input. -/
def stakRisesWrong : ChangeSpec := { name := "stakRises", fn := fun _ => fun
  | [d1, d2, d3] => { results := [.lit (.bool false)], args := [d1, d2, d3] }
  | _ => none }
def StakRisesWrongFalsely : Prop := stakRisesRow.holds Try.pinned (OpenSpec.ofChange stakRisesWrong)

/-- 'quoinlaw16.StakTells': WHATEVER THE INPUT: true; the input reads as it did. -/
def stakTellsSpec : ChangeSpec := { name := "stakTells", fn := fun _ => fun
  | [d1, d2, d3] => { results := [.lit (.bool true)], args := [d1, d2, d3] }
  | _ => none }
def stakTellsRow : OpenClaim := { program := "ytcpahifgdppkbaa", sum := "9fb9c5ac1acba8ce7fe52b2ee69c94447bcafe37ef6a72b7dfde827e85797e8f", func := "quoin/quoinlaw16.StakTells", spec := "stakTells", unfollowed := true, recurses := true, apart := false }
def StakTellsSaid : Prop := stakTellsRow.holds Try.pinned (OpenSpec.ofChange stakTellsSpec)

/-- ITS FALSE NEIGHBOUR: 'it returns false'. Refute it at one input. -/
def stakTellsWrong : ChangeSpec := { name := "stakTells", fn := fun _ => fun
  | [d1, d2, d3] => { results := [.lit (.bool false)], args := [d1, d2, d3] }
  | _ => none }
def StakTellsWrongFalsely : Prop := stakTellsRow.holds Try.pinned (OpenSpec.ofChange stakTellsWrong)

/-- 'quoinlaw16.StakMeets': WHATEVER THE INPUT: true; the input reads as it did. -/
def stakMeetsSpec : ChangeSpec := { name := "stakMeets", fn := fun _ => fun
  | [d1, d2, d3] => { results := [.lit (.bool true)], args := [d1, d2, d3] }
  | _ => none }
def stakMeetsRow : OpenClaim := { program := "ytcpahifgdppkbaa", sum := "9fb9c5ac1acba8ce7fe52b2ee69c94447bcafe37ef6a72b7dfde827e85797e8f", func := "quoin/quoinlaw16.StakMeets", spec := "stakMeets", unfollowed := true, recurses := true, apart := false }
def StakMeetsSaid : Prop := stakMeetsRow.holds Try.pinned (OpenSpec.ofChange stakMeetsSpec)

/-- ITS FALSE NEIGHBOUR: 'it returns false'. Refute it at one input. -/
def stakMeetsWrong : ChangeSpec := { name := "stakMeets", fn := fun _ => fun
  | [d1, d2, d3] => { results := [.lit (.bool false)], args := [d1, d2, d3] }
  | _ => none }
def StakMeetsWrongFalsely : Prop := stakMeetsRow.holds Try.pinned (OpenSpec.ofChange stakMeetsWrong)

/-- 'quoinlaw16.StakEmpty': WHATEVER THE INPUT: true; the input reads as it did. -/
def stakEmptySpec : ChangeSpec := { name := "stakEmpty", fn := fun _ => fun
  | [d1, d2, d3, d4] => { results := [.lit (.bool true)], args := [d1, d2, d3, d4] }
  | _ => none }
def stakEmptyRow : OpenClaim := { program := "ytcpahifgdppkbaa", sum := "9fb9c5ac1acba8ce7fe52b2ee69c94447bcafe37ef6a72b7dfde827e85797e8f", func := "quoin/quoinlaw16.StakEmpty", spec := "stakEmpty", unfollowed := true, recurses := true, apart := false }
def StakEmptySaid : Prop := stakEmptyRow.holds Try.pinned (OpenSpec.ofChange stakEmptySpec)

/-- ITS FALSE NEIGHBOUR: 'it returns false'. Refute it at one input. -/
def stakEmptyWrong : ChangeSpec := { name := "stakEmpty", fn := fun _ => fun
  | [d1, d2, d3, d4] => { results := [.lit (.bool false)], args := [d1, d2, d3, d4] }
  | _ => none }
def StakEmptyWrongFalsely : Prop := stakEmptyRow.holds Try.pinned (OpenSpec.ofChange stakEmptyWrong)

/-- 'quoinlaw20.CrosFills': WHATEVER THE INPUT: true; the input reads as it did. -/
def crosFillsSpec : ChangeSpec := { name := "crosFills", fn := fun _ => fun
  | [d1, d2, d3, d4, d5] => { results := [.lit (.bool true)], args := [d1, d2, d3, d4, d5] }
  | _ => none }
def crosFillsRow : OpenClaim := { program := "ytcpahifgdppkbaa", sum := "9fb9c5ac1acba8ce7fe52b2ee69c94447bcafe37ef6a72b7dfde827e85797e8f", func := "quoin/quoinlaw20.CrosFills", spec := "crosFills", apart := false }
def CrosFillsSaid : Prop := crosFillsRow.holds Try.pinned (OpenSpec.ofChange crosFillsSpec)

/-- ITS FALSE NEIGHBOUR: 'it returns false'. Refute it at one input. -/
def crosFillsWrong : ChangeSpec := { name := "crosFills", fn := fun _ => fun
  | [d1, d2, d3, d4, d5] => { results := [.lit (.bool false)], args := [d1, d2, d3, d4, d5] }
  | _ => none }
def CrosFillsWrongFalsely : Prop := crosFillsRow.holds Try.pinned (OpenSpec.ofChange crosFillsWrong)

/-- 'quoinlaw20.CrosLines': WHATEVER THE INPUT: true; the input reads as it did. -/
def crosLinesSpec : ChangeSpec := { name := "crosLines", fn := fun _ => fun
  | [d] => { results := [.lit (.bool true)], args := [d] }
  | _ => none }
def crosLinesRow : OpenClaim := { program := "ytcpahifgdppkbaa", sum := "9fb9c5ac1acba8ce7fe52b2ee69c94447bcafe37ef6a72b7dfde827e85797e8f", func := "quoin/quoinlaw20.CrosLines", spec := "crosLines", apart := false }
def CrosLinesSaid : Prop := crosLinesRow.holds Try.pinned (OpenSpec.ofChange crosLinesSpec)

/-- ITS FALSE NEIGHBOUR: 'it returns false'. Refute it at one input. -/
def crosLinesWrong : ChangeSpec := { name := "crosLines", fn := fun _ => fun
  | [d] => { results := [.lit (.bool false)], args := [d] }
  | _ => none }
def CrosLinesWrongFalsely : Prop := crosLinesRow.holds Try.pinned (OpenSpec.ofChange crosLinesWrong)

/-- 'quoinlaw20.CrosTells': WHATEVER THE INPUT: true; the input reads as it did. -/
def crosTellsSpec : ChangeSpec := { name := "crosTells", fn := fun _ => fun
  | [d1, d2, d3, d4, d5, d6, d7, d8, d9, d10] => { results := [.lit (.bool true)], args := [d1, d2, d3, d4, d5, d6, d7, d8, d9, d10] }
  | _ => none }
def crosTellsRow : OpenClaim := { program := "ytcpahifgdppkbaa", sum := "9fb9c5ac1acba8ce7fe52b2ee69c94447bcafe37ef6a72b7dfde827e85797e8f", func := "quoin/quoinlaw20.CrosTells", spec := "crosTells", apart := false }
def CrosTellsSaid : Prop := crosTellsRow.holds Try.pinned (OpenSpec.ofChange crosTellsSpec)

/-- ITS FALSE NEIGHBOUR: 'it returns false'. Refute it at one input. -/
def crosTellsWrong : ChangeSpec := { name := "crosTells", fn := fun _ => fun
  | [d1, d2, d3, d4, d5, d6, d7, d8, d9, d10] => { results := [.lit (.bool false)], args := [d1, d2, d3, d4, d5, d6, d7, d8, d9, d10] }
  | _ => none }
def CrosTellsWrongFalsely : Prop := crosTellsRow.holds Try.pinned (OpenSpec.ofChange crosTellsWrong)

/-- 'quoinlaw20.CrosWithin': WHATEVER THE INPUT: true; the input reads as it did. -/
def crosWithinSpec : ChangeSpec := { name := "crosWithin", fn := fun _ => fun
  | [d1, d2, d3, d4, d5, d6] => { results := [.lit (.bool true)], args := [d1, d2, d3, d4, d5, d6] }
  | _ => none }
def crosWithinRow : OpenClaim := { program := "ytcpahifgdppkbaa", sum := "9fb9c5ac1acba8ce7fe52b2ee69c94447bcafe37ef6a72b7dfde827e85797e8f", func := "quoin/quoinlaw20.CrosWithin", spec := "crosWithin", apart := false }
def CrosWithinSaid : Prop := crosWithinRow.holds Try.pinned (OpenSpec.ofChange crosWithinSpec)

/-- ITS FALSE NEIGHBOUR: 'it returns false'. Refute it at one input. -/
def crosWithinWrong : ChangeSpec := { name := "crosWithin", fn := fun _ => fun
  | [d1, d2, d3, d4, d5, d6] => { results := [.lit (.bool false)], args := [d1, d2, d3, d4, d5, d6] }
  | _ => none }
def CrosWithinWrongFalsely : Prop := crosWithinRow.holds Try.pinned (OpenSpec.ofChange crosWithinWrong)

/-- 'quoinlaw10.WhitParts': WHATEVER THE INPUT: true; the input reads as it did. -/
def whitPartsSpec : ChangeSpec := { name := "whitParts", fn := fun _ => fun
  | [d1, d2, d3, d4] => { results := [.lit (.bool true)], args := [d1, d2, d3, d4] }
  | _ => none }
def whitPartsRow : OpenClaim := { program := "ytcpahifgdppkbaa", sum := "9fb9c5ac1acba8ce7fe52b2ee69c94447bcafe37ef6a72b7dfde827e85797e8f", func := "quoin/quoinlaw10.WhitParts", spec := "whitParts", inPlace := ["internal/bytealg.IndexByteString"], apart := false }
def WhitPartsSaid : Prop := whitPartsRow.holds Try.pinned (OpenSpec.ofChange whitPartsSpec)

/-- ITS FALSE NEIGHBOUR: 'it returns false'. Refute it at one input. -/
def whitPartsWrong : ChangeSpec := { name := "whitParts", fn := fun _ => fun
  | [d1, d2, d3, d4] => { results := [.lit (.bool false)], args := [d1, d2, d3, d4] }
  | _ => none }
def WhitPartsWrongFalsely : Prop := whitPartsRow.holds Try.pinned (OpenSpec.ofChange whitPartsWrong)

/-- 'quoinlaw10.WhitHolds': WHATEVER THE INPUT: true; the input reads as it did. -/
def whitHoldsSpec : ChangeSpec := { name := "whitHolds", fn := fun _ => fun
  | [d1, d2] => { results := [.lit (.bool true)], args := [d1, d2] }
  | _ => none }
def whitHoldsRow : OpenClaim := { program := "ytcpahifgdppkbaa", sum := "9fb9c5ac1acba8ce7fe52b2ee69c94447bcafe37ef6a72b7dfde827e85797e8f", func := "quoin/quoinlaw10.WhitHolds", spec := "whitHolds", inPlace := ["internal/bytealg.IndexByteString"], apart := false }
def WhitHoldsSaid : Prop := whitHoldsRow.holds Try.pinned (OpenSpec.ofChange whitHoldsSpec)

/-- ITS FALSE NEIGHBOUR: 'it returns false'. Refute it at one input. -/
def whitHoldsWrong : ChangeSpec := { name := "whitHolds", fn := fun _ => fun
  | [d1, d2] => { results := [.lit (.bool false)], args := [d1, d2] }
  | _ => none }
def WhitHoldsWrongFalsely : Prop := whitHoldsRow.holds Try.pinned (OpenSpec.ofChange whitHoldsWrong)

/-- 'quoinlaw10.WhitTells': WHATEVER THE INPUT: true; the input reads as it did. -/
def whitTellsSpec : ChangeSpec := { name := "whitTells", fn := fun _ => fun
  | [d1, d2, d3] => { results := [.lit (.bool true)], args := [d1, d2, d3] }
  | _ => none }
def whitTellsRow : OpenClaim := { program := "ytcpahifgdppkbaa", sum := "9fb9c5ac1acba8ce7fe52b2ee69c94447bcafe37ef6a72b7dfde827e85797e8f", func := "quoin/quoinlaw10.WhitTells", spec := "whitTells", inPlace := ["internal/bytealg.IndexByteString"], apart := false }
def WhitTellsSaid : Prop := whitTellsRow.holds Try.pinned (OpenSpec.ofChange whitTellsSpec)

/-- ITS FALSE NEIGHBOUR: 'it returns false'. Refute it at one input. -/
def whitTellsWrong : ChangeSpec := { name := "whitTells", fn := fun _ => fun
  | [d1, d2, d3] => { results := [.lit (.bool false)], args := [d1, d2, d3] }
  | _ => none }
def WhitTellsWrongFalsely : Prop := whitTellsRow.holds Try.pinned (OpenSpec.ofChange whitTellsWrong)

/-- 'quoinlaw10.WhitRows': WHATEVER THE INPUT: true; the input reads as it did. -/
def whitRowsSpec : ChangeSpec := { name := "whitRows", fn := fun _ => fun
  | [d1, d2] => { results := [.lit (.bool true)], args := [d1, d2] }
  | _ => none }
def whitRowsRow : OpenClaim := { program := "ytcpahifgdppkbaa", sum := "9fb9c5ac1acba8ce7fe52b2ee69c94447bcafe37ef6a72b7dfde827e85797e8f", func := "quoin/quoinlaw10.WhitRows", spec := "whitRows", inPlace := ["internal/bytealg.IndexByteString"], apart := false }
def WhitRowsSaid : Prop := whitRowsRow.holds Try.pinned (OpenSpec.ofChange whitRowsSpec)

/-- ITS FALSE NEIGHBOUR: 'it returns false'. Refute it at one input. -/
def whitRowsWrong : ChangeSpec := { name := "whitRows", fn := fun _ => fun
  | [d1, d2] => { results := [.lit (.bool false)], args := [d1, d2] }
  | _ => none }
def WhitRowsWrongFalsely : Prop := whitRowsRow.holds Try.pinned (OpenSpec.ofChange whitRowsWrong)

/-- 'quoinlaw10.WhitPre': WHATEVER THE INPUT: true; the input reads as it did. -/
def whitPreSpec : ChangeSpec := { name := "whitPre", fn := fun _ => fun
  | [d1, d2, d3] => { results := [.lit (.bool true)], args := [d1, d2, d3] }
  | _ => none }
def whitPreRow : OpenClaim := { program := "ytcpahifgdppkbaa", sum := "9fb9c5ac1acba8ce7fe52b2ee69c94447bcafe37ef6a72b7dfde827e85797e8f", func := "quoin/quoinlaw10.WhitPre", spec := "whitPre", inPlace := ["internal/bytealg.IndexByteString"], apart := false }
def WhitPreSaid : Prop := whitPreRow.holds Try.pinned (OpenSpec.ofChange whitPreSpec)

/-- ITS FALSE NEIGHBOUR: 'it returns false'. Refute it at one input. -/
def whitPreWrong : ChangeSpec := { name := "whitPre", fn := fun _ => fun
  | [d1, d2, d3] => { results := [.lit (.bool false)], args := [d1, d2, d3] }
  | _ => none }
def WhitPreWrongFalsely : Prop := whitPreRow.holds Try.pinned (OpenSpec.ofChange whitPreWrong)

/-- 'quoinlaw11.BrkWords': WHATEVER THE INPUT: true; the input reads as it did. -/
def brkWordsSpec : ChangeSpec := { name := "brkWords", fn := fun _ => fun
  | [d1, d2, d3, d4] => { results := [.lit (.bool true)], args := [d1, d2, d3, d4] }
  | _ => none }
def brkWordsRow : OpenClaim := { program := "ytcpahifgdppkbaa", sum := "9fb9c5ac1acba8ce7fe52b2ee69c94447bcafe37ef6a72b7dfde827e85797e8f", func := "quoin/quoinlaw11.BrkWords", spec := "brkWords", unfollowed := true, recurses := true, apart := false }
def BrkWordsSaid : Prop := brkWordsRow.holds Try.pinned (OpenSpec.ofChange brkWordsSpec)

/-- ITS FALSE NEIGHBOUR: 'it returns false'. Refute it at one input. -/
def brkWordsWrong : ChangeSpec := { name := "brkWords", fn := fun _ => fun
  | [d1, d2, d3, d4] => { results := [.lit (.bool false)], args := [d1, d2, d3, d4] }
  | _ => none }
def BrkWordsWrongFalsely : Prop := brkWordsRow.holds Try.pinned (OpenSpec.ofChange brkWordsWrong)

/-- 'quoinlaw11.BrkWhole': WHATEVER THE INPUT: true; the input reads as it did. -/
def brkWholeSpec : ChangeSpec := { name := "brkWhole", fn := fun _ => fun
  | [d1, d2, d3] => { results := [.lit (.bool true)], args := [d1, d2, d3] }
  | _ => none }
def brkWholeRow : OpenClaim := { program := "ytcpahifgdppkbaa", sum := "9fb9c5ac1acba8ce7fe52b2ee69c94447bcafe37ef6a72b7dfde827e85797e8f", func := "quoin/quoinlaw11.BrkWhole", spec := "brkWhole", unfollowed := true, recurses := true, apart := false }
def BrkWholeSaid : Prop := brkWholeRow.holds Try.pinned (OpenSpec.ofChange brkWholeSpec)

/-- ITS FALSE NEIGHBOUR: 'it returns false'. Refute it at one input. -/
def brkWholeWrong : ChangeSpec := { name := "brkWhole", fn := fun _ => fun
  | [d1, d2, d3] => { results := [.lit (.bool false)], args := [d1, d2, d3] }
  | _ => none }
def BrkWholeWrongFalsely : Prop := brkWholeRow.holds Try.pinned (OpenSpec.ofChange brkWholeWrong)

/-- 'quoinlaw11.BrkTells': WHATEVER THE INPUT: true; the input reads as it did. -/
def brkTellsSpec : ChangeSpec := { name := "brkTells", fn := fun _ => fun
  | [d1, d2, d3, d4] => { results := [.lit (.bool true)], args := [d1, d2, d3, d4] }
  | _ => none }
def brkTellsRow : OpenClaim := { program := "ytcpahifgdppkbaa", sum := "9fb9c5ac1acba8ce7fe52b2ee69c94447bcafe37ef6a72b7dfde827e85797e8f", func := "quoin/quoinlaw11.BrkTells", spec := "brkTells", unfollowed := true, recurses := true, apart := false }
def BrkTellsSaid : Prop := brkTellsRow.holds Try.pinned (OpenSpec.ofChange brkTellsSpec)

/-- ITS FALSE NEIGHBOUR: 'it returns false'. Refute it at one input. -/
def brkTellsWrong : ChangeSpec := { name := "brkTells", fn := fun _ => fun
  | [d1, d2, d3, d4] => { results := [.lit (.bool false)], args := [d1, d2, d3, d4] }
  | _ => none }
def BrkTellsWrongFalsely : Prop := brkTellsRow.holds Try.pinned (OpenSpec.ofChange brkTellsWrong)

/-- 'quoinlaw11.BrkFull': WHATEVER THE INPUT: true; the input reads as it did. -/
def brkFullSpec : ChangeSpec := { name := "brkFull", fn := fun _ => fun
  | [d1, d2] => { results := [.lit (.bool true)], args := [d1, d2] }
  | _ => none }
def brkFullRow : OpenClaim := { program := "ytcpahifgdppkbaa", sum := "9fb9c5ac1acba8ce7fe52b2ee69c94447bcafe37ef6a72b7dfde827e85797e8f", func := "quoin/quoinlaw11.BrkFull", spec := "brkFull", unfollowed := true, recurses := true, apart := false }
def BrkFullSaid : Prop := brkFullRow.holds Try.pinned (OpenSpec.ofChange brkFullSpec)

/-- ITS FALSE NEIGHBOUR: 'it returns false'. Refute it at one input. -/
def brkFullWrong : ChangeSpec := { name := "brkFull", fn := fun _ => fun
  | [d1, d2] => { results := [.lit (.bool false)], args := [d1, d2] }
  | _ => none }
def BrkFullWrongFalsely : Prop := brkFullRow.holds Try.pinned (OpenSpec.ofChange brkFullWrong)

/-- 'quoinlaw11.BrkLeast': WHATEVER THE INPUT: true; the input reads as it did. -/
def brkLeastSpec : ChangeSpec := { name := "brkLeast", fn := fun _ => fun
  | [d1, d2, d3] => { results := [.lit (.bool true)], args := [d1, d2, d3] }
  | _ => none }
def brkLeastRow : OpenClaim := { program := "ytcpahifgdppkbaa", sum := "9fb9c5ac1acba8ce7fe52b2ee69c94447bcafe37ef6a72b7dfde827e85797e8f", func := "quoin/quoinlaw11.BrkLeast", spec := "brkLeast", unfollowed := true, recurses := true, apart := false }
def BrkLeastSaid : Prop := brkLeastRow.holds Try.pinned (OpenSpec.ofChange brkLeastSpec)

/-- ITS FALSE NEIGHBOUR: 'it returns false'. Refute it at one input. -/
def brkLeastWrong : ChangeSpec := { name := "brkLeast", fn := fun _ => fun
  | [d1, d2, d3] => { results := [.lit (.bool false)], args := [d1, d2, d3] }
  | _ => none }
def BrkLeastWrongFalsely : Prop := brkLeastRow.holds Try.pinned (OpenSpec.ofChange brkLeastWrong)

/-- 'quoinlaw12.RowHeights': WHATEVER THE INPUT: true; the input reads as it did. -/
def rowHeightsSpec : ChangeSpec := { name := "rowHeights", fn := fun _ => fun
  | [d1, d2, d3, d4, d5] => { results := [.lit (.bool true)], args := [d1, d2, d3, d4, d5] }
  | _ => none }
def rowHeightsRow : OpenClaim := { program := "ytcpahifgdppkbaa", sum := "9fb9c5ac1acba8ce7fe52b2ee69c94447bcafe37ef6a72b7dfde827e85797e8f", func := "quoin/quoinlaw12.RowHeights", spec := "rowHeights", inPlace := ["internal/bytealg.IndexByteString"], unfollowed := true, recurses := true, apart := false }
def RowHeightsSaid : Prop := rowHeightsRow.holds Try.pinned (OpenSpec.ofChange rowHeightsSpec)

/-- ITS FALSE NEIGHBOUR: 'it returns false'. Refute it at one input. -/
def rowHeightsWrong : ChangeSpec := { name := "rowHeights", fn := fun _ => fun
  | [d1, d2, d3, d4, d5] => { results := [.lit (.bool false)], args := [d1, d2, d3, d4, d5] }
  | _ => none }
def RowHeightsWrongFalsely : Prop := rowHeightsRow.holds Try.pinned (OpenSpec.ofChange rowHeightsWrong)

/-- 'quoinlaw12.RowRoom': WHATEVER THE INPUT: true; the input reads as it did. -/
def rowRoomSpec : ChangeSpec := { name := "rowRoom", fn := fun _ => fun
  | [d1, d2, d3] => { results := [.lit (.bool true)], args := [d1, d2, d3] }
  | _ => none }
def rowRoomRow : OpenClaim := { program := "ytcpahifgdppkbaa", sum := "9fb9c5ac1acba8ce7fe52b2ee69c94447bcafe37ef6a72b7dfde827e85797e8f", func := "quoin/quoinlaw12.RowRoom", spec := "rowRoom", inPlace := ["internal/bytealg.IndexByteString"], unfollowed := true, recurses := true, apart := false }
def RowRoomSaid : Prop := rowRoomRow.holds Try.pinned (OpenSpec.ofChange rowRoomSpec)

/-- ITS FALSE NEIGHBOUR: 'it returns false'. Refute it at one input. -/
def rowRoomWrong : ChangeSpec := { name := "rowRoom", fn := fun _ => fun
  | [d1, d2, d3] => { results := [.lit (.bool false)], args := [d1, d2, d3] }
  | _ => none }
def RowRoomWrongFalsely : Prop := rowRoomRow.holds Try.pinned (OpenSpec.ofChange rowRoomWrong)

/-- 'quoinlaw12.RowPieces': WHATEVER THE INPUT: true; the input reads as it did. -/
def rowPiecesSpec : ChangeSpec := { name := "rowPieces", fn := fun _ => fun
  | [d1, d2, d3] => { results := [.lit (.bool true)], args := [d1, d2, d3] }
  | _ => none }
def rowPiecesRow : OpenClaim := { program := "ytcpahifgdppkbaa", sum := "9fb9c5ac1acba8ce7fe52b2ee69c94447bcafe37ef6a72b7dfde827e85797e8f", func := "quoin/quoinlaw12.RowPieces", spec := "rowPieces", inPlace := ["internal/bytealg.IndexByteString"], unfollowed := true, recurses := true, apart := false }
def RowPiecesSaid : Prop := rowPiecesRow.holds Try.pinned (OpenSpec.ofChange rowPiecesSpec)

/-- ITS FALSE NEIGHBOUR: 'it returns false'. Refute it at one input. -/
def rowPiecesWrong : ChangeSpec := { name := "rowPieces", fn := fun _ => fun
  | [d1, d2, d3] => { results := [.lit (.bool false)], args := [d1, d2, d3] }
  | _ => none }
def RowPiecesWrongFalsely : Prop := rowPiecesRow.holds Try.pinned (OpenSpec.ofChange rowPiecesWrong)

/-- 'quoinlaw12.RowTells': WHATEVER THE INPUT: true; the input reads as it did. -/
def rowTellsSpec : ChangeSpec := { name := "rowTells", fn := fun _ => fun
  | [d1, d2, d3, d4, d5, d6] => { results := [.lit (.bool true)], args := [d1, d2, d3, d4, d5, d6] }
  | _ => none }
def rowTellsRow : OpenClaim := { program := "ytcpahifgdppkbaa", sum := "9fb9c5ac1acba8ce7fe52b2ee69c94447bcafe37ef6a72b7dfde827e85797e8f", func := "quoin/quoinlaw12.RowTells", spec := "rowTells", inPlace := ["internal/bytealg.IndexByteString"], unfollowed := true, recurses := true, apart := false }
def RowTellsSaid : Prop := rowTellsRow.holds Try.pinned (OpenSpec.ofChange rowTellsSpec)

/-- ITS FALSE NEIGHBOUR: 'it returns false'. Refute it at one input. -/
def rowTellsWrong : ChangeSpec := { name := "rowTells", fn := fun _ => fun
  | [d1, d2, d3, d4, d5, d6] => { results := [.lit (.bool false)], args := [d1, d2, d3, d4, d5, d6] }
  | _ => none }
def RowTellsWrongFalsely : Prop := rowTellsRow.holds Try.pinned (OpenSpec.ofChange rowTellsWrong)

/-- 'quoinlaw12.RowStands': WHATEVER THE INPUT: true; the input reads as it did. -/
def rowStandsSpec : ChangeSpec := { name := "rowStands", fn := fun _ => fun
  | [d1, d2, d3, d4] => { results := [.lit (.bool true)], args := [d1, d2, d3, d4] }
  | _ => none }
def rowStandsRow : OpenClaim := { program := "ytcpahifgdppkbaa", sum := "9fb9c5ac1acba8ce7fe52b2ee69c94447bcafe37ef6a72b7dfde827e85797e8f", func := "quoin/quoinlaw12.RowStands", spec := "rowStands", inPlace := ["internal/bytealg.IndexByteString"], unfollowed := true, recurses := true, apart := false }
def RowStandsSaid : Prop := rowStandsRow.holds Try.pinned (OpenSpec.ofChange rowStandsSpec)

/-- ITS FALSE NEIGHBOUR: 'it returns false'. Refute it at one input. -/
def rowStandsWrong : ChangeSpec := { name := "rowStands", fn := fun _ => fun
  | [d1, d2, d3, d4] => { results := [.lit (.bool false)], args := [d1, d2, d3, d4] }
  | _ => none }
def RowStandsWrongFalsely : Prop := rowStandsRow.holds Try.pinned (OpenSpec.ofChange rowStandsWrong)

/-- 'quoinlaw12.RowAligns': WHATEVER THE INPUT: true; the input reads as it did. -/
def rowAlignsSpec : ChangeSpec := { name := "rowAligns", fn := fun _ => fun
  | [d1, d2, d3] => { results := [.lit (.bool true)], args := [d1, d2, d3] }
  | _ => none }
def rowAlignsRow : OpenClaim := { program := "ytcpahifgdppkbaa", sum := "9fb9c5ac1acba8ce7fe52b2ee69c94447bcafe37ef6a72b7dfde827e85797e8f", func := "quoin/quoinlaw12.RowAligns", spec := "rowAligns", inPlace := ["internal/bytealg.IndexByteString"], unfollowed := true, recurses := true, apart := false }
def RowAlignsSaid : Prop := rowAlignsRow.holds Try.pinned (OpenSpec.ofChange rowAlignsSpec)

/-- ITS FALSE NEIGHBOUR: 'it returns false'. Refute it at one input. -/
def rowAlignsWrong : ChangeSpec := { name := "rowAligns", fn := fun _ => fun
  | [d1, d2, d3] => { results := [.lit (.bool false)], args := [d1, d2, d3] }
  | _ => none }
def RowAlignsWrongFalsely : Prop := rowAlignsRow.holds Try.pinned (OpenSpec.ofChange rowAlignsWrong)

/-- 'quoinlaw25.WireLong': WHATEVER THE INPUT: true; the input reads as it did. -/
def wireLongSpec : ChangeSpec := { name := "wireLong", fn := fun _ => fun
  | [d1, d2] => { results := [.lit (.bool true)], args := [d1, d2] }
  | _ => none }
def wireLongRow : OpenClaim := { program := "ytcpahifgdppkbaa", sum := "9fb9c5ac1acba8ce7fe52b2ee69c94447bcafe37ef6a72b7dfde827e85797e8f", func := "quoin/quoinlaw25.WireLong", spec := "wireLong", apart := false }
def WireLongSaid : Prop := wireLongRow.holds Try.pinned (OpenSpec.ofChange wireLongSpec)

/-- ITS FALSE NEIGHBOUR: 'it returns false'. Refute it at one input. -/
def wireLongWrong : ChangeSpec := { name := "wireLong", fn := fun _ => fun
  | [d1, d2] => { results := [.lit (.bool false)], args := [d1, d2] }
  | _ => none }
def WireLongWrongFalsely : Prop := wireLongRow.holds Try.pinned (OpenSpec.ofChange wireLongWrong)

/-- 'quoinlaw25.WireTells': WHATEVER THE INPUT: true; the input reads as it did. -/
def wireTellsSpec : ChangeSpec := { name := "wireTells", fn := fun _ => fun
  | [d1, d2, d3, d4, d5, d6, d7] => { results := [.lit (.bool true)], args := [d1, d2, d3, d4, d5, d6, d7] }
  | _ => none }
def wireTellsRow : OpenClaim := { program := "ytcpahifgdppkbaa", sum := "9fb9c5ac1acba8ce7fe52b2ee69c94447bcafe37ef6a72b7dfde827e85797e8f", func := "quoin/quoinlaw25.WireTells", spec := "wireTells", apart := false }
def WireTellsSaid : Prop := wireTellsRow.holds Try.pinned (OpenSpec.ofChange wireTellsSpec)

/-- ITS FALSE NEIGHBOUR: 'it returns false'. Refute it at one input. -/
def wireTellsWrong : ChangeSpec := { name := "wireTells", fn := fun _ => fun
  | [d1, d2, d3, d4, d5, d6, d7] => { results := [.lit (.bool false)], args := [d1, d2, d3, d4, d5, d6, d7] }
  | _ => none }
def WireTellsWrongFalsely : Prop := wireTellsRow.holds Try.pinned (OpenSpec.ofChange wireTellsWrong)

/-- 'quoinlaw25.WireBack': WHATEVER THE INPUT: true; the input reads as it did. -/
def wireBackSpec : ChangeSpec := { name := "wireBack", fn := fun _ => fun
  | [d1, d2, d3, d4] => { results := [.lit (.bool true)], args := [d1, d2, d3, d4] }
  | _ => none }
def wireBackRow : OpenClaim := { program := "ytcpahifgdppkbaa", sum := "9fb9c5ac1acba8ce7fe52b2ee69c94447bcafe37ef6a72b7dfde827e85797e8f", func := "quoin/quoinlaw25.WireBack", spec := "wireBack", unfollowed := true, recurses := true, apart := false }
def WireBackSaid : Prop := wireBackRow.holds Try.pinned (OpenSpec.ofChange wireBackSpec)

/-- ITS FALSE NEIGHBOUR: 'it returns false'. Refute it at one input. -/
def wireBackWrong : ChangeSpec := { name := "wireBack", fn := fun _ => fun
  | [d1, d2, d3, d4] => { results := [.lit (.bool false)], args := [d1, d2, d3, d4] }
  | _ => none }
def WireBackWrongFalsely : Prop := wireBackRow.holds Try.pinned (OpenSpec.ofChange wireBackWrong)

/- THE SECOND FORM. 'bulk': how many values and letters a reading holds, each counted each time it is reached (what is shared counts as often as it is met; a slice's spare places count too). A statement '..UptoSaid' is the law's where the arguments, and the package variables that the reading takes, are together of bulk at most 1048576: NARROWER than '..Said'. Prove '..Said' where nothing that the law and all that it calls make is longer than what came in: it says more and counts as full. Else prove '..UptoSaid'. A law counts once. -/
mutual
def uptoBulk {H : Type} : DataW H → Nat
  | .lit (.string bytes) => bytes.length + 1
  | .lit _ => 1
  | .nil => 1
  | .ptr d => uptoBulk d + 1
  | .slice elems spare => uptoBulkAll elems + uptoBulkAll spare + 1
  | .agg parts => uptoBulkAll parts + 1
  | .iface _ d => uptoBulk d + 1
  | .map entries => uptoBulkEntries entries + 1
  | .held _ => 1
def uptoBulkAll {H : Type} : List (DataW H) → Nat
  | [] => 0
  | d :: r => uptoBulk d + uptoBulkAll r
def uptoBulkEntries {H : Type} : List (Lit × DataW H) → Nat
  | [] => 0
  | x :: r => uptoBulkEntry x + uptoBulkEntries r
def uptoBulkEntry {H : Type} : Lit × DataW H → Nat
  | (.string bytes, d) => bytes.length + uptoBulk d + 1
  | (_, d) => uptoBulk d + 1
 end
def uptoSmall : (H : Type) → List (DataW H) → Bool := fun _ ds => decide (uptoBulkAll ds ≤ 1048576)
def OpenSpec.upto (s : _root_.Go.ChangeSpec) : _root_.Go.OpenSpec := { _root_.Go.OpenSpec.ofChange s with cond := some uptoSmall }

/-- 'quoinlaw15.FoldBounds', WHERE WHAT IT READS IS OF BULK AT MOST 1048576: true; the input reads as it did. -/
def foldBoundsUptoRow : OpenClaim := { program := "ytcpahifgdppkbaa", sum := "9fb9c5ac1acba8ce7fe52b2ee69c94447bcafe37ef6a72b7dfde827e85797e8f", func := "quoin/quoinlaw15.FoldBounds", spec := "foldBounds", apart := false, narrowed := true }
def FoldBoundsUptoSaid : Prop := foldBoundsUptoRow.holds Try.pinned (OpenSpec.upto foldBoundsSpec)

/-- 'quoinlaw15.FoldTells', WHERE WHAT IT READS IS OF BULK AT MOST 1048576: true; the input reads as it did. -/
def foldTellsUptoRow : OpenClaim := { program := "ytcpahifgdppkbaa", sum := "9fb9c5ac1acba8ce7fe52b2ee69c94447bcafe37ef6a72b7dfde827e85797e8f", func := "quoin/quoinlaw15.FoldTells", spec := "foldTells", apart := false, narrowed := true }
def FoldTellsUptoSaid : Prop := foldTellsUptoRow.holds Try.pinned (OpenSpec.upto foldTellsSpec)

/-- 'quoinlaw9.GaugBytes', WHERE WHAT IT READS IS OF BULK AT MOST 1048576: true; the input reads as it did. -/
def gaugBytesUptoRow : OpenClaim := { program := "ytcpahifgdppkbaa", sum := "9fb9c5ac1acba8ce7fe52b2ee69c94447bcafe37ef6a72b7dfde827e85797e8f", func := "quoin/quoinlaw9.GaugBytes", spec := "gaugBytes", apart := false, narrowed := true }
def GaugBytesUptoSaid : Prop := gaugBytesUptoRow.holds Try.pinned (OpenSpec.upto gaugBytesSpec)

/-- 'quoinlaw9.GaugTells', WHERE WHAT IT READS IS OF BULK AT MOST 1048576: true; the input reads as it did. -/
def gaugTellsUptoRow : OpenClaim := { program := "ytcpahifgdppkbaa", sum := "9fb9c5ac1acba8ce7fe52b2ee69c94447bcafe37ef6a72b7dfde827e85797e8f", func := "quoin/quoinlaw9.GaugTells", spec := "gaugTells", apart := false, narrowed := true }
def GaugTellsUptoSaid : Prop := gaugTellsUptoRow.holds Try.pinned (OpenSpec.upto gaugTellsSpec)

/-- 'quoinlaw9.GaugParts', WHERE WHAT IT READS IS OF BULK AT MOST 1048576: true; the input reads as it did. -/
def gaugPartsUptoRow : OpenClaim := { program := "ytcpahifgdppkbaa", sum := "9fb9c5ac1acba8ce7fe52b2ee69c94447bcafe37ef6a72b7dfde827e85797e8f", func := "quoin/quoinlaw9.GaugParts", spec := "gaugParts", apart := false, narrowed := true }
def GaugPartsUptoSaid : Prop := gaugPartsUptoRow.holds Try.pinned (OpenSpec.upto gaugPartsSpec)

/-- 'quoinlaw2.RectEdges', WHERE WHAT IT READS IS OF BULK AT MOST 1048576: true; the input reads as it did. -/
def rectEdgesUptoRow : OpenClaim := { program := "ytcpahifgdppkbaa", sum := "9fb9c5ac1acba8ce7fe52b2ee69c94447bcafe37ef6a72b7dfde827e85797e8f", func := "quoin/quoinlaw2.RectEdges", spec := "rectEdges", apart := false, narrowed := true }
def RectEdgesUptoSaid : Prop := rectEdgesUptoRow.holds Try.pinned (OpenSpec.upto rectEdgesSpec)

/-- 'quoinlaw2.RectJoins', WHERE WHAT IT READS IS OF BULK AT MOST 1048576: true; the input reads as it did. -/
def rectJoinsUptoRow : OpenClaim := { program := "ytcpahifgdppkbaa", sum := "9fb9c5ac1acba8ce7fe52b2ee69c94447bcafe37ef6a72b7dfde827e85797e8f", func := "quoin/quoinlaw2.RectJoins", spec := "rectJoins", apart := false, narrowed := true }
def RectJoinsUptoSaid : Prop := rectJoinsUptoRow.holds Try.pinned (OpenSpec.upto rectJoinsSpec)

/-- 'quoinlaw2.RectTells', WHERE WHAT IT READS IS OF BULK AT MOST 1048576: true; the input reads as it did. -/
def rectTellsUptoRow : OpenClaim := { program := "ytcpahifgdppkbaa", sum := "9fb9c5ac1acba8ce7fe52b2ee69c94447bcafe37ef6a72b7dfde827e85797e8f", func := "quoin/quoinlaw2.RectTells", spec := "rectTells", apart := false, narrowed := true }
def RectTellsUptoSaid : Prop := rectTellsUptoRow.holds Try.pinned (OpenSpec.upto rectTellsSpec)

/-- 'quoinlaw2.RectPoints', WHERE WHAT IT READS IS OF BULK AT MOST 1048576: true; the input reads as it did. -/
def rectPointsUptoRow : OpenClaim := { program := "ytcpahifgdppkbaa", sum := "9fb9c5ac1acba8ce7fe52b2ee69c94447bcafe37ef6a72b7dfde827e85797e8f", func := "quoin/quoinlaw2.RectPoints", spec := "rectPoints", apart := false, narrowed := true }
def RectPointsUptoSaid : Prop := rectPointsUptoRow.holds Try.pinned (OpenSpec.upto rectPointsSpec)

/-- 'quoinlaw16.StakOpens', WHERE WHAT IT READS IS OF BULK AT MOST 1048576: true; the input reads as it did. -/
def stakOpensUptoRow : OpenClaim := { program := "ytcpahifgdppkbaa", sum := "9fb9c5ac1acba8ce7fe52b2ee69c94447bcafe37ef6a72b7dfde827e85797e8f", func := "quoin/quoinlaw16.StakOpens", spec := "stakOpens", unfollowed := true, recurses := true, apart := false, narrowed := true }
def StakOpensUptoSaid : Prop := stakOpensUptoRow.holds Try.pinned (OpenSpec.upto stakOpensSpec)

/-- 'quoinlaw16.StakRises', WHERE WHAT IT READS IS OF BULK AT MOST 1048576: true; the input reads as it did. -/
def stakRisesUptoRow : OpenClaim := { program := "ytcpahifgdppkbaa", sum := "9fb9c5ac1acba8ce7fe52b2ee69c94447bcafe37ef6a72b7dfde827e85797e8f", func := "quoin/quoinlaw16.StakRises", spec := "stakRises", unfollowed := true, recurses := true, apart := false, narrowed := true }
def StakRisesUptoSaid : Prop := stakRisesUptoRow.holds Try.pinned (OpenSpec.upto stakRisesSpec)

/-- 'quoinlaw16.StakTells', WHERE WHAT IT READS IS OF BULK AT MOST 1048576: true; the input reads as it did. -/
def stakTellsUptoRow : OpenClaim := { program := "ytcpahifgdppkbaa", sum := "9fb9c5ac1acba8ce7fe52b2ee69c94447bcafe37ef6a72b7dfde827e85797e8f", func := "quoin/quoinlaw16.StakTells", spec := "stakTells", unfollowed := true, recurses := true, apart := false, narrowed := true }
def StakTellsUptoSaid : Prop := stakTellsUptoRow.holds Try.pinned (OpenSpec.upto stakTellsSpec)

/-- 'quoinlaw16.StakMeets', WHERE WHAT IT READS IS OF BULK AT MOST 1048576: true; the input reads as it did. -/
def stakMeetsUptoRow : OpenClaim := { program := "ytcpahifgdppkbaa", sum := "9fb9c5ac1acba8ce7fe52b2ee69c94447bcafe37ef6a72b7dfde827e85797e8f", func := "quoin/quoinlaw16.StakMeets", spec := "stakMeets", unfollowed := true, recurses := true, apart := false, narrowed := true }
def StakMeetsUptoSaid : Prop := stakMeetsUptoRow.holds Try.pinned (OpenSpec.upto stakMeetsSpec)

/-- 'quoinlaw16.StakEmpty', WHERE WHAT IT READS IS OF BULK AT MOST 1048576: true; the input reads as it did. -/
def stakEmptyUptoRow : OpenClaim := { program := "ytcpahifgdppkbaa", sum := "9fb9c5ac1acba8ce7fe52b2ee69c94447bcafe37ef6a72b7dfde827e85797e8f", func := "quoin/quoinlaw16.StakEmpty", spec := "stakEmpty", unfollowed := true, recurses := true, apart := false, narrowed := true }
def StakEmptyUptoSaid : Prop := stakEmptyUptoRow.holds Try.pinned (OpenSpec.upto stakEmptySpec)

/-- 'quoinlaw20.CrosFills', WHERE WHAT IT READS IS OF BULK AT MOST 1048576: true; the input reads as it did. -/
def crosFillsUptoRow : OpenClaim := { program := "ytcpahifgdppkbaa", sum := "9fb9c5ac1acba8ce7fe52b2ee69c94447bcafe37ef6a72b7dfde827e85797e8f", func := "quoin/quoinlaw20.CrosFills", spec := "crosFills", apart := false, narrowed := true }
def CrosFillsUptoSaid : Prop := crosFillsUptoRow.holds Try.pinned (OpenSpec.upto crosFillsSpec)

/-- 'quoinlaw20.CrosLines', WHERE WHAT IT READS IS OF BULK AT MOST 1048576: true; the input reads as it did. -/
def crosLinesUptoRow : OpenClaim := { program := "ytcpahifgdppkbaa", sum := "9fb9c5ac1acba8ce7fe52b2ee69c94447bcafe37ef6a72b7dfde827e85797e8f", func := "quoin/quoinlaw20.CrosLines", spec := "crosLines", apart := false, narrowed := true }
def CrosLinesUptoSaid : Prop := crosLinesUptoRow.holds Try.pinned (OpenSpec.upto crosLinesSpec)

/-- 'quoinlaw20.CrosTells', WHERE WHAT IT READS IS OF BULK AT MOST 1048576: true; the input reads as it did. -/
def crosTellsUptoRow : OpenClaim := { program := "ytcpahifgdppkbaa", sum := "9fb9c5ac1acba8ce7fe52b2ee69c94447bcafe37ef6a72b7dfde827e85797e8f", func := "quoin/quoinlaw20.CrosTells", spec := "crosTells", apart := false, narrowed := true }
def CrosTellsUptoSaid : Prop := crosTellsUptoRow.holds Try.pinned (OpenSpec.upto crosTellsSpec)

/-- 'quoinlaw20.CrosWithin', WHERE WHAT IT READS IS OF BULK AT MOST 1048576: true; the input reads as it did. -/
def crosWithinUptoRow : OpenClaim := { program := "ytcpahifgdppkbaa", sum := "9fb9c5ac1acba8ce7fe52b2ee69c94447bcafe37ef6a72b7dfde827e85797e8f", func := "quoin/quoinlaw20.CrosWithin", spec := "crosWithin", apart := false, narrowed := true }
def CrosWithinUptoSaid : Prop := crosWithinUptoRow.holds Try.pinned (OpenSpec.upto crosWithinSpec)

/-- 'quoinlaw10.WhitParts', WHERE WHAT IT READS IS OF BULK AT MOST 1048576: true; the input reads as it did. -/
def whitPartsUptoRow : OpenClaim := { program := "ytcpahifgdppkbaa", sum := "9fb9c5ac1acba8ce7fe52b2ee69c94447bcafe37ef6a72b7dfde827e85797e8f", func := "quoin/quoinlaw10.WhitParts", spec := "whitParts", inPlace := ["internal/bytealg.IndexByteString"], apart := false, narrowed := true }
def WhitPartsUptoSaid : Prop := whitPartsUptoRow.holds Try.pinned (OpenSpec.upto whitPartsSpec)

/-- 'quoinlaw10.WhitHolds', WHERE WHAT IT READS IS OF BULK AT MOST 1048576: true; the input reads as it did. -/
def whitHoldsUptoRow : OpenClaim := { program := "ytcpahifgdppkbaa", sum := "9fb9c5ac1acba8ce7fe52b2ee69c94447bcafe37ef6a72b7dfde827e85797e8f", func := "quoin/quoinlaw10.WhitHolds", spec := "whitHolds", inPlace := ["internal/bytealg.IndexByteString"], apart := false, narrowed := true }
def WhitHoldsUptoSaid : Prop := whitHoldsUptoRow.holds Try.pinned (OpenSpec.upto whitHoldsSpec)

/-- 'quoinlaw10.WhitTells', WHERE WHAT IT READS IS OF BULK AT MOST 1048576: true; the input reads as it did. -/
def whitTellsUptoRow : OpenClaim := { program := "ytcpahifgdppkbaa", sum := "9fb9c5ac1acba8ce7fe52b2ee69c94447bcafe37ef6a72b7dfde827e85797e8f", func := "quoin/quoinlaw10.WhitTells", spec := "whitTells", inPlace := ["internal/bytealg.IndexByteString"], apart := false, narrowed := true }
def WhitTellsUptoSaid : Prop := whitTellsUptoRow.holds Try.pinned (OpenSpec.upto whitTellsSpec)

/-- 'quoinlaw10.WhitRows', WHERE WHAT IT READS IS OF BULK AT MOST 1048576: true; the input reads as it did. -/
def whitRowsUptoRow : OpenClaim := { program := "ytcpahifgdppkbaa", sum := "9fb9c5ac1acba8ce7fe52b2ee69c94447bcafe37ef6a72b7dfde827e85797e8f", func := "quoin/quoinlaw10.WhitRows", spec := "whitRows", inPlace := ["internal/bytealg.IndexByteString"], apart := false, narrowed := true }
def WhitRowsUptoSaid : Prop := whitRowsUptoRow.holds Try.pinned (OpenSpec.upto whitRowsSpec)

/-- 'quoinlaw10.WhitPre', WHERE WHAT IT READS IS OF BULK AT MOST 1048576: true; the input reads as it did. -/
def whitPreUptoRow : OpenClaim := { program := "ytcpahifgdppkbaa", sum := "9fb9c5ac1acba8ce7fe52b2ee69c94447bcafe37ef6a72b7dfde827e85797e8f", func := "quoin/quoinlaw10.WhitPre", spec := "whitPre", inPlace := ["internal/bytealg.IndexByteString"], apart := false, narrowed := true }
def WhitPreUptoSaid : Prop := whitPreUptoRow.holds Try.pinned (OpenSpec.upto whitPreSpec)

/-- 'quoinlaw11.BrkWords', WHERE WHAT IT READS IS OF BULK AT MOST 1048576: true; the input reads as it did. -/
def brkWordsUptoRow : OpenClaim := { program := "ytcpahifgdppkbaa", sum := "9fb9c5ac1acba8ce7fe52b2ee69c94447bcafe37ef6a72b7dfde827e85797e8f", func := "quoin/quoinlaw11.BrkWords", spec := "brkWords", unfollowed := true, recurses := true, apart := false, narrowed := true }
def BrkWordsUptoSaid : Prop := brkWordsUptoRow.holds Try.pinned (OpenSpec.upto brkWordsSpec)

/-- 'quoinlaw11.BrkWhole', WHERE WHAT IT READS IS OF BULK AT MOST 1048576: true; the input reads as it did. -/
def brkWholeUptoRow : OpenClaim := { program := "ytcpahifgdppkbaa", sum := "9fb9c5ac1acba8ce7fe52b2ee69c94447bcafe37ef6a72b7dfde827e85797e8f", func := "quoin/quoinlaw11.BrkWhole", spec := "brkWhole", unfollowed := true, recurses := true, apart := false, narrowed := true }
def BrkWholeUptoSaid : Prop := brkWholeUptoRow.holds Try.pinned (OpenSpec.upto brkWholeSpec)

/-- 'quoinlaw11.BrkTells', WHERE WHAT IT READS IS OF BULK AT MOST 1048576: true; the input reads as it did. -/
def brkTellsUptoRow : OpenClaim := { program := "ytcpahifgdppkbaa", sum := "9fb9c5ac1acba8ce7fe52b2ee69c94447bcafe37ef6a72b7dfde827e85797e8f", func := "quoin/quoinlaw11.BrkTells", spec := "brkTells", unfollowed := true, recurses := true, apart := false, narrowed := true }
def BrkTellsUptoSaid : Prop := brkTellsUptoRow.holds Try.pinned (OpenSpec.upto brkTellsSpec)

/-- 'quoinlaw11.BrkFull', WHERE WHAT IT READS IS OF BULK AT MOST 1048576: true; the input reads as it did. -/
def brkFullUptoRow : OpenClaim := { program := "ytcpahifgdppkbaa", sum := "9fb9c5ac1acba8ce7fe52b2ee69c94447bcafe37ef6a72b7dfde827e85797e8f", func := "quoin/quoinlaw11.BrkFull", spec := "brkFull", unfollowed := true, recurses := true, apart := false, narrowed := true }
def BrkFullUptoSaid : Prop := brkFullUptoRow.holds Try.pinned (OpenSpec.upto brkFullSpec)

/-- 'quoinlaw11.BrkLeast', WHERE WHAT IT READS IS OF BULK AT MOST 1048576: true; the input reads as it did. -/
def brkLeastUptoRow : OpenClaim := { program := "ytcpahifgdppkbaa", sum := "9fb9c5ac1acba8ce7fe52b2ee69c94447bcafe37ef6a72b7dfde827e85797e8f", func := "quoin/quoinlaw11.BrkLeast", spec := "brkLeast", unfollowed := true, recurses := true, apart := false, narrowed := true }
def BrkLeastUptoSaid : Prop := brkLeastUptoRow.holds Try.pinned (OpenSpec.upto brkLeastSpec)

/-- 'quoinlaw12.RowHeights', WHERE WHAT IT READS IS OF BULK AT MOST 1048576: true; the input reads as it did. -/
def rowHeightsUptoRow : OpenClaim := { program := "ytcpahifgdppkbaa", sum := "9fb9c5ac1acba8ce7fe52b2ee69c94447bcafe37ef6a72b7dfde827e85797e8f", func := "quoin/quoinlaw12.RowHeights", spec := "rowHeights", inPlace := ["internal/bytealg.IndexByteString"], unfollowed := true, recurses := true, apart := false, narrowed := true }
def RowHeightsUptoSaid : Prop := rowHeightsUptoRow.holds Try.pinned (OpenSpec.upto rowHeightsSpec)

/-- 'quoinlaw12.RowRoom', WHERE WHAT IT READS IS OF BULK AT MOST 1048576: true; the input reads as it did. -/
def rowRoomUptoRow : OpenClaim := { program := "ytcpahifgdppkbaa", sum := "9fb9c5ac1acba8ce7fe52b2ee69c94447bcafe37ef6a72b7dfde827e85797e8f", func := "quoin/quoinlaw12.RowRoom", spec := "rowRoom", inPlace := ["internal/bytealg.IndexByteString"], unfollowed := true, recurses := true, apart := false, narrowed := true }
def RowRoomUptoSaid : Prop := rowRoomUptoRow.holds Try.pinned (OpenSpec.upto rowRoomSpec)

/-- 'quoinlaw12.RowPieces', WHERE WHAT IT READS IS OF BULK AT MOST 1048576: true; the input reads as it did. -/
def rowPiecesUptoRow : OpenClaim := { program := "ytcpahifgdppkbaa", sum := "9fb9c5ac1acba8ce7fe52b2ee69c94447bcafe37ef6a72b7dfde827e85797e8f", func := "quoin/quoinlaw12.RowPieces", spec := "rowPieces", inPlace := ["internal/bytealg.IndexByteString"], unfollowed := true, recurses := true, apart := false, narrowed := true }
def RowPiecesUptoSaid : Prop := rowPiecesUptoRow.holds Try.pinned (OpenSpec.upto rowPiecesSpec)

/-- 'quoinlaw12.RowTells', WHERE WHAT IT READS IS OF BULK AT MOST 1048576: true; the input reads as it did. -/
def rowTellsUptoRow : OpenClaim := { program := "ytcpahifgdppkbaa", sum := "9fb9c5ac1acba8ce7fe52b2ee69c94447bcafe37ef6a72b7dfde827e85797e8f", func := "quoin/quoinlaw12.RowTells", spec := "rowTells", inPlace := ["internal/bytealg.IndexByteString"], unfollowed := true, recurses := true, apart := false, narrowed := true }
def RowTellsUptoSaid : Prop := rowTellsUptoRow.holds Try.pinned (OpenSpec.upto rowTellsSpec)

/-- 'quoinlaw12.RowStands', WHERE WHAT IT READS IS OF BULK AT MOST 1048576: true; the input reads as it did. -/
def rowStandsUptoRow : OpenClaim := { program := "ytcpahifgdppkbaa", sum := "9fb9c5ac1acba8ce7fe52b2ee69c94447bcafe37ef6a72b7dfde827e85797e8f", func := "quoin/quoinlaw12.RowStands", spec := "rowStands", inPlace := ["internal/bytealg.IndexByteString"], unfollowed := true, recurses := true, apart := false, narrowed := true }
def RowStandsUptoSaid : Prop := rowStandsUptoRow.holds Try.pinned (OpenSpec.upto rowStandsSpec)

/-- 'quoinlaw12.RowAligns', WHERE WHAT IT READS IS OF BULK AT MOST 1048576: true; the input reads as it did. -/
def rowAlignsUptoRow : OpenClaim := { program := "ytcpahifgdppkbaa", sum := "9fb9c5ac1acba8ce7fe52b2ee69c94447bcafe37ef6a72b7dfde827e85797e8f", func := "quoin/quoinlaw12.RowAligns", spec := "rowAligns", inPlace := ["internal/bytealg.IndexByteString"], unfollowed := true, recurses := true, apart := false, narrowed := true }
def RowAlignsUptoSaid : Prop := rowAlignsUptoRow.holds Try.pinned (OpenSpec.upto rowAlignsSpec)

/-- 'quoinlaw25.WireLong', WHERE WHAT IT READS IS OF BULK AT MOST 1048576: true; the input reads as it did. -/
def wireLongUptoRow : OpenClaim := { program := "ytcpahifgdppkbaa", sum := "9fb9c5ac1acba8ce7fe52b2ee69c94447bcafe37ef6a72b7dfde827e85797e8f", func := "quoin/quoinlaw25.WireLong", spec := "wireLong", apart := false, narrowed := true }
def WireLongUptoSaid : Prop := wireLongUptoRow.holds Try.pinned (OpenSpec.upto wireLongSpec)

/-- 'quoinlaw25.WireTells', WHERE WHAT IT READS IS OF BULK AT MOST 1048576: true; the input reads as it did. -/
def wireTellsUptoRow : OpenClaim := { program := "ytcpahifgdppkbaa", sum := "9fb9c5ac1acba8ce7fe52b2ee69c94447bcafe37ef6a72b7dfde827e85797e8f", func := "quoin/quoinlaw25.WireTells", spec := "wireTells", apart := false, narrowed := true }
def WireTellsUptoSaid : Prop := wireTellsUptoRow.holds Try.pinned (OpenSpec.upto wireTellsSpec)

/-- 'quoinlaw25.WireBack', WHERE WHAT IT READS IS OF BULK AT MOST 1048576: true; the input reads as it did. -/
def wireBackUptoRow : OpenClaim := { program := "ytcpahifgdppkbaa", sum := "9fb9c5ac1acba8ce7fe52b2ee69c94447bcafe37ef6a72b7dfde827e85797e8f", func := "quoin/quoinlaw25.WireBack", spec := "wireBack", unfollowed := true, recurses := true, apart := false, narrowed := true }
def WireBackUptoSaid : Prop := wireBackUptoRow.holds Try.pinned (OpenSpec.upto wireBackSpec)

end Rows
end Go.Proofs.Ytcpahifgdppkbaa
