/- The table of the seat's types, and its facts. -/
import Derived.Test.YtcpahifgdppkbaaA16
import Derived.Test.YtcpahifgdppkbaaChecked
import Derived.KernelRfl
open Go Go.Proofs
namespace Go.Proofs.Ytcpahifgdppkbaa.QAI
set_option maxRecDepth 100000
def tab : List TI := [
  ⟨2, .int .i64, 1, 8, [.int .i64 0], false, true, none⟩,
  ⟨3, .int .i64, 1, 8, [.int .i64 0], false, true, none⟩,
  ⟨4, .bool, 1, 1, [.bool false], false, true, none⟩,
  ⟨5, .int .u8, 1, 1, [.int .u8 0], false, true, none⟩,
  ⟨6, .int .u8, 1, 1, [.int .u8 0], false, true, none⟩,
  ⟨7, .struct #[⟨ "x", 2, 0, false, "", "runtime", 0⟩, ⟨ "y", 3, 1, false, "", "runtime", 8⟩, ⟨ "signed", 4, 2, false, "", "runtime", 16⟩, ⟨ "code", 6, 3, false, "", "runtime", 17⟩], 4, 24, [.int .i64 0, .int .i64 0, .bool false, .int .u8 0], true, true, none⟩,
  ⟨8, .struct #[⟨ "x", 2, 0, false, "", "runtime", 0⟩, ⟨ "y", 3, 1, false, "", "runtime", 8⟩, ⟨ "signed", 4, 2, false, "", "runtime", 16⟩, ⟨ "code", 6, 3, false, "", "runtime", 17⟩], 4, 24, [.int .i64 0, .int .i64 0, .bool false, .int .u8 0], true, true, none⟩,
  ⟨9, .string, 1, 16, [.string ⟨#[]⟩], false, true, none⟩,
  ⟨10, .string, 1, 16, [.string ⟨#[]⟩], false, true, none⟩,
  ⟨11, .string, 1, 16, [.string ⟨#[]⟩], false, true, none⟩,
  ⟨12, .int .u64, 1, 8, [.int .u64 0], false, true, none⟩,
  ⟨13, .struct #[⟨ "msg", 9, 0, false, "", "runtime", 0⟩, ⟨ "addr", 12, 1, false, "", "runtime", 16⟩], 2, 24, [.string ⟨#[]⟩, .int .u64 0], true, true, none⟩,
  ⟨14, .struct #[⟨ "msg", 9, 0, false, "", "runtime", 0⟩, ⟨ "addr", 12, 1, false, "", "runtime", 16⟩], 2, 24, [.string ⟨#[]⟩, .int .u64 0], true, true, none⟩,
  ⟨15, .pointer 219, 1, 8, [.pointer none], false, false, none⟩,
  ⟨16, .pointer 222, 1, 8, [.pointer none], false, false, none⟩,
  ⟨17, .pointer 230, 1, 8, [.pointer none], false, false, none⟩,
  ⟨18, .struct #[⟨ "typ", 17, 0, false, "", "internal/runtime/maps", 0⟩], 1, 8, [.pointer none], true, false, none⟩,
  ⟨19, .struct #[⟨ "typ", 17, 0, false, "", "internal/runtime/maps", 0⟩], 1, 8, [.pointer none], true, false, none⟩,
  ⟨21, .int .i32, 1, 4, [.int .i32 0], false, true, none⟩,
  ⟨22, .slice 2, 1, 24, [.slice none 0 0], false, false, none⟩,
  ⟨24, .slice 27, 1, 24, [.slice none 0 0], false, false, none⟩,
  ⟨26, .struct #[⟨ "Pos", 2, 0, false, "", "", 0⟩, ⟨ "Neg", 2, 1, false, "", "", 8⟩], 2, 16, [.int .i64 0, .int .i64 0], true, true, none⟩,
  ⟨27, .struct #[⟨ "Pos", 2, 0, false, "", "", 0⟩, ⟨ "Neg", 2, 1, false, "", "", 8⟩], 2, 16, [.int .i64 0, .int .i64 0], true, true, none⟩,
  ⟨33, .array 256 2, 256, 2048, List.replicate 256 (.int .i64 0), true, true, some (256, 1)⟩,
  ⟨34, .struct #[⟨ "Adv", 33, 0, false, "", "", 0⟩], 256, 2048, List.replicate 256 (.int .i64 0), true, true, some (256, 1)⟩,
  ⟨35, .struct #[⟨ "Adv", 33, 0, false, "", "", 0⟩], 256, 2048, List.replicate 256 (.int .i64 0), true, true, some (256, 1)⟩,
  ⟨41, .int .u64, 1, 8, [.int .u64 0], false, true, none⟩,
  ⟨43, .struct #[⟨ "X", 2, 0, false, "", "", 0⟩, ⟨ "Y", 2, 1, false, "", "", 8⟩, ⟨ "W", 2, 2, false, "", "", 16⟩, ⟨ "H", 2, 3, false, "", "", 24⟩], 4, 32, [.int .i64 0, .int .i64 0, .int .i64 0, .int .i64 0], true, true, none⟩,
  ⟨44, .struct #[⟨ "X", 2, 0, false, "", "", 0⟩, ⟨ "Y", 2, 1, false, "", "", 8⟩, ⟨ "W", 2, 2, false, "", "", 16⟩, ⟨ "H", 2, 3, false, "", "", 24⟩], 4, 32, [.int .i64 0, .int .i64 0, .int .i64 0, .int .i64 0], true, true, none⟩,
  ⟨48, .slice 44, 1, 24, [.slice none 0 0], false, false, none⟩,
  ⟨58, .slice 61, 1, 24, [.slice none 0 0], false, false, none⟩,
  ⟨60, .struct #[⟨ "H", 2, 0, false, "", "", 0⟩, ⟨ "Top", 27, 1, false, "", "", 8⟩, ⟨ "Bottom", 27, 3, false, "", "", 24⟩, ⟨ "Through", 4, 5, false, "", "", 40⟩], 6, 48, [.int .i64 0, .int .i64 0, .int .i64 0, .int .i64 0, .int .i64 0, .bool false], true, true, none⟩,
  ⟨61, .struct #[⟨ "H", 2, 0, false, "", "", 0⟩, ⟨ "Top", 27, 1, false, "", "", 8⟩, ⟨ "Bottom", 27, 3, false, "", "", 24⟩, ⟨ "Through", 4, 5, false, "", "", 40⟩], 6, 48, [.int .i64 0, .int .i64 0, .int .i64 0, .int .i64 0, .int .i64 0, .bool false], true, true, none⟩,
  ⟨62, .struct #[⟨ "Top", 27, 0, false, "", "", 0⟩, ⟨ "Bottom", 27, 2, false, "", "", 16⟩, ⟨ "Through", 4, 4, false, "", "", 32⟩, ⟨ "H", 2, 5, false, "", "", 40⟩], 6, 48, [.int .i64 0, .int .i64 0, .int .i64 0, .int .i64 0, .bool false, .int .i64 0], true, true, none⟩,
  ⟨63, .struct #[⟨ "Top", 27, 0, false, "", "", 0⟩, ⟨ "Bottom", 27, 2, false, "", "", 16⟩, ⟨ "Through", 4, 4, false, "", "", 32⟩, ⟨ "H", 2, 5, false, "", "", 40⟩], 6, 48, [.int .i64 0, .int .i64 0, .int .i64 0, .int .i64 0, .bool false, .int .i64 0], true, true, none⟩,
  ⟨79, .slice 3, 1, 24, [.slice none 0 0], false, false, none⟩,
  ⟨80, .slice 83, 1, 24, [.slice none 0 0], false, false, none⟩,
  ⟨82, .struct #[⟨ "Node", 3, 0, false, "", "", 0⟩, ⟨ "Text", 9, 1, false, "", "", 8⟩, ⟨ "White", 3, 2, false, "", "", 24⟩, ⟨ "Line", 2, 3, false, "", "", 32⟩], 4, 40, [.int .i64 0, .string ⟨#[]⟩, .int .i64 0, .int .i64 0], true, true, none⟩,
  ⟨83, .struct #[⟨ "Node", 3, 0, false, "", "", 0⟩, ⟨ "Text", 9, 1, false, "", "", 8⟩, ⟨ "White", 3, 2, false, "", "", 24⟩, ⟨ "Line", 2, 3, false, "", "", 32⟩], 4, 40, [.int .i64 0, .string ⟨#[]⟩, .int .i64 0, .int .i64 0], true, true, none⟩,
  ⟨84, .slice 87, 1, 24, [.slice none 0 0], false, false, none⟩,
  ⟨86, .struct #[⟨ "Kind", 3, 0, false, "", "", 0⟩, ⟨ "Run", 3, 1, false, "", "", 8⟩, ⟨ "At", 3, 2, false, "", "", 16⟩, ⟨ "Adv", 2, 3, false, "", "", 24⟩], 4, 32, [.int .i64 0, .int .i64 0, .int .i64 0, .int .i64 0], true, true, none⟩,
  ⟨87, .struct #[⟨ "Kind", 3, 0, false, "", "", 0⟩, ⟨ "Run", 3, 1, false, "", "", 8⟩, ⟨ "At", 3, 2, false, "", "", 16⟩, ⟨ "Adv", 2, 3, false, "", "", 24⟩], 4, 32, [.int .i64 0, .int .i64 0, .int .i64 0, .int .i64 0], true, true, none⟩,
  ⟨93, .int .u64, 1, 8, [.int .u64 0], false, true, none⟩,
  ⟨95, .slice 98, 1, 24, [.slice none 0 0], false, false, none⟩,
  ⟨97, .struct #[⟨ "From", 3, 0, false, "", "", 0⟩, ⟨ "To", 3, 1, false, "", "", 8⟩, ⟨ "W", 2, 2, false, "", "", 16⟩], 3, 24, [.int .i64 0, .int .i64 0, .int .i64 0], true, true, none⟩,
  ⟨98, .struct #[⟨ "From", 3, 0, false, "", "", 0⟩, ⟨ "To", 3, 1, false, "", "", 8⟩, ⟨ "W", 2, 2, false, "", "", 16⟩], 3, 24, [.int .i64 0, .int .i64 0, .int .i64 0], true, true, none⟩,
  ⟨102, .array 2 2, 2, 16, [.int .i64 0, .int .i64 0], true, true, some (2, 1)⟩,
  ⟨108, .slice 112, 1, 24, [.slice none 0 0], false, false, none⟩,
  ⟨111, .struct #[⟨ "Node", 3, 0, false, "", "", 0⟩, ⟨ "Rect", 44, 1, false, "", "", 8⟩, ⟨ "From", 3, 5, false, "", "", 40⟩, ⟨ "To", 3, 6, false, "", "", 48⟩, ⟨ "Line", 3, 7, false, "", "", 56⟩], 8, 64, [.int .i64 0, .int .i64 0, .int .i64 0, .int .i64 0, .int .i64 0, .int .i64 0, .int .i64 0, .int .i64 0], true, true, none⟩,
  ⟨112, .struct #[⟨ "Node", 3, 0, false, "", "", 0⟩, ⟨ "Rect", 44, 1, false, "", "", 8⟩, ⟨ "From", 3, 5, false, "", "", 40⟩, ⟨ "To", 3, 6, false, "", "", 48⟩, ⟨ "Line", 3, 7, false, "", "", 56⟩], 8, 64, [.int .i64 0, .int .i64 0, .int .i64 0, .int .i64 0, .int .i64 0, .int .i64 0, .int .i64 0, .int .i64 0], true, true, none⟩,
  ⟨118, .slice 121, 1, 24, [.slice none 0 0], false, false, none⟩,
  ⟨120, .struct #[⟨ "Kind", 3, 0, false, "", "", 0⟩, ⟨ "ID", 3, 1, false, "", "", 8⟩, ⟨ "At", 3, 2, false, "", "", 16⟩, ⟨ "Before", 3, 3, false, "", "", 24⟩, ⟨ "Text", 9, 4, false, "", "", 32⟩], 5, 48, [.int .i64 0, .int .i64 0, .int .i64 0, .int .i64 0, .string ⟨#[]⟩], true, true, none⟩,
  ⟨121, .struct #[⟨ "Kind", 3, 0, false, "", "", 0⟩, ⟨ "ID", 3, 1, false, "", "", 8⟩, ⟨ "At", 3, 2, false, "", "", 16⟩, ⟨ "Before", 3, 3, false, "", "", 24⟩, ⟨ "Text", 9, 4, false, "", "", 32⟩], 5, 48, [.int .i64 0, .int .i64 0, .int .i64 0, .int .i64 0, .string ⟨#[]⟩], true, true, none⟩,
  ⟨122, .slice 5, 1, 24, [.slice none 0 0], false, false, none⟩,
  ⟨125, .struct #[⟨ "Place", 3, 0, false, "", "", 0⟩, ⟨ "Turn", 3, 1, false, "", "", 8⟩], 2, 16, [.int .i64 0, .int .i64 0], true, true, none⟩,
  ⟨126, .struct #[⟨ "Place", 3, 0, false, "", "", 0⟩, ⟨ "Turn", 3, 1, false, "", "", 8⟩], 2, 16, [.int .i64 0, .int .i64 0], true, true, none⟩,
  ⟨127, .struct #[⟨ "Kind", 3, 0, false, "", "", 0⟩, ⟨ "Node", 3, 1, false, "", "", 8⟩, ⟨ "Snap", 126, 2, false, "", "", 16⟩, ⟨ "X", 2, 4, false, "", "", 32⟩, ⟨ "Y", 2, 5, false, "", "", 40⟩, ⟨ "Ops", 118, 6, false, "", "", 48⟩], 7, 72, [.int .i64 0, .int .i64 0, .int .i64 0, .int .i64 0, .int .i64 0, .int .i64 0, .slice none 0 0], true, false, none⟩,
  ⟨128, .struct #[⟨ "Kind", 3, 0, false, "", "", 0⟩, ⟨ "Node", 3, 1, false, "", "", 8⟩, ⟨ "Snap", 126, 2, false, "", "", 16⟩, ⟨ "X", 2, 4, false, "", "", 32⟩, ⟨ "Y", 2, 5, false, "", "", 40⟩, ⟨ "Ops", 118, 6, false, "", "", 48⟩], 7, 72, [.int .i64 0, .int .i64 0, .int .i64 0, .int .i64 0, .int .i64 0, .int .i64 0, .slice none 0 0], true, false, none⟩,
  ⟨129, .slice 128, 1, 24, [.slice none 0 0], false, false, none⟩,
  ⟨130, .struct #[⟨ "Kind", 3, 0, false, "", "", 0⟩, ⟨ "E", 3, 1, false, "", "", 8⟩, ⟨ "At", 3, 2, false, "", "", 16⟩, ⟨ "Node", 3, 3, false, "", "", 24⟩, ⟨ "Snap", 126, 4, false, "", "", 32⟩, ⟨ "Rect", 44, 6, false, "", "", 48⟩], 10, 80, List.replicate 10 (.int .i64 0), true, true, none⟩,
  ⟨131, .struct #[⟨ "Kind", 3, 0, false, "", "", 0⟩, ⟨ "E", 3, 1, false, "", "", 8⟩, ⟨ "At", 3, 2, false, "", "", 16⟩, ⟨ "Node", 3, 3, false, "", "", 24⟩, ⟨ "Snap", 126, 4, false, "", "", 32⟩, ⟨ "Rect", 44, 6, false, "", "", 48⟩], 10, 80, List.replicate 10 (.int .i64 0), true, true, none⟩,
  ⟨134, .int .i64, 1, 8, [.int .i64 0], false, true, none⟩,
  ⟨149, .pointer 35, 1, 8, [.pointer none], false, false, none⟩,
  ⟨154, .slice 9, 1, 24, [.slice none 0 0], false, false, none⟩,
  ⟨166, .pointer 168, 1, 8, [.pointer none], false, false, none⟩,
  ⟨167, .struct #[⟨ "b", 122, 0, false, "", "quoin/wire", 0⟩, ⟨ "bad", 4, 1, false, "", "quoin/wire", 24⟩], 2, 32, [.slice none 0 0, .bool false], true, false, none⟩,
  ⟨168, .struct #[⟨ "b", 122, 0, false, "", "quoin/wire", 0⟩, ⟨ "bad", 4, 1, false, "", "quoin/wire", 24⟩], 2, 32, [.slice none 0 0, .bool false], true, false, none⟩,
  ⟨174, .pointer 175, 1, 8, [.pointer none], false, false, none⟩,
  ⟨175, .struct #[⟨ "b", 122, 0, false, "", "quoin/wire", 0⟩, ⟨ "bad", 4, 1, false, "", "quoin/wire", 24⟩], 2, 32, [.slice none 0 0, .bool false], true, false, none⟩,
  ⟨178, .array 4 2, 4, 32, [.int .i64 0, .int .i64 0, .int .i64 0, .int .i64 0], true, true, some (4, 1)⟩,
  ⟨188, .pointer 112, 1, 8, [.pointer none], false, false, none⟩,
  ⟨198, .slice 207, 1, 24, [.slice none 0 0], false, false, none⟩,
  ⟨201, .int .u32, 1, 4, [.int .u32 0], false, true, none⟩,
  ⟨204, .struct #[⟨ "Kind", 3, 0, false, "", "", 0⟩, ⟨ "N", 2, 1, false, "", "", 8⟩], 2, 16, [.int .i64 0, .int .i64 0], true, true, none⟩,
  ⟨205, .struct #[⟨ "Kind", 3, 0, false, "", "", 0⟩, ⟨ "N", 2, 1, false, "", "", 8⟩], 2, 16, [.int .i64 0, .int .i64 0], true, true, none⟩,
  ⟨206, .struct #[⟨ "Prop", 3, 0, false, "", "", 0⟩, ⟨ "Word", 3, 1, false, "", "", 8⟩, ⟨ "Len", 205, 2, false, "", "", 16⟩], 4, 32, [.int .i64 0, .int .i64 0, .int .i64 0, .int .i64 0], true, true, none⟩,
  ⟨207, .struct #[⟨ "Prop", 3, 0, false, "", "", 0⟩, ⟨ "Word", 3, 1, false, "", "", 8⟩, ⟨ "Len", 205, 2, false, "", "", 16⟩], 4, 32, [.int .i64 0, .int .i64 0, .int .i64 0, .int .i64 0], true, true, none⟩,
  ⟨223, .int .u8, 1, 1, [.int .u8 0], false, true, none⟩,
  ⟨224, .int .u8, 1, 1, [.int .u8 0], false, true, none⟩,
  ⟨226, .pointer 5, 1, 8, [.pointer none], false, false, none⟩,
  ⟨227, .int .i32, 1, 4, [.int .i32 0], false, true, none⟩,
  ⟨228, .int .i32, 1, 4, [.int .i32 0], false, true, none⟩]
def eqsT : List (TypeId × List Nat) := [
  (26, [1, 1]),
  (27, [1, 1]),
  (43, [1, 1, 1, 1]),
  (44, [1, 1, 1, 1]),
  (60, [1, 1, 1, 1, 1, 2]),
  (61, [1, 1, 1, 1, 1, 2]),
  (62, [1, 1, 1, 1, 2, 1]),
  (63, [1, 1, 1, 1, 2, 1]),
  (82, [1, 3, 1, 1]),
  (83, [1, 3, 1, 1]),
  (86, [1, 1, 1, 1]),
  (87, [1, 1, 1, 1]),
  (97, [1, 1, 1]),
  (98, [1, 1, 1]),
  (111, [1, 1, 1, 1, 1, 1, 1, 1]),
  (112, [1, 1, 1, 1, 1, 1, 1, 1]),
  (120, [1, 1, 1, 1, 3]),
  (121, [1, 1, 1, 1, 3]),
  (125, [1, 1]),
  (126, [1, 1]),
  (130, [1, 1, 1, 1, 1, 1, 1, 1, 1, 1]),
  (131, [1, 1, 1, 1, 1, 1, 1, 1, 1, 1]),
  (204, [1, 1]),
  (205, [1, 1]),
  (206, [1, 1, 1, 1]),
  (207, [1, 1, 1, 1])]
noncomputable def G0 : Ctx := { P := Try.prog, T := tab, eqs := eqsT }
theorem tab_f : tab.map (tiFact Try.prog) = tab.map tiWant := by kernel_rfl
theorem tab_t : tab.all (tiTest tab) = true := by kernel_rfl
theorem tab_s : tab.all shapeT = true := by kernel_rfl
theorem tab_e : eqsT.all (fun p => !Try.prog.eqGuardType Try.prog.depth p.1 && eqKinds Try.prog tab 9 p.1 == some p.2 && ((lookT tab p.1).map TI.agg == some true)) = true := by kernel_rfl
theorem tab_mixed : Try.prog.follows .mixedOrders = true := by kernel_rfl
theorem tab_ok : GOk G0 ∧ FOk G0 := tab_facts (G := G0) tab_f tab_t (fun i hi => shapeT_ok (List.all_eq_true.1 tab_s i hi)) tab_e

/-- The table of what is known of the functions that are called. -/
abbrev Known := List (Nat × Spec)
def Known.look (K : Known) (f : Nat) : Option Spec := (K.find? fun p => p.1 == f).map Prod.snd
def nameOk (P : Program) (f : Nat) : Bool := match P.funcs[f]? with
  | some fn => !(fn.name == "runtime.NumGoroutine") && !fn.body.isNone
  | none => false
def KnownOk (K : Known) : Prop := ∀ f F, (f, F) ∈ K → SpecOk Try.prog f F ∧ nameOk Try.prog f = true
noncomputable def GK (K : Known) (keep : Nat → List (Nat × Option TypeId)) (L : Nat) : Ctx2 := { G0 with σ := K.look, keep := keep, L := L }

theorem GK_ok {K : Known} (hK : KnownOk K) (keep : Nat → List (Nat × Option TypeId)) (L : Nat) : XOk (GK K keep L) where
  g := tab_ok.1
  f := tab_ok.2
  mixed := tab_mixed
  σ := fun f F h => by
    simp only [GK, Known.look, Option.map_eq_some_iff] at h
    obtain ⟨p, hp, rfl⟩ := h
    have hm := List.mem_of_find?_eq_some hp
    have he := List.find?_some hp
    have he' : p.1 = f := by simpa using he
    subst he'
    obtain ⟨h1, h2⟩ := hK p.1 p.2 hm
    refine ⟨h1, ?_⟩
    unfold nameOk at h2
    split at h2
    · rename_i fn hfn
      simp only [Bool.and_eq_true, Bool.not_eq_true'] at h2
      exact ⟨fn, hfn, h2.1, h2.2⟩
    · cases h2

/-- A spec that is known of a function: what its code comes to, or anything that says less. -/
theorem known {K : Known} (hK : KnownOk K) (keep : Nat → List (Nat × Option TypeId)) (L d : Nat) {f : Nat} {fn : Func} (hf : Try.prog.funcs[f]? = some fn) {F : Spec}
    (h : ∀ args h r, (F args h).eval = some r → (afun (GK K keep L) d fn args h).eval = some r) : SpecOk Try.prog f F :=
  fun B args h' r H' he => afun_ok (GK_ok hK keep L) hf d B args h' r H' (h _ _ _ he)
end Go.Proofs.Ytcpahifgdppkbaa.QAI
