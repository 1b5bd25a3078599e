/- Lines: how much they need, glyphs brought near: specs; BrkTells' walk. -/
import Derived.Test.YtcpahifgdppkbaaQRowPieces8
section
set_option linter.unusedVariables false
set_option linter.unusedSimpArgs false
namespace Go.Proofs.Ytcpahifgdppkbaa.QAI
open Go Go.RowKit
set_option maxRecDepth 100000
def pSB (g : Gl) : Bool := g.k == 2 || g.k == 4
theorem rows1_loop {own : Bool} {k n : Nat} {L : Nat → Gl} (hk : k ≤ n) (hk2 : k < 2 ^ 30) (hL : WOk L) :
    CodeSem rowsG 1 (.loop (bodyOf Try.f130 0)) (rwS1 own k n L 0 0 0) (.exit 0, rwS1 own k n L (lgS pSB L k).1 (lgS pSB L k).2 k) := by
  refine loop_of (fun i => rwS1 own k n L (lgS pSB L i).1 (lgS pSB L i).2 (i : Int)) k (by simp) ?_ fun j hj => ?_
  · exact rT_sem rowsG_ok noLoopsS (rT_go rw1_e ⟨by simp, trivial⟩)
  · have h3 := succ64 (j := j) (by omega)
    obtain ⟨b1, b2, b3, b4⟩ := lgS_b (p := pSB) hL j
    have hw := hL j
    by_cases hp : pSB (L j) = true
    · have hp' : ((L j).k == 2 || (L j).k == 4) = true := hp
      refine rT_sem rowsG_ok noLoopsS ((rT_go rw1_t ?_).trans ?_)
      · simp only [Int.toNat_natCast, Nat.zero_add]
        repeat' (first | exact AllT.nil | refine AllT.cons ?_ ?_)
        all_goals first | (with_reducible rfl) | (with_reducible assumption) | exact decide_eq_true (by omega)
      · have e : lgS pSB L (j + 1) = ((lgS pSB L j).1, 0) := by rw [lgS, hp]; rfl
        rw [h3, e]
        rfl
    · have hpf : pSB (L j) = false := by simpa using hp
      have hp' : (!((L j).k == 2 || (L j).k == 4)) = true := by have h : ((L j).k == 2 || (L j).k == 4) = false := hpf; rw [h]; rfl
      have e4 : w64 ((lgS pSB L j).2 + (L j).w) = (lgS pSB L j).2 + (L j).w := w64_id (by omega) (by omega)
      refine rT_sem rowsG_ok noLoopsS ((rT_go rw1_f ?_).trans ?_)
      · simp only [Int.toNat_natCast, Nat.zero_add]
        repeat' (first | exact AllT.nil | refine AllT.cons ?_ ?_)
        all_goals first | (with_reducible rfl) | (with_reducible assumption) | exact decide_eq_true (by omega)
      · have e : lgS pSB L (j + 1) = (mxI ((lgS pSB L j).2 + (L j).w) (lgS pSB L j).1, (lgS pSB L j).2 + (L j).w) := by rw [lgS, hpf]; rfl
        simp only [Int.toNat_natCast, Nat.zero_add, h3, e, e4]
        rfl
theorem rows2_loop {own : Bool} {k n : Nat} {L : Nat → Gl} (hk : k ≤ n) (hk2 : k < 2 ^ 30) (hL : WOk L) :
    CodeSem rowsG 1 (.loop (bodyOf Try.f130 0)) (rwS2 own k n L 0 0 0) (.exit 0, rwS2 own k n L (lgS brk L k).1 (lgS brk L k).2 k) := by
  refine loop_of (fun i => rwS2 own k n L (lgS brk L i).1 (lgS brk L i).2 (i : Int)) k (by simp) ?_ fun j hj => ?_
  · exact rT_sem rowsG_ok noLoopsS (rT_go rw2_e ⟨by simp, trivial⟩)
  · have h3 := succ64 (j := j) (by omega)
    obtain ⟨b1, b2, b3, b4⟩ := lgS_b (p := brk) hL j
    have hw := hL j
    by_cases hp : brk (L j) = true
    · have hp' : ((L j).k == 4) = true := hp
      refine rT_sem rowsG_ok noLoopsS ((rT_go rw2_t ?_).trans ?_)
      · simp only [Int.toNat_natCast, Nat.zero_add]
        repeat' (first | exact AllT.nil | refine AllT.cons ?_ ?_)
        all_goals first | (with_reducible rfl) | (with_reducible assumption) | exact decide_eq_true (by omega)
      · have e : lgS brk L (j + 1) = ((lgS brk L j).1, 0) := by rw [lgS, hp]; rfl
        rw [h3, e]
        rfl
    · have hpf : brk (L j) = false := by simpa using hp
      have hp' : (!((L j).k == 4)) = true := by have h : ((L j).k == 4) = false := hpf; rw [h]; rfl
      have e4 : w64 ((lgS brk L j).2 + (L j).w) = (lgS brk L j).2 + (L j).w := w64_id (by omega) (by omega)
      refine rT_sem rowsG_ok noLoopsS ((rT_go rw2_f ?_).trans ?_)
      · simp only [Int.toNat_natCast, Nat.zero_add]
        repeat' (first | exact AllT.nil | refine AllT.cons ?_ ?_)
        all_goals first | (with_reducible rfl) | (with_reducible assumption) | exact decide_eq_true (by omega)
      · have e : lgS brk L (j + 1) = (mxI ((lgS brk L j).2 + (L j).w) (lgS brk L j).1, (lgS brk L j).2 + (L j).w) := by rw [lgS, hpf]; rfl
        simp only [Int.toNat_natCast, Nat.zero_add, h3, e, e4]
        rfl
noncomputable def rowsF : Spec := fun args h => match args, h with
  | [.c (.sl 0 0 k), .c (.v (.func (.func 131) ⟨[]⟩ ⟨[]⟩))], [some ⟨87, own, .row 4 n q⟩] =>
    .need (yes (k ≤ n ∧ k < 2 ^ 30 ∧ (q = fun j => encG (decG (q j))) ∧ WOk fun j => decG (q j))) (.ret (I64 (lgS pSB (fun j => decG (q j)) k).1, [some ⟨87, own, .row 4 n q⟩]))
  | [.c (.sl 0 0 k), .c (.v (.func (.func 132) ⟨[]⟩ ⟨[]⟩))], [some ⟨87, own, .row 4 n q⟩] =>
    .need (yes (k ≤ n ∧ k < 2 ^ 30 ∧ (q = fun j => encG (decG (q j))) ∧ WOk fun j => decG (q j))) (.ret (I64 (lgS brk (fun j => decG (q j)) k).1, [some ⟨87, own, .row 4 n q⟩]))
  | _, _ => .fail
theorem rowsF_ok : SpecOk Try.prog 130 rowsF := by
  refine knownS KB6_ok Try.func130 fun args h r he => ?_
  unfold rowsF at he
  split at he
  · rename_i k own n q
    obtain ⟨⟨h1, h2, h5, h6⟩, he⟩ := Tr.eval_ask.1 he
    cases he
    refine ⟨_, [], 60, _, tell_ok (rows1_loop (own := own) h1 h2 h6), ?_⟩
    have e1 : some ⟨87, own, .row 4 n q⟩ = rowGo own n fun j => decG (q j) := by rw [rowGo, ← h5]
    rw [e1]
    exact Tr.go_eval rw1_w ⟨yes_of ⟨rfl, rfl⟩, trivial⟩
  · rename_i k own n q
    obtain ⟨⟨h1, h2, h5, h6⟩, he⟩ := Tr.eval_ask.1 he
    cases he
    refine ⟨_, [], 60, _, tell_ok (rows2_loop (own := own) h1 h2 h6), ?_⟩
    have e1 : some ⟨87, own, .row 4 n q⟩ = rowGo own n fun j => decG (q j) := by rw [rowGo, ← h5]
    rw [e1]
    exact Tr.go_eval rw2_w ⟨yes_of ⟨rfl, rfl⟩, trivial⟩
  · cases he
theorem lon1_loop {own : Bool} {k n : Nat} {L : Nat → Gl} (hk : k ≤ n) (hk2 : k < 2 ^ 30) (hL : WOk L) :
    CodeSem lonG 1 (.loop (bodyOf Try.f133 0)) (lgSt own k n L true 0 0 0) (.exit 0, lgSt own k n L true (lgS pSB L k).1 (lgS pSB L k).2 k) := by
  refine loop_of (fun i => lgSt own k n L true (lgS pSB L i).1 (lgS pSB L i).2 (i : Int)) k (by simp) ?_ fun j hj => ?_
  · exact rT_sem lonG_ok noLoopsS (rT_go lg1_e ⟨by simp, trivial⟩)
  · have h3 := succ64 (j := j) (by omega)
    obtain ⟨b1, b2, b3, b4⟩ := lgS_b (p := pSB) hL j
    have hw := hL j
    have e5 : mxI 0 (lgS pSB L j).1 = (lgS pSB L j).1 := by rw [mxI_eq]; omega
    by_cases hb : ((L j).k == 4) = true
    · refine rT_sem lonG_ok noLoopsS ((rT_go lg1_b ?_).trans ?_)
      · simp only [Int.toNat_natCast, Nat.zero_add]
        repeat' (first | exact AllT.nil | refine AllT.cons ?_ ?_)
        all_goals first | (with_reducible rfl) | (with_reducible assumption) | exact decide_eq_true (by omega)
      · have e : lgS pSB L (j + 1) = ((lgS pSB L j).1, 0) := by
          have hp : pSB (L j) = true := by unfold pSB; rw [hb]; simp
          rw [lgS, hp]; rfl
        rw [h3, e, e5]
        rfl
    · have hbf : ((L j).k == 4) = false := by simpa using hb
      have hb' : (!((L j).k == 4)) = true := by rw [hbf]; rfl
      by_cases hs : ((L j).k == 2) = true
      · refine rT_sem lonG_ok noLoopsS ((rT_go lg1_s ?_).trans ?_)
        · simp only [Int.toNat_natCast, Nat.zero_add]
          repeat' (first | exact AllT.nil | refine AllT.cons ?_ ?_)
          all_goals first | (with_reducible rfl) | (with_reducible assumption) | exact decide_eq_true (by omega)
        · have e : lgS pSB L (j + 1) = ((lgS pSB L j).1, 0) := by
            have hp : pSB (L j) = true := by unfold pSB; rw [hs]; simp
            rw [lgS, hp]; rfl
          rw [h3, e, e5]
          rfl
      · have hsf : ((L j).k == 2) = false := by simpa using hs
        have hs' : (!((L j).k == 2)) = true := by rw [hsf]; rfl
        have e4 : w64 ((lgS pSB L j).2 + (L j).w) = (lgS pSB L j).2 + (L j).w := w64_id (by omega) (by omega)
        refine rT_sem lonG_ok noLoopsS ((rT_go lg1_n ?_).trans ?_)
        · simp only [Int.toNat_natCast, Nat.zero_add]
          repeat' (first | exact AllT.nil | refine AllT.cons ?_ ?_)
          all_goals first | (with_reducible rfl) | (with_reducible assumption) | exact decide_eq_true (by omega)
        · have e : lgS pSB L (j + 1) = (mxI ((lgS pSB L j).2 + (L j).w) (lgS pSB L j).1, (lgS pSB L j).2 + (L j).w) := by
            have hp : pSB (L j) = false := by unfold pSB; rw [hsf, hbf]; rfl
            rw [lgS, hp]; rfl
          simp only [Int.toNat_natCast, Nat.zero_add, h3, e, e4]
          rfl
theorem lon0_loop {own : Bool} {k n : Nat} {L : Nat → Gl} (hk : k ≤ n) (hk2 : k < 2 ^ 30) (hL : WOk L) :
    CodeSem lonG 1 (.loop (bodyOf Try.f133 0)) (lgSt own k n L false 0 0 0) (.exit 0, lgSt own k n L false (lgS brk L k).1 (lgS brk L k).2 k) := by
  refine loop_of (fun i => lgSt own k n L false (lgS brk L i).1 (lgS brk L i).2 (i : Int)) k (by simp) ?_ fun j hj => ?_
  · exact rT_sem lonG_ok noLoopsS (rT_go lg0_e ⟨by simp, trivial⟩)
  · have h3 := succ64 (j := j) (by omega)
    obtain ⟨b1, b2, b3, b4⟩ := lgS_b (p := brk) hL j
    have hw := hL j
    have e5 : mxI 0 (lgS brk L j).1 = (lgS brk L j).1 := by rw [mxI_eq]; omega
    by_cases hb : ((L j).k == 4) = true
    · refine rT_sem lonG_ok noLoopsS ((rT_go lg0_b ?_).trans ?_)
      · simp only [Int.toNat_natCast, Nat.zero_add]
        repeat' (first | exact AllT.nil | refine AllT.cons ?_ ?_)
        all_goals first | (with_reducible rfl) | (with_reducible assumption) | exact decide_eq_true (by omega)
      · have e : lgS brk L (j + 1) = ((lgS brk L j).1, 0) := by
          have hp : brk (L j) = true := hb
          rw [lgS, hp]; rfl
        rw [h3, e, e5]
        rfl
    · have hbf : ((L j).k == 4) = false := by simpa using hb
      have hb' : (!((L j).k == 4)) = true := by rw [hbf]; rfl
      have e4 : w64 ((lgS brk L j).2 + (L j).w) = (lgS brk L j).2 + (L j).w := w64_id (by omega) (by omega)
      refine rT_sem lonG_ok noLoopsS ((rT_go lg0_n ?_).trans ?_)
      · simp only [Int.toNat_natCast, Nat.zero_add]
        repeat' (first | exact AllT.nil | refine AllT.cons ?_ ?_)
        all_goals first | (with_reducible rfl) | (with_reducible assumption) | exact decide_eq_true (by omega)
      · have e : lgS brk L (j + 1) = (mxI ((lgS brk L j).2 + (L j).w) (lgS brk L j).1, (lgS brk L j).2 + (L j).w) := by
          have hp : brk (L j) = false := hbf
          rw [lgS, hp]; rfl
        simp only [Int.toNat_natCast, Nat.zero_add, h3, e, e4]
        rfl
noncomputable def lonF : Spec := fun args h => match args, h with
  | [.c (.sl 0 0 k), .c (.v (.bool true))], [some ⟨87, own, .row 4 n q⟩] =>
    .need (yes (k ≤ n ∧ k < 2 ^ 30 ∧ (q = fun j => encG (decG (q j))) ∧ WOk fun j => decG (q j))) (.ret (I64 (lgS pSB (fun j => decG (q j)) k).1, [some ⟨87, own, .row 4 n q⟩]))
  | [.c (.sl 0 0 k), .c (.v (.bool false))], [some ⟨87, own, .row 4 n q⟩] =>
    .need (yes (k ≤ n ∧ k < 2 ^ 30 ∧ (q = fun j => encG (decG (q j))) ∧ WOk fun j => decG (q j))) (.ret (I64 (lgS brk (fun j => decG (q j)) k).1, [some ⟨87, own, .row 4 n q⟩]))
  | _, _ => .fail
theorem lonF_ok : SpecOk Try.prog 133 lonF := by
  refine knownS nilK Try.func133 fun args h r he => ?_
  unfold lonF at he
  split at he
  · rename_i k own n q
    obtain ⟨⟨h1, h2, h5, h6⟩, he⟩ := Tr.eval_ask.1 he
    cases he
    refine ⟨_, [], 60, _, tell_ok (lon1_loop (own := own) h1 h2 h6), ?_⟩
    have e1 : some ⟨87, own, .row 4 n q⟩ = rowGo own n fun j => decG (q j) := by rw [rowGo, ← h5]
    rw [e1]
    exact Tr.go_eval lg1_w ⟨yes_of ⟨rfl, rfl⟩, trivial⟩
  · rename_i k own n q
    obtain ⟨⟨h1, h2, h5, h6⟩, he⟩ := Tr.eval_ask.1 he
    cases he
    refine ⟨_, [], 60, _, tell_ok (lon0_loop (own := own) h1 h2 h6), ?_⟩
    have e1 : some ⟨87, own, .row 4 n q⟩ = rowGo own n fun j => decG (q j) := by rw [rowGo, ← h5]
    rw [e1]
    exact Tr.go_eval lg0_w ⟨yes_of ⟨rfl, rfl⟩, trivial⟩
  · cases he
noncomputable def KB7 : Known := [(130, rowsF), (133, lonF)]
theorem KB7_ok : KnownOk KB7 := consK rowsF_ok (by kernel_rfl) (consK lonF_ok (by kernel_rfl) nilK)
noncomputable def leG : Ctx2 := GT KB7 (fun _ => []) 0 []
theorem le_w {own : Bool} {k n : Nat} {L : Nat → Gl} : (lfun leG nol 60 Try.f88 [.c (.sl 0 0 k)] [rowGo own n L]).go [] =
  some
    ([yes
          (k ≤ n ∧
            k < 2 ^ 30 ∧
              ((fun j => encG (L j)) = fun j => encG (decG (encG (L j)))) ∧ WOk fun j => decG (encG (L j)))],
      I64 (lgS pSB (fun j => decG (encG (L j))) k).fst,
      [some
          { t := 87, own := own,
            c :=
              Cont.row 4 n fun j =>
                [Value.int IntKind.i64 (L j).k, Value.int IntKind.i64 (L j).r, Value.int IntKind.i64 (L j).a,
                  Value.int IntKind.i64 (L j).w] }]) := by kernel_rfl
theorem mo_w {own : Bool} {k n : Nat} {L : Nat → Gl} : (lfun leG nol 60 Try.f89 [.c (.sl 0 0 k)] [rowGo own n L]).go [] =
  some
    ([yes
          (k ≤ n ∧
            k < 2 ^ 30 ∧
              ((fun j => encG (L j)) = fun j => encG (decG (encG (L j)))) ∧ WOk fun j => decG (encG (L j)))],
      I64 (lgS brk (fun j => decG (encG (L j))) k).fst,
      [some
          { t := 87, own := own,
            c :=
              Cont.row 4 n fun j =>
                [Value.int IntKind.i64 (L j).k, Value.int IntKind.i64 (L j).r, Value.int IntKind.i64 (L j).a,
                  Value.int IntKind.i64 (L j).w] }]) := by kernel_rfl
theorem rle_w {own : Bool} {k n : Nat} {L : Nat → Gl} : (lfun leG nol 60 Try.f94 [.c (.sl 0 0 k)] [rowGo own n L]).go [] =
  some
    ([yes
          (k ≤ n ∧
            k < 2 ^ 30 ∧
              ((fun j => encG (L j)) = fun j => encG (decG (encG (L j)))) ∧ WOk fun j => decG (encG (L j)))],
      I64 (lgS pSB (fun j => decG (encG (L j))) k).fst,
      [some
          { t := 87, own := own,
            c :=
              Cont.row 4 n fun j =>
                [Value.int IntKind.i64 (L j).k, Value.int IntKind.i64 (L j).r, Value.int IntKind.i64 (L j).a,
                  Value.int IntKind.i64 (L j).w] }]) := by kernel_rfl
theorem rmo_w {own : Bool} {k n : Nat} {L : Nat → Gl} : (lfun leG nol 60 Try.f95 [.c (.sl 0 0 k)] [rowGo own n L]).go [] =
  some
    ([yes
          (k ≤ n ∧
            k < 2 ^ 30 ∧
              ((fun j => encG (L j)) = fun j => encG (decG (encG (L j)))) ∧ WOk fun j => decG (encG (L j)))],
      I64 (lgS brk (fun j => decG (encG (L j))) k).fst,
      [some
          { t := 87, own := own,
            c :=
              Cont.row 4 n fun j =>
                [Value.int IntKind.i64 (L j).k, Value.int IntKind.i64 (L j).r, Value.int IntKind.i64 (L j).a,
                  Value.int IntKind.i64 (L j).w] }]) := by kernel_rfl
noncomputable def neF (p : Gl → Bool) : Spec := fun args h => match args, h with
  | [.c (.sl 0 0 k)], [some ⟨87, own, .row 4 n q⟩] =>
    .need (yes (k ≤ n ∧ k < 2 ^ 30 ∧ (q = fun j => encG (decG (q j))) ∧ WOk fun j => decG (q j))) (.ret (I64 (lgS p (fun j => decG (q j)) k).1, [some ⟨87, own, .row 4 n q⟩]))
  | _, _ => .fail
theorem ne_ok {f : Nat} {fn : Func} {p : Gl → Bool} (hf : Try.prog.funcs[f]? = some fn) (hw : ∀ own k n L, k ≤ n → k < 2 ^ 30 → WOk L → (lfun leG nol 60 fn [.c (.sl 0 0 k)] [rowGo own n L]).eval = some (I64 (lgS p L k).1, [rowGo own n L])) : SpecOk Try.prog f (neF p) := by
  refine knownS KB7_ok hf fun args h r he => ?_
  unfold neF at he
  split at he
  · rename_i k own n q
    obtain ⟨⟨h1, h2, h5, h6⟩, he⟩ := Tr.eval_ask.1 he
    cases he
    refine ⟨fun _ => [], [], 60, nol, noLoopsS, ?_⟩
    have e1 : some ⟨87, own, .row 4 n q⟩ = rowGo own n fun j => decG (q j) := by rw [rowGo, ← h5]
    rw [e1]
    exact hw own k n _ h1 h2 h6
  · cases he
theorem leF_ok : SpecOk Try.prog 88 (neF pSB) := ne_ok Try.func88 fun own k n L h1 h2 h3 => Tr.go_eval le_w ⟨yes_of ⟨h1, h2, rfl, h3⟩, trivial⟩
theorem moF_ok : SpecOk Try.prog 89 (neF brk) := ne_ok Try.func89 fun own k n L h1 h2 h3 => Tr.go_eval mo_w ⟨yes_of ⟨h1, h2, rfl, h3⟩, trivial⟩
theorem rleF_ok : SpecOk Try.prog 94 (neF pSB) := ne_ok Try.func94 fun own k n L h1 h2 h3 => Tr.go_eval rle_w ⟨yes_of ⟨h1, h2, rfl, h3⟩, trivial⟩
theorem rmoF_ok : SpecOk Try.prog 95 (neF brk) := ne_ok Try.func95 fun own k n L h1 h2 h3 => Tr.go_eval rmo_w ⟨yes_of ⟨h1, h2, rfl, h3⟩, trivial⟩
end Go.Proofs.Ytcpahifgdppkbaa.QAI
end
section
/- BrkTells: glyphs brought near, rows of lines; the walk. -/
set_option linter.unusedVariables false
set_option linter.unusedSimpArgs false
namespace Go.Proofs.Ytcpahifgdppkbaa.QAI
open Go Go.RowKit
set_option maxRecDepth 100000
def m200 (k : Nat) : Nat := if k ≤ 200 then k else 200
theorem m200_le (k : Nat) : m200 k ≤ 200 ∧ m200 k ≤ k := by unfold m200; split <;> omega
def tmGl (g : Gl) : Gl := ⟨w64 (and64 g.k 3 + 1), g.r, g.a, w64 ((u64 g.w).tmod 1048576)⟩
theorem tmGl_w (g : Gl) : 0 ≤ (tmGl g).w ∧ (tmGl g).w < 1048576 := by
  have e : (tmGl g).w = g.w % 1048576 := u64_mod 20 (by decide) g.w _ rfl
  rw [e]; omega
theorem tmGl_k (g : Gl) : 1 ≤ (tmGl g).k ∧ (tmGl g).k ≤ 4 := by
  have e2 : and64 g.k 3 = g.k % 4 := and_mask 2 (by decide) g.k 3 rfl
  have e : (tmGl g).k = g.k % 4 + 1 := by
    show w64 (and64 g.k 3 + 1) = _
    rw [e2, w64_id (by omega) (by omega)]
  rw [e]; omega
def tmGL (L : Nat → Gl) (m : Nat) : Nat → Gl := fun j => if j < m then tmGl (L j) else zGl
theorem tmGL_ok (L : Nat → Gl) (m : Nat) : WOk (tmGL L m) := by
  intro i
  unfold tmGL
  split
  · have := tmGl_w (L i); omega
  · simp [zGl]
theorem upd_tmGL (L : Nat → Gl) (i : Nat) : upd (fun j => encG (tmGL L i j)) i (encG (tmGl (L i))) = fun j => encG (tmGL L (i + 1) j) := by
  funext j
  simp only [upd_def]; unfold tmGL
  by_cases h : j = i
  · subst h; simp
  · by_cases h2 : j < i
    · simp [h, h2, Nat.lt_succ_of_lt h2]
    · have : ¬ j < i + 1 := by omega
      simp [h, h2, this]
theorem tgm_loop {own : Bool} {o k n : Nat} {L : Nat → Gl} (hn : o + k ≤ n) :
    CodeSem tgmG 1 (.loop (bodyOf Try.f91 0)) (tgS own o k n L 0 (fun _ => zGl) 0) (.exit 0, tgS own o k n L (m200 k) (tmGL (fun j => L (o + j)) (m200 k)) (m200 k)) := by
  obtain ⟨hm1, hm2⟩ := m200_le k
  refine loop_of (fun i => tgS own o k n L i (tmGL (fun j => L (o + j)) i) (i : Int)) (m200 k) (by simp) ?_ fun j hj => ?_
  · by_cases h : k ≤ 200
    · have e : m200 k = k := by simp [m200, h]
      rw [e]
      exact rT_sem tgmG_ok noLoopsS (rT_go tg_e1 ⟨by simp, rfl, rfl, rfl, trivial⟩)
    · have e : m200 k = 200 := by simp [m200, h]
      rw [e]
      exact rT_sem tgmG_ok noLoopsS (rT_go tg_e2 ⟨by simp; omega, rfl, rfl, by simp, trivial⟩)
  · have h3 := succ64 (j := j) (by omega)
    have hc := cells32 (n := j + 1) (by omega)
    refine rT_sem tgmG_ok noLoopsS ((rT_go tg_go ?_).trans ?_)
    · simp only [Int.toNat_natCast]
      repeat' (first | exact AllT.nil | refine AllT.cons ?_ ?_)
      all_goals first | (with_reducible rfl) | (with_reducible assumption) | exact decide_eq_true (by omega) | exact decide_eq_true trivial
    · simp only [Int.toNat_natCast, h3]
      refine Eq.trans (b := some (Ex.normal, (⟨slots 36 [(0, .c (.sl 0 o k)), (3, .c (.sl 1 0 (j + 1))), (4, I64 ((j + 1 : Nat) : Int))], [rowGo own n L, some ⟨87, true, .row 4 (j + 1) (upd (fun q => encG (tmGL (fun j => L (o + j)) j q)) j (encG (tmGl (L (o + j)))))⟩]⟩ : St))) rfl ?_
      rw [upd_tmGL (fun j => L (o + j)) j]
      rfl
noncomputable def tmGF : Spec := fun args h => match args, h with
  | [.c (.sl 0 o k)], [some ⟨87, own, .row 4 n q⟩] =>
    .need (yes (o + k ≤ n ∧ q = fun j => encG (decG (q j)))) (.ret (.c (.sl 1 0 (m200 k)), [some ⟨87, own, .row 4 n q⟩, rowGl (m200 k) (tmGL (fun j => decG (q (o + j))) (m200 k))]))
  | _, _ => .fail
theorem tmGF_ok : SpecOk Try.prog 91 tmGF := by
  refine knownS nilK Try.func91 fun args h r he => ?_
  unfold tmGF at he
  split at he
  · rename_i o k own n q
    obtain ⟨⟨h1, h2⟩, he⟩ := Tr.eval_ask.1 he
    cases he
    refine ⟨_, [], 60, _, tell_ok (tgm_loop (own := own) (L := fun j => decG (q j)) h1), ?_⟩
    have e1 : some ⟨87, own, .row 4 n q⟩ = rowGo own n fun j => decG (q j) := by rw [rowGo, ← h2]
    rw [e1]
    exact Tr.go_eval tg_w ⟨yes_of ⟨rfl, rfl⟩, trivial⟩
  · cases he
theorem sp_loop {own own' : Bool} {k n n' : Nat} {S S' : Nat → Sp} (hn : k ≤ n) (hn' : k ≤ n') (hk : k < 2 ^ 40) (h : ∀ i, i < k → S i = S' i) :
    CodeSem spnG 2 (.loop (bodyOf Try.f92 0)) (spS own own' k n n' S S' 0) (.exit 0, spS own own' k n n' S S' k) := by
  refine loop_of (fun i => spS own own' k n n' S S' (i : Int)) k (by simp) ?_ fun j hj => ?_
  · exact rT_sem spnG_ok noLoopsS (rT_go sp_ex ⟨by simp, trivial⟩)
  · have h3 := succ64 (j := j) (by omega)
    refine rT_sem spnG_ok noLoopsS ((rT_go sp_go ?_).trans ?_)
    · simp only [Int.toNat_natCast, Nat.zero_add, h j hj]
      repeat' (first | exact AllT.nil | refine AllT.cons ?_ ?_)
      all_goals first | (with_reducible rfl) | exact decide_eq_true (by omega) | simp
    · rw [h3]
      rfl
noncomputable def sameSp : Spec := fun args h => match args, h with
  | [.c (.sl 0 0 k), .c (.sl 1 0 k')], [some ⟨98, own, .row 3 n q⟩, some ⟨98, own', .row 3 n' q'⟩] =>
    .need (yes (k' = k ∧ k ≤ n ∧ k ≤ n' ∧ k < 2 ^ 40 ∧ (q = fun j => encP (decP (q j))) ∧ (q' = fun j => encP (decP (q' j))) ∧ ∀ i, i < k → decP (q i) = decP (q' i)))
      (.ret (Bo true, [some ⟨98, own, .row 3 n q⟩, some ⟨98, own', .row 3 n' q'⟩]))
  | _, _ => .fail
theorem sameSp_ok : SpecOk Try.prog 92 sameSp := by
  refine knownS nilK Try.func92 fun args h r he => ?_
  unfold sameSp at he
  split at he
  · rename_i k k' own n q own' n' q'
    obtain ⟨⟨h0, h1, h2, h3, h4, h5, h6⟩, he2⟩ := Tr.eval_ask.1 he
    clear he
    cases he2
    subst h0
    refine ⟨_, [], 60, _, tell_ok (sp_loop (own := own) (own' := own') (S := fun j => decP (q j)) (S' := fun j => decP (q' j)) h1 h2 h3 h6), ?_⟩
    have e1 : some ⟨98, own, .row 3 n q⟩ = rowSo own n fun j => decP (q j) := by rw [rowSo, ← h4]
    have e2 : some ⟨98, own', .row 3 n' q'⟩ = rowSo own' n' fun j => decP (q' j) := by rw [rowSo, ← h5]
    rw [e1, e2]
    refine Tr.go_eval sp_w ?_
    repeat' (first | exact AllT.nil | refine AllT.cons ?_ ?_)
    all_goals first | exact yes_of ⟨rfl, rfl⟩ | rfl | (simp; done)
  · cases he
noncomputable def KBT : Known := [(46, tmF2), (81, rnF), (86, glF), (87, linesF), (88, neF pSB), (89, neF brk), (90, sAwakeT), (91, tmGF), (92, sameSp), (93, linesF), (94, neF pSB), (95, neF brk)]
theorem KBT_ok : KnownOk KBT := consK tmF2_ok (by kernel_rfl) (consK rnF_ok (by kernel_rfl) (consK rgF_ok (by kernel_rfl) (consK linesF_ok (by kernel_rfl) (consK leF_ok (by kernel_rfl) (consK moF_ok (by kernel_rfl) (consK awake11_ok (by kernel_rfl) (consK tmGF_ok (by kernel_rfl) (consK sameSp_ok (by kernel_rfl) (consK rlinesF_ok (by kernel_rfl) (consK rleF_ok (by kernel_rfl) (consK rmoF_ok (by kernel_rfl) nilK)))))))))))
abbrev btK : List (Nat × Option TypeId) := [(2,none),(3,none),(5,none),(9,none),(10,none)]
noncomputable def btG : Ctx2 := GT KBT (fun k => if k = 4 then btK else []) 0 []
theorem btG_ok : XOk btG := GT_ok KBT_ok _ _ _
def btS (k : Nat) (R : Nat → Gl) (K : Nat) (g : Nat → Int) (a : Nat → Int) (A : Int) (na : Nat) (L : Nat → Gl) (i : Int) : St :=
  ⟨slots 49 [(2, .c (.sl 1 0 K)), (3, I64 A), (5, .c (.ptr 2 0 0)), (9, .c (.sl 3 0 na)), (10, I64 i)], [rowGo false k R, rowJ false K g, rowA a, rowGl na L]⟩
theorem bt_go {k : Nat} {R : Nat → Gl} {K : Nat} {g a : Nat → Int} {A : Int} {na : Nat} {L : Nat → Gl} {i : Int} : (rT btG nol 2 53 (bodyOf Try.f28 0) btK btK (btS k R K g a A na L i)).go [true, true, true, true, false, false, true, false, false, true, false, false, false, false, true, false, false, true, false, false, false] =
  some
    ([decide (i < (2 : Int)),
        yes
          (na ≤ na ∧
            na < 2 ^ 30 ∧
              ((fun j => encG (L j)) = fun j => encG (decG (encG (L j)))) ∧ WOk fun j => decG (encG (L j))),
        yes
          (na ≤ na ∧
            na < 2 ^ 30 ∧
              ((fun j => encG (L j)) = fun j => encG (decG (encG (L j)))) ∧ WOk fun j => decG (encG (L j))),
        yes
          (lnC na (fun j => decG (encG (L j))) A = lnC na (fun j => decG (encG (L j))) A ∧
            lnC na (fun j => decG (encG (L j))) A ≤ lnC na (fun j => decG (encG (L j))) A ∧
              lnC na (fun j => decG (encG (L j))) A ≤ lnC na (fun j => decG (encG (L j))) A ∧
                lnC na (fun j => decG (encG (L j))) A < 2 ^ 40 ∧
                  ((fun j => encP (spAt (lns na (fun j => decG (encG (L j))) A) j)) = fun j =>
                      encP (decP (encP (spAt (lns na (fun j => decG (encG (L j))) A) j)))) ∧
                    ((fun j => encP (spAt (lns na (fun j => decG (encG (L j))) A) j)) = fun j =>
                        encP (decP (encP (spAt (lns na (fun j => decG (encG (L j))) A) j)))) ∧
                      ∀ (i : Nat),
                        i < lnC na (fun j => decG (encG (L j))) A →
                          decP (encP (spAt (lns na (fun j => decG (encG (L j))) A) i)) =
                            decP (encP (spAt (lns na (fun j => decG (encG (L j))) A) i))),
        true, true,
        yes
          (na ≤ na ∧
            na < 2 ^ 30 ∧
              ((fun j => encG (L j)) = fun j => encG (decG (encG (L j)))) ∧ WOk fun j => decG (encG (L j))),
        true, true,
        yes
          (na ≤ na ∧
            na < 2 ^ 30 ∧
              ((fun j => encG (L j)) = fun j => encG (decG (encG (L j)))) ∧ WOk fun j => decG (encG (L j))),
        true, true, !(lgS pSB (fun j => decG (encG (L j))) na).fst != (lgS pSB (fun j => decG (encG (L j))) na).fst,
        true,
        yes
          (na ≤ na ∧
            na < 2 ^ 30 ∧
              ((fun j => encG (L j)) = fun j => encG (decG (encG (L j)))) ∧ WOk fun j => decG (encG (L j))),
        true, true,
        yes
          (na ≤ na ∧
            na < 2 ^ 30 ∧
              ((fun j => encG (L j)) = fun j => encG (decG (encG (L j)))) ∧ WOk fun j => decG (encG (L j))),
        true, true, !(lgS brk (fun j => decG (encG (L j))) na).fst != (lgS brk (fun j => decG (encG (L j))) na).fst,
        true, yes ((fun k => (v1 (a k)).headD undef) = fun k => Value.int IntKind.i64 (dv ((v1 (a k)).headD undef))),
        yes (0 + K ≤ K ∧ (fun j => v1 (g j)) = fun j => v1 (vd (v1 (g j)))),
        yes
          (0 + m12 K ≤ m12 K ∧
            m12 K < 2 ^ 40 ∧
              lenR (fun i => decN (encN (runsL (fun j => vd (v1 (g (0 + j)))) (m12 K) (0 + i))))
                    (m12 K) <
                  2 ^ 39 ∧
                ((fun k => Value.int IntKind.i64 (tz (fun k => dv ((v1 (a k)).headD undef)) k)) = fun k =>
                    Value.int IntKind.i64 (tz (fun k => dv ((v1 (a k)).headD undef)) k)) ∧
                  (fun j => encN (runsL (fun j => vd (v1 (g (0 + j)))) (m12 K) j)) = fun j =>
                    encN (decN (encN (runsL (fun j => vd (v1 (g (0 + j)))) (m12 K) j))))],
      Ex.normal,
      {
        sl :=
          slots 49
            [(2, AV.c (AC.sl 1 0 K)), (3, I64 (and64 A (4095 : Int))),
              (5, AV.c (AC.ptr 2 0 0)),
              (9,
                AV.c
                  (AC.sl 3 0
                    (glyphs (Mt fun k => tz (fun k => dv ((v1 (a k)).headD undef)) k)
                        (fun i => decN (encN (runsL (fun j => vd (v1 (g (0 + j)))) (m12 K) (0 + i))))
                        (m12 K)).length)),
              (10, I64 (w64 (i + (1 : Int))))],
        h :=
          [some
              { t := 87, own := false,
                c :=
                  Cont.row 4 k fun j =>
                    [Value.int IntKind.i64 (R j).k, Value.int IntKind.i64 (R j).r, Value.int IntKind.i64 (R j).a,
                      Value.int IntKind.i64 (R j).w] },
            some { t := 2, own := false, c := Cont.row 1 K fun j => [Value.int IntKind.i64 (g j)] },
            some
              { t := 35, own := true,
                c := Cont.row 1 256 fun k => [Value.int IntKind.i64 (a k)] },
            some
              { t := 87, own := true,
                c :=
                  Cont.row 4
                    (glyphs (Mt fun k => tz (fun k => dv ((v1 (a k)).headD undef)) k)
                        (fun i => decN (encN (runsL (fun j => vd (v1 (g (0 + j)))) (m12 K) (0 + i))))
                        (m12 K)).length
                    fun j =>
                    [Value.int IntKind.i64
                        (at_
                            (glyphs (Mt fun k => tz (fun k => dv ((v1 (a k)).headD undef)) k)
                              (fun i =>
                                decN (encN (runsL (fun j => vd (v1 (g (0 + j)))) (m12 K) (0 + i))))
                              (m12 K))
                            j).k,
                      Value.int IntKind.i64
                        (at_
                            (glyphs (Mt fun k => tz (fun k => dv ((v1 (a k)).headD undef)) k)
                              (fun i =>
                                decN (encN (runsL (fun j => vd (v1 (g (0 + j)))) (m12 K) (0 + i))))
                              (m12 K))
                            j).r,
                      Value.int IntKind.i64
                        (at_
                            (glyphs (Mt fun k => tz (fun k => dv ((v1 (a k)).headD undef)) k)
                              (fun i =>
                                decN (encN (runsL (fun j => vd (v1 (g (0 + j)))) (m12 K) (0 + i))))
                              (m12 K))
                            j).a,
                      Value.int IntKind.i64
                        (at_
                            (glyphs (Mt fun k => tz (fun k => dv ((v1 (a k)).headD undef)) k)
                              (fun i =>
                                decN (encN (runsL (fun j => vd (v1 (g (0 + j)))) (m12 K) (0 + i))))
                              (m12 K))
                            j).w] }] }) := by kernel_rfl
end Go.Proofs.Ytcpahifgdppkbaa.QAI
end
section
/- WhitHolds: the walk. -/
set_option linter.unusedVariables false
set_option linter.unusedSimpArgs false
namespace Go.Proofs.Ytcpahifgdppkbaa.QAI
open Go Go.RowKit
set_option maxRecDepth 100000
abbrev haK : List (Nat × Option TypeId) := [(2,none),(5,none),(6,none)]
abbrev hbK : List (Nat × Option TypeId) := [(2,none),(5,none),(7,none),(8,none)]
abbrev hcK : List (Nat × Option TypeId) := [(7,none),(9,none),(10,none)]
noncomputable def hoG : Ctx2 := GT KWT (fun k => if k = 4 then haK else if k = 9 then hbK else if k = 16 then hcK else []) 0 []
theorem hoG_ok : XOk hoG := GT_ok KWT_ok _ _ _
def haS (K : Nat) (g : Nat → Int) (a : Nat → Int) (m : Nat) (Q : Nat → Rn) (i : Int) : St := ⟨slots 68 [(2, .c (.ptr 1 0 0)), (5, .c (.sl 2 0 m)), (6, I64 i)], [rowJ false K g, rowA a, rowRn true m Q]⟩
def hbS (K : Nat) (g : Nat → Int) (a : Nat → Int) (m : Nat) (Q : Nat → Rn) (na : Nat) (L : Nat → Gl) (i : Int) : St := ⟨slots 68 [(2, .c (.ptr 1 0 0)), (5, .c (.sl 2 0 m)), (7, .c (.sl 3 0 na)), (8, I64 i)], [rowJ false K g, rowA a, rowRn true m Q, rowGl na L]⟩
def hcS (K : Nat) (g : Nat → Int) (na : Nat) (L : Nat → Gl) (nb : Nat) (L' : Nat → Gl) (i : Int) : St := ⟨slots 68 [(7, .c (.sl 1 0 na)), (9, .c (.sl 2 0 nb)), (10, I64 i)], [rowJ false K g, rowGl na L, rowGl nb L']⟩
theorem ha_go {K : Nat} {g : Nat → Int} {a : Nat → Int} {m : Nat} {Q : Nat → Rn} {i : Int} : (rT hoG nol 1 53 (bodyOf Try.f22 0) haK haK (haS K g a m Q i)).go [] =
  some
    ([decide (i < ((m : Nat) : Int)), decide ((0 : Int) ≤ i), decide (i < ((m : Nat) : Int)), decide (0 + i.toNat < m)], Ex.normal,
      {
        sl :=
          slots 68
            [(2, AV.c (AC.ptr 1 0 0)), (5, AV.c (AC.sl 2 0 m)),
              (6, I64 (w64 (i + (1 : Int))))],
        h :=
          [some { t := 2, own := false, c := Cont.row 1 K fun j => [Value.int IntKind.i64 (g j)] },
            some
              { t := 35, own := true,
                c := Cont.row 1 256 fun k => [Value.int IntKind.i64 (a k)] },
            some
              { t := 83, own := true,
                c :=
                  Cont.row 4 m fun k =>
                    [Value.int IntKind.i64
                        (bif decide (k = 0 + i.toNat) then (Q (0 + i.toNat)).n else (Q k).n),
                      Value.string (bif decide (k = 0 + i.toNat) then (Q (0 + i.toNat)).s else (Q k).s),
                      Value.int IntKind.i64 (bif decide (k = 0 + i.toNat) then (0 : Int) else (Q k).v),
                      Value.int IntKind.i64
                        (bif decide (k = 0 + i.toNat) then (Q (0 + i.toNat)).l else (Q k).l)] }] }) := by kernel_rfl
theorem ha_ex {K : Nat} {g : Nat → Int} {a : Nat → Int} {m : Nat} {Q : Nat → Rn} {i : Int} : (rT hoG nol 1 53 (bodyOf Try.f22 0) haK haK (haS K g a m Q i)).go [false] =
  some
    ([!decide (i < ((m : Nat) : Int))], Ex.exit 0,
      {
        sl :=
          slots 68
            [(2, AV.c (AC.ptr 1 0 0)), (5, AV.c (AC.sl 2 0 m)),
              (6, I64 i)],
        h :=
          [some { t := 2, own := false, c := Cont.row 1 K fun j => [Value.int IntKind.i64 (g j)] },
            some
              { t := 35, own := true,
                c := Cont.row 1 256 fun k => [Value.int IntKind.i64 (a k)] },
            some
              { t := 83, own := true,
                c :=
                  Cont.row 4 m fun j =>
                    [Value.int IntKind.i64 (Q j).n, Value.string (Q j).s, Value.int IntKind.i64 (Q j).v,
                      Value.int IntKind.i64 (Q j).l] }] }) := by kernel_rfl
theorem hb_go {K : Nat} {g : Nat → Int} {a : Nat → Int} {m : Nat} {Q : Nat → Rn} {na : Nat} {L : Nat → Gl} {i : Int} : (rT hoG nol 1 51 (bodyOf Try.f22 1) hbK hbK (hbS K g a m Q na L i)).go [] =
  some
    ([decide (i < ((m : Nat) : Int)), decide ((0 : Int) ≤ i), decide (i < ((m : Nat) : Int)), decide (0 + i.toNat < m)], Ex.normal,
      {
        sl :=
          slots 68
            [(2, AV.c (AC.ptr 1 0 0)), (5, AV.c (AC.sl 2 0 m)),
              (7, AV.c (AC.sl 3 0 na)), (8, I64 (w64 (i + (1 : Int))))],
        h :=
          [some { t := 2, own := false, c := Cont.row 1 K fun j => [Value.int IntKind.i64 (g j)] },
            some
              { t := 35, own := true,
                c := Cont.row 1 256 fun k => [Value.int IntKind.i64 (a k)] },
            some
              { t := 83, own := true,
                c :=
                  Cont.row 4 m fun k =>
                    [Value.int IntKind.i64
                        (bif decide (k = 0 + i.toNat) then (Q (0 + i.toNat)).n else (Q k).n),
                      Value.string (bif decide (k = 0 + i.toNat) then (Q (0 + i.toNat)).s else (Q k).s),
                      Value.int IntKind.i64 (bif decide (k = 0 + i.toNat) then (1 : Int) else (Q k).v),
                      Value.int IntKind.i64
                        (bif decide (k = 0 + i.toNat) then (Q (0 + i.toNat)).l else (Q k).l)] },
            some
              { t := 87, own := true,
                c :=
                  Cont.row 4 na fun j =>
                    [Value.int IntKind.i64 (L j).k, Value.int IntKind.i64 (L j).r, Value.int IntKind.i64 (L j).a,
                      Value.int IntKind.i64 (L j).w] }] }) := by kernel_rfl
theorem hb_ex {K : Nat} {g : Nat → Int} {a : Nat → Int} {m : Nat} {Q : Nat → Rn} {na : Nat} {L : Nat → Gl} {i : Int} : (rT hoG nol 1 51 (bodyOf Try.f22 1) hbK hbK (hbS K g a m Q na L i)).go [false] =
  some
    ([!decide (i < ((m : Nat) : Int))], Ex.exit 2,
      {
        sl :=
          slots 68
            [(2, AV.c (AC.ptr 1 0 0)), (5, AV.c (AC.sl 2 0 m)),
              (7, AV.c (AC.sl 3 0 na)), (8, I64 i)],
        h :=
          [some { t := 2, own := false, c := Cont.row 1 K fun j => [Value.int IntKind.i64 (g j)] },
            some
              { t := 35, own := true,
                c := Cont.row 1 256 fun k => [Value.int IntKind.i64 (a k)] },
            some
              { t := 83, own := true,
                c :=
                  Cont.row 4 m fun j =>
                    [Value.int IntKind.i64 (Q j).n, Value.string (Q j).s, Value.int IntKind.i64 (Q j).v,
                      Value.int IntKind.i64 (Q j).l] },
            some
              { t := 87, own := true,
                c :=
                  Cont.row 4 na fun j =>
                    [Value.int IntKind.i64 (L j).k, Value.int IntKind.i64 (L j).r, Value.int IntKind.i64 (L j).a,
                      Value.int IntKind.i64 (L j).w] }] }) := by kernel_rfl
theorem hc_t {K : Nat} {g : Nat → Int} {na : Nat} {L : Nat → Gl} {nb : Nat} {L' : Nat → Gl} {i : Int} : (rT hoG nol 1 48 (bodyOf Try.f22 2) hcK hcK (hcS K g na L nb L' i)).go [true, true, true, true, true, true, true, true, false] =
  some
    ([decide (i < ((na : Nat) : Int)), decide ((0 : Int) ≤ i), decide (i < ((na : Nat) : Int)), decide (0 + i.toNat < na),
        (L (0 + i.toNat)).k == (2 : Int), decide ((0 : Int) ≤ i), decide (i < ((nb : Nat) : Int)),
        decide (0 + i.toNat < nb),
        !!((L' (0 + i.toNat)).k == (3 : Int) &&
              ((L' (0 + i.toNat)).r == (L (0 + i.toNat)).r &&
                ((L' (0 + i.toNat)).a == (L (0 + i.toNat)).a &&
                  ((L' (0 + i.toNat)).w == (L (0 + i.toNat)).w && true))))],
      Ex.normal,
      {
        sl :=
          slots 68
            [(7, AV.c (AC.sl 1 0 na)), (9, AV.c (AC.sl 2 0 nb)),
              (10, I64 (w64 (i + (1 : Int))))],
        h :=
          [some { t := 2, own := false, c := Cont.row 1 K fun j => [Value.int IntKind.i64 (g j)] },
            some
              { t := 87, own := true,
                c :=
                  Cont.row 4 na fun j =>
                    [Value.int IntKind.i64 (L j).k, Value.int IntKind.i64 (L j).r, Value.int IntKind.i64 (L j).a,
                      Value.int IntKind.i64 (L j).w] },
            some
              { t := 87, own := true,
                c :=
                  Cont.row 4 nb fun j =>
                    [Value.int IntKind.i64 (L' j).k, Value.int IntKind.i64 (L' j).r, Value.int IntKind.i64 (L' j).a,
                      Value.int IntKind.i64 (L' j).w] }] }) := by kernel_rfl
theorem hc_f {K : Nat} {g : Nat → Int} {na : Nat} {L : Nat → Gl} {nb : Nat} {L' : Nat → Gl} {i : Int} : (rT hoG nol 1 48 (bodyOf Try.f22 2) hcK hcK (hcS K g na L nb L' i)).go [true, true, true, true, false, true, true, true, false] =
  some
    ([decide (i < ((na : Nat) : Int)), decide ((0 : Int) ≤ i), decide (i < ((na : Nat) : Int)), decide (0 + i.toNat < na),
        !(L (0 + i.toNat)).k == (2 : Int), decide ((0 : Int) ≤ i), decide (i < ((nb : Nat) : Int)),
        decide (0 + i.toNat < nb),
        !!((L' (0 + i.toNat)).k == (L (0 + i.toNat)).k &&
              ((L' (0 + i.toNat)).r == (L (0 + i.toNat)).r &&
                ((L' (0 + i.toNat)).a == (L (0 + i.toNat)).a &&
                  ((L' (0 + i.toNat)).w == (L (0 + i.toNat)).w && true))))],
      Ex.normal,
      {
        sl :=
          slots 68
            [(7, AV.c (AC.sl 1 0 na)), (9, AV.c (AC.sl 2 0 nb)),
              (10, I64 (w64 (i + (1 : Int))))],
        h :=
          [some { t := 2, own := false, c := Cont.row 1 K fun j => [Value.int IntKind.i64 (g j)] },
            some
              { t := 87, own := true,
                c :=
                  Cont.row 4 na fun j =>
                    [Value.int IntKind.i64 (L j).k, Value.int IntKind.i64 (L j).r, Value.int IntKind.i64 (L j).a,
                      Value.int IntKind.i64 (L j).w] },
            some
              { t := 87, own := true,
                c :=
                  Cont.row 4 nb fun j =>
                    [Value.int IntKind.i64 (L' j).k, Value.int IntKind.i64 (L' j).r, Value.int IntKind.i64 (L' j).a,
                      Value.int IntKind.i64 (L' j).w] }] }) := by kernel_rfl
theorem hc_ex {K : Nat} {g : Nat → Int} {na : Nat} {L : Nat → Gl} {nb : Nat} {L' : Nat → Gl} {i : Int} : (rT hoG nol 1 48 (bodyOf Try.f22 2) hcK hcK (hcS K g na L nb L' i)).go [false] =
  some
    ([!decide (i < ((na : Nat) : Int))], Ex.exit 4,
      {
        sl :=
          slots 68
            [(7, AV.c (AC.sl 1 0 na)), (9, AV.c (AC.sl 2 0 nb)),
              (10, I64 i)],
        h :=
          [some { t := 2, own := false, c := Cont.row 1 K fun j => [Value.int IntKind.i64 (g j)] },
            some
              { t := 87, own := true,
                c :=
                  Cont.row 4 na fun j =>
                    [Value.int IntKind.i64 (L j).k, Value.int IntKind.i64 (L j).r, Value.int IntKind.i64 (L j).a,
                      Value.int IntKind.i64 (L j).w] },
            some
              { t := 87, own := true,
                c :=
                  Cont.row 4 nb fun j =>
                    [Value.int IntKind.i64 (L' j).k, Value.int IntKind.i64 (L' j).r, Value.int IntKind.i64 (L' j).a,
                      Value.int IntKind.i64 (L' j).w] }] }) := by kernel_rfl
def setN (Q : Nat → Rn) (z : Int) (i : Nat) : Nat → Rn := fun j => if j < i then ⟨(Q j).n, (Q j).s, z, (Q j).l⟩ else Q j
def hoA (a : Nat → Int) (m : Nat) (Q : Nat → Rn) : List Gl := glyphs (Mt fun k => dv ((v1 (tz a k)).headD undef)) (fun i => decN (encN (setN Q 0 m (0 + i)))) m
def hoB (a : Nat → Int) (m : Nat) (Q : Nat → Rn) : List Gl := glyphs (Mt fun k => dv ((v1 (tz a k)).headD undef)) (fun i => decN (encN (setN (setN Q 0 m) 1 m (0 + i)))) m
noncomputable def hoL (K : Nat) (g : Nat → Int) (a : Nat → Int) (m : Nat) (Q : Nat → Rn) : Loops :=
  byReg 4 (tell (bodyOf Try.f22 0) (haS K g (tz a) m Q 0) (.exit 0, haS K g (tz a) m (setN Q 0 m) m))
    (byReg 9 (tell (bodyOf Try.f22 1) (hbS K g (tz a) m (setN Q 0 m) (hoA a m Q).length (at_ (hoA a m Q)) 0) (.exit 2, hbS K g (tz a) m (setN (setN Q 0 m) 1 m) (hoA a m Q).length (at_ (hoA a m Q)) m))
      (tell (bodyOf Try.f22 2) (hcS K g (hoA a m Q).length (at_ (hoA a m Q)) (hoB a m Q).length (at_ (hoB a m Q)) 0) (.exit 4, hcS K g (hoA a m Q).length (at_ (hoA a m Q)) (hoB a m Q).length (at_ (hoB a m Q)) (hoA a m Q).length)))
theorem ho_w {K : Nat} {g : Nat → Int} {a : Nat → Int} : (lfun hoG (hoL K g a (m12 K) (runsL (fun j => g (0 + j)) (m12 K))) 60 Try.f22 [aA a, .c (.sl 0 0 K)] [rowJ false K g]).go [true, true, true, true, true, true, true, true, true, false] =
  some
    ([true, yes ((fun k => Value.int IntKind.i64 (a k)) = fun k => Value.int IntKind.i64 (a k)),
        yes (0 + K ≤ K ∧ (fun j => v1 (g j)) = fun j => v1 (vd (v1 (g j)))), yes (wasS (bodyOf Try.f22 0) (haS K g (tz a) (m12 K) (runsL (fun j => g (0 + j)) (m12 K)) 0)), true,
        yes
          (0 + m12 K ≤ m12 K ∧
            m12 K < 2 ^ 40 ∧
              lenR
                    (fun i =>
                      decN (encN (setN (runsL (fun j => g (0 + j)) (m12 K)) (0 : Int) (m12 K) (0 + i))))
                    (m12 K) <
                  2 ^ 39 ∧
                ((fun k => (v1 (tz a k)).headD undef) = fun k =>
                    Value.int IntKind.i64 (dv ((v1 (tz a k)).headD undef))) ∧
                  (fun j => encN (setN (runsL (fun j => g (0 + j)) (m12 K)) (0 : Int) (m12 K) j)) = fun j =>
                    encN (decN (encN (setN (runsL (fun j => g (0 + j)) (m12 K)) (0 : Int) (m12 K) j)))),
        yes (wasS (bodyOf Try.f22 1) (hbS K g (tz a) (m12 K) (setN (runsL (fun j => g (0 + j)) (m12 K)) 0 (m12 K)) (hoA a (m12 K) (runsL (fun j => g (0 + j)) (m12 K))).length (at_ (hoA a (m12 K) (runsL (fun j => g (0 + j)) (m12 K)))) 0)), true,
        yes
          (0 + m12 K ≤ m12 K ∧
            m12 K < 2 ^ 40 ∧
              lenR
                    (fun i =>
                      decN
                        (encN
                          (setN (setN (runsL (fun j => g (0 + j)) (m12 K)) (0 : Int) (m12 K)) (1 : Int) (m12 K)
                            (0 + i))))
                    (m12 K) <
                  2 ^ 39 ∧
                ((fun k => (v1 (tz a k)).headD undef) = fun k =>
                    Value.int IntKind.i64 (dv ((v1 (tz a k)).headD undef))) ∧
                  (fun j =>
                      encN
                        (setN (setN (runsL (fun j => g (0 + j)) (m12 K)) (0 : Int) (m12 K)) (1 : Int) (m12 K)
                          j)) =
                    fun j =>
                    encN
                      (decN
                        (encN
                          (setN (setN (runsL (fun j => g (0 + j)) (m12 K)) (0 : Int) (m12 K)) (1 : Int) (m12 K)
                            j)))),
        !(((hoA a (m12 K) (runsL (fun j => g (0 + j)) (m12 K))).length : Nat) : Int) !=
            (((glyphs (Mt fun k => dv ((v1 (tz a k)).headD undef))
                  (fun i =>
                    decN
                      (encN
                        (setN (setN (runsL (fun j => g (0 + j)) (m12 K)) (0 : Int) (m12 K)) (1 : Int) (m12 K)
                          (0 + i))))
                  (m12 K)).length : Nat) : Int),
        yes (wasS (bodyOf Try.f22 2) (hcS K g (hoA a (m12 K) (runsL (fun j => g (0 + j)) (m12 K))).length (at_ (hoA a (m12 K) (runsL (fun j => g (0 + j)) (m12 K)))) (hoB a (m12 K) (runsL (fun j => g (0 + j)) (m12 K))).length (at_ (hoB a (m12 K) (runsL (fun j => g (0 + j)) (m12 K)))) 0))],
      Bo true,
      [some { t := 2, own := false, c := Cont.row 1 K fun j => [Value.int IntKind.i64 (g j)] }]) := by kernel_rfl
end Go.Proofs.Ytcpahifgdppkbaa.QAI
end
section
/- WhitHolds: what is asked on the way holds. -/
set_option linter.unusedVariables false
set_option linter.unusedSimpArgs false
namespace Go.Proofs.Ytcpahifgdppkbaa.QAI
open Go Go.RowKit
set_option maxRecDepth 100000
theorem updC_eq (f : Nat → List Value) (n : Nat) (x : List Value) : updC f n x = fun k => if k = n then x else f k := by
  funext k
  unfold updC
  rw [selL_eq]
  by_cases h : k = n <;> simp [h]
theorem setN_step (Q : Nat → Rn) (z : Int) (i : Nat) : updC (fun j => encN (setN Q z i j)) i (splice (encN (setN Q z i i)) 2 [.int .i64 z]) = fun j => encN (setN Q z (i + 1) j) := by
  rw [updC_eq]
  funext k
  unfold setN
  by_cases h : k = i
  · subst h
    simp only [if_true, Nat.lt_irrefl, if_false, Nat.lt_succ_self]
    rfl
  · by_cases h2 : k < i
    · have : k < i + 1 := by omega
      simp only [h, h2, this, if_true, if_false]
    · have : ¬ k < i + 1 := by omega
      simp only [h, h2, this, if_false]
theorem ha_loop {K : Nat} {g : Nat → Int} {a : Nat → Int} {m : Nat} {Q : Nat → Rn} (hm : m ≤ 12) :
    CodeSem hoG 1 (.loop (bodyOf Try.f22 0)) (haS K g a m Q 0) (.exit 0, haS K g a m (setN Q 0 m) m) := by
  refine loop_of (fun i => haS K g a m (setN Q 0 i) (i : Int)) m (by simp) ?_ fun j hj => ?_
  · exact rT_sem hoG_ok noLoopsS (rT_go ha_ex ⟨by simp, trivial⟩)
  · have h3 := succ64 (j := j) (by omega)
    refine rT_sem hoG_ok noLoopsS ((rT_go ha_go ?_).trans ?_)
    · simp only [Int.toNat_natCast, Nat.zero_add]
      repeat' (first | exact AllT.nil | refine AllT.cons ?_ ?_)
      all_goals first | (with_reducible rfl) | exact decide_eq_true (by omega)
    · simp only [Int.toNat_natCast, Nat.zero_add, h3]
      refine Eq.trans (b := some (Ex.normal, (⟨slots 68 [(2, .c (.ptr 1 0 0)), (5, .c (.sl 2 0 m)), (6, I64 ((j + 1 : Nat) : Int))], [rowJ false K g, rowA a, some ⟨83, true, .row 4 m (updC (fun q => encN (setN Q 0 j q)) j (splice (encN (setN Q 0 j j)) 2 [.int .i64 0]))⟩]⟩ : St))) rfl ?_
      rw [setN_step]
      rfl
theorem hb_loop {K : Nat} {g : Nat → Int} {a : Nat → Int} {m : Nat} {Q : Nat → Rn} {na : Nat} {L : Nat → Gl} (hm : m ≤ 12) :
    CodeSem hoG 1 (.loop (bodyOf Try.f22 1)) (hbS K g a m Q na L 0) (.exit 2, hbS K g a m (setN Q 1 m) na L m) := by
  refine loop_of (fun i => hbS K g a m (setN Q 1 i) na L (i : Int)) m (by simp) ?_ fun j hj => ?_
  · exact rT_sem hoG_ok noLoopsS (rT_go hb_ex ⟨by simp, trivial⟩)
  · have h3 := succ64 (j := j) (by omega)
    refine rT_sem hoG_ok noLoopsS ((rT_go hb_go ?_).trans ?_)
    · simp only [Int.toNat_natCast, Nat.zero_add]
      repeat' (first | exact AllT.nil | refine AllT.cons ?_ ?_)
      all_goals first | (with_reducible rfl) | exact decide_eq_true (by omega)
    · simp only [Int.toNat_natCast, Nat.zero_add, h3]
      refine Eq.trans (b := some (Ex.normal, (⟨slots 68 [(2, .c (.ptr 1 0 0)), (5, .c (.sl 2 0 m)), (7, .c (.sl 3 0 na)), (8, I64 ((j + 1 : Nat) : Int))], [rowJ false K g, rowA a, some ⟨83, true, .row 4 m (updC (fun q => encN (setN Q 1 j q)) j (splice (encN (setN Q 1 j j)) 2 [.int .i64 1]))⟩, rowGl na L]⟩ : St))) rfl ?_
      rw [setN_step]
      rfl
theorem hc_loop {K : Nat} {g : Nat → Int} {na : Nat} {L L' : Nat → Gl} (hna : na < 2 ^ 40) (h : ∀ i, i < na → L' i = holdG (L i)) :
    CodeSem hoG 1 (.loop (bodyOf Try.f22 2)) (hcS K g na L na L' 0) (.exit 4, hcS K g na L na L' na) := by
  refine loop_of (fun i => hcS K g na L na L' (i : Int)) na (by simp) ?_ fun j hj => ?_
  · exact rT_sem hoG_ok noLoopsS (rT_go hc_ex ⟨by simp, trivial⟩)
  · have h3 := succ64 (j := j) (by omega)
    have hh := h j hj
    by_cases hk : (L j).k = 2
    · have hk' : ((L j).k == 2) = true := by simpa using hk
      have e : holdG (L j) = ⟨3, (L j).r, (L j).a, (L j).w⟩ := by unfold holdG; rw [hk']; rfl
      rw [e] at hh
      refine rT_sem hoG_ok noLoopsS ((rT_go hc_t ?_).trans ?_)
      · simp only [Int.toNat_natCast, Nat.zero_add, hh]
        repeat' (first | exact AllT.nil | refine AllT.cons ?_ ?_)
        all_goals first | (with_reducible rfl) | exact decide_eq_true (by omega) | exact hk' | simp
      · rw [h3]
        rfl
    · have hk' : (!((L j).k == 2)) = true := by simpa using hk
      have e : holdG (L j) = L j := by
        have h2 : ((L j).k == 2) = false := by simpa using hk
        unfold holdG; rw [h2]; rfl
      rw [e] at hh
      refine rT_sem hoG_ok noLoopsS ((rT_go hc_f ?_).trans ?_)
      · simp only [Int.toNat_natCast, Nat.zero_add, hh]
        repeat' (first | exact AllT.nil | refine AllT.cons ?_ ?_)
        all_goals first | (with_reducible rfl) | exact decide_eq_true (by omega) | exact hk' | simp
      · rw [h3]
        rfl
theorem goB_cg {M : Int → Int} {v r : Int} {s : ByteArray} {acc acc' : List Gl} (h : acc = acc') (n : Nat) : goB M v r s acc n = goB M v r s acc' n := by rw [h]
theorem goR_cg {M : Int → Int} {R R' : Nat → Rn} : ∀ k, (∀ i, i < k → R i = R' i) → goR M R k = goR M R' k
  | 0, _ => rfl
  | k + 1, h => by
    rw [goR, goR, goR_cg k fun i hi => h i (by omega), h k (by omega)]
theorem glyphs_cg {M : Int → Int} {R R' : Nat → Rn} {k : Nat} (h : ∀ i, i < k → R i = R' i) : glyphs M R k = glyphs M R' k := by
  unfold glyphs
  rw [goR_cg k h]
theorem lenR_cg {R R' : Nat → Rn} : ∀ k, (∀ i, i < k → (R i).s = (R' i).s) → lenR R k = lenR R' k
  | 0, _ => rfl
  | k + 1, h => by
    rw [lenR, lenR, lenR_cg k fun i hi => h i (by omega), h k (by omega)]
theorem ho_eq (a : Nat → Int) (m : Nat) (Q : Nat → Rn) : hoB a m Q = (hoA a m Q).map holdG := by
  have e1 : hoB a m Q = glyphs (Mt fun k => dv ((v1 (tz a k)).headD undef)) (setV Q 1) m := glyphs_cg fun i hi => by simp [setN, setV, hi, decN, encN]
  have e2 : hoA a m Q = glyphs (Mt fun k => dv ((v1 (tz a k)).headD undef)) (setV Q 0) m := glyphs_cg fun i hi => by simp [setN, setV, hi, decN, encN]
  rw [e1, e2, glyphs_holds]
theorem whitHolds_true (a : Nat → Int) (K : Nat) (g : Nat → Int) : ∃ keep tm d ℓ, LoopsSem (GT KWT keep 0 tm) [rowJ false K g].length ℓ ∧ (lfun (GT KWT keep 0 tm) ℓ d Try.f22 [aA a, .c (.sl 0 0 K)] [rowJ false K g]).eval = some (Bo true, [rowJ false K g]) := by
  obtain ⟨hm1, hm2⟩ := m12_le K
  have hl := runsL_len (fun j => g (0 + j)) (m := m12 K) (m12 K) (Nat.le_refl _)
  have hs1 : lenR (fun i => setN (runsL (fun j => g (0 + j)) (m12 K)) 0 (m12 K) i) (m12 K) ≤ 432 := by
    rw [lenR_cg (R' := runsL (fun j => g (0 + j)) (m12 K)) (m12 K) fun i hi => by simp [setN, hi]]
    omega
  have hs2 : lenR (fun i => setN (setN (runsL (fun j => g (0 + j)) (m12 K)) 0 (m12 K)) 1 (m12 K) i) (m12 K) ≤ 432 := by
    rw [lenR_cg (R' := runsL (fun j => g (0 + j)) (m12 K)) (m12 K) fun i hi => by simp [setN, hi]]
    omega
  have hlen : (hoA a (m12 K) (runsL (fun j => g (0 + j)) (m12 K))).length ≤ 432 := by
    refine Nat.le_trans glyphs_len ?_
    have e : (fun i => decN (encN (setN (runsL (fun j => g (0 + j)) (m12 K)) 0 (m12 K) (0 + i)))) = fun i => setN (runsL (fun j => g (0 + j)) (m12 K)) 0 (m12 K) i := by funext i; rw [Nat.zero_add]; rfl
    rw [e]
    exact hs1
  have heq := ho_eq a (m12 K) (runsL (fun j => g (0 + j)) (m12 K))
  have hl2 : (hoB a (m12 K) (runsL (fun j => g (0 + j)) (m12 K))).length = (hoA a (m12 K) (runsL (fun j => g (0 + j)) (m12 K))).length := by rw [heq]; simp
  have hc := hc_loop (K := K) (g := g) (na := (hoA a (m12 K) (runsL (fun j => g (0 + j)) (m12 K))).length) (L := at_ (hoA a (m12 K) (runsL (fun j => g (0 + j)) (m12 K)))) (L' := at_ (hoB a (m12 K) (runsL (fun j => g (0 + j)) (m12 K)))) (by omega) fun i hi => by
    rw [heq, at_get (by simpa using hi), at_get hi]
    simp
  refine ⟨_, [], 60, hoL K g a (m12 K) (runsL (fun j => g (0 + j)) (m12 K)), byReg_sem (r := 4) (tell_ok (ha_loop hm1)) (byReg_sem (r := 9) (tell_ok (hb_loop hm1)) (tell_ok ?_)), (Tr.go_eval (ho_w (K := K) (g := g) (a := a)) ?_).trans ?_⟩
  · rw [hl2]
    exact hc
  · have e1 : lenR (fun i => decN (encN (setN (runsL (fun j => g (0 + j)) (m12 K)) 0 (m12 K) (0 + i)))) (m12 K) < 2 ^ 39 := by
      have e : (fun i => decN (encN (setN (runsL (fun j => g (0 + j)) (m12 K)) 0 (m12 K) (0 + i)))) = fun i => setN (runsL (fun j => g (0 + j)) (m12 K)) 0 (m12 K) i := by funext i; rw [Nat.zero_add]; rfl
      rw [e]; omega
    have e2 : lenR (fun i => decN (encN (setN (setN (runsL (fun j => g (0 + j)) (m12 K)) 0 (m12 K)) 1 (m12 K) (0 + i)))) (m12 K) < 2 ^ 39 := by
      have e : (fun i => decN (encN (setN (setN (runsL (fun j => g (0 + j)) (m12 K)) 0 (m12 K)) 1 (m12 K) (0 + i)))) = fun i => setN (setN (runsL (fun j => g (0 + j)) (m12 K)) 0 (m12 K)) 1 (m12 K) i := by funext i; rw [Nat.zero_add]; rfl
      rw [e]; omega
    have e3 : (!(((hoA a (m12 K) (runsL (fun j => g (0 + j)) (m12 K))).length : Nat) : Int) != (((hoB a (m12 K) (runsL (fun j => g (0 + j)) (m12 K))).length : Nat) : Int)) = true := by rw [hl2]; simp
    repeat' (first | exact AllT.nil | refine AllT.cons ?_ ?_)
    all_goals first
      | (with_reducible rfl)
      | exact yes_of rfl
      | exact e3
      | exact yes_of ⟨by omega, rfl⟩
      | exact yes_of ⟨by omega, by omega, e1, rfl, rfl⟩
      | exact yes_of ⟨by omega, by omega, e2, rfl, rfl⟩
      | exact yes_of ⟨rfl, rfl⟩
  · rfl
def whitHoldsS : List Shp := [.arr 256 (.int .i64), .rows 2 [.int .i64]]
theorem whitHolds_core : ∀ is, InsOk whitHoldsS is → ∃ keep tm d ℓ, LoopsSem (GT KWT keep 0 tm) (blksIn whitHoldsS is).length ℓ ∧ (lfun (GT KWT keep 0 tm) ℓ d Try.f22 (avsIn 0 whitHoldsS is) (blksIn whitHoldsS is)).eval = some (Bo true, blksIn whitHoldsS is) := by
  intro is0 h0
  obtain ⟨v0, is1, rfl, h1⟩ := ins_arr h0
  obtain ⟨k2, v2, is3, rfl, h3, _⟩ := ins_ints h1
  obtain rfl := ins_nil h3
  exact whitHolds_true v0 k2 v2
end Go.Proofs.Ytcpahifgdppkbaa.QAI
end
section
/- BrkTells: the whole. -/
set_option linter.unusedVariables false
set_option linter.unusedSimpArgs false
namespace Go.Proofs.Ytcpahifgdppkbaa.QAI
open Go Go.RowKit
set_option maxRecDepth 100000
def btL (K : Nat) (g a : Nat → Int) : List Gl := glyphs (Mt fun k => tz (fun k => dv ((v1 (a k)).headD undef)) k) (fun i => decN (encN (runsL (fun j => vd (v1 (g (0 + j)))) (m12 K) (0 + i)))) (m12 K)
theorem bt_ex {k : Nat} {R : Nat → Gl} {K : Nat} {g a : Nat → Int} {A : Int} {na : Nat} {L : Nat → Gl} {i : Int} : (rT btG nol 2 53 (bodyOf Try.f28 0) btK btK (btS k R K g a A na L i)).go [false] =
  some
    ([!decide (i < (2 : Int))], Ex.exit 0,
      {
        sl :=
          slots 49
            [(2, AV.c (AC.sl 1 0 K)), (3, I64 A),
              (5, AV.c (AC.ptr 2 0 0)),
              (9, AV.c (AC.sl 3 0 na)), (10, I64 i)],
        h :=
          [some
              { t := 87, own := false,
                c :=
                  Cont.row 4 k fun j =>
                    [Value.int IntKind.i64 (R j).k, Value.int IntKind.i64 (R j).r, Value.int IntKind.i64 (R j).a,
                      Value.int IntKind.i64 (R j).w] },
            some { t := 2, own := false, c := Cont.row 1 K fun j => [Value.int IntKind.i64 (g j)] },
            some
              { t := 35, own := true,
                c := Cont.row 1 256 fun k => [Value.int IntKind.i64 (a k)] },
            some
              { t := 87, own := true,
                c :=
                  Cont.row 4 na fun j =>
                    [Value.int IntKind.i64 (L j).k, Value.int IntKind.i64 (L j).r, Value.int IntKind.i64 (L j).a,
                      Value.int IntKind.i64 (L j).w] }] }) := by kernel_rfl
theorem bt_w {k : Nat} {R : Nat → Gl} {K : Nat} {g a : Nat → Int} {A A' : Int} {na : Nat} {L : Nat → Gl} : (lfun btG (tell (bodyOf Try.f28 0) (btS k R K g a (A.tmod 1099511627776) (m200 k) (tmGL (fun j => decG (encG (R (0 + j)))) (m200 k)) 0) (.exit 0, btS k R K g a A' na L 2)) 60 Try.f28 [.c (.sl 0 0 k), aA a, .c (.sl 1 0 K), I64 A] [rowGo false k R, rowJ false K g]).go [] =
  some
    ([true, yes (0 + k ≤ k ∧ (fun j => encG (R j)) = fun j => encG (decG (encG (R j)))), yes (wasS (bodyOf Try.f28 0) (btS k R K g a (A.tmod 1099511627776) (m200 k) (tmGL (fun j => decG (encG (R (0 + j)))) (m200 k)) 0))], Bo true,
      [some
          { t := 87, own := false,
            c :=
              Cont.row 4 k fun j =>
                [Value.int IntKind.i64 (R j).k, Value.int IntKind.i64 (R j).r, Value.int IntKind.i64 (R j).a,
                  Value.int IntKind.i64 (R j).w] },
        some { t := 2, own := false, c := Cont.row 1 K fun j => [Value.int IntKind.i64 (g j)] }]) := by kernel_rfl
theorem ga_b (a : Nat → Int) (v c : Int) : 0 ≤ ga (Mt a) v c ∧ ga (Mt a) v c ≤ 65536 := by
  unfold ga
  split
  · split
    · omega
    · exact cl_b _
  · split
    · exact cl_b _
    · exact cl_b _
theorem glyphs_wok {a : Nat → Int} {R : Nat → Rn} {k : Nat} : WOk (at_ (glyphs (Mt a) R k)) := by
  intro i
  rcases Nat.lt_or_ge i (glyphs (Mt a) R k).length with h | h
  · obtain ⟨r, q, _, _, e⟩ := glyphs_mem (at_mem h)
    rw [e]
    have := ga_b a (R r).v (bt (R r).s q)
    exact ⟨this.1, by show ga (Mt a) (R r).v (bt (R r).s q) ≤ 1048576; omega⟩
  · have : at_ (glyphs (Mt a) R k) i = zGl := by
      unfold at_
      rw [List.getD_eq_getElem?_getD, List.getElem?_eq_none h]
      rfl
    rw [this]
    simp [zGl]
theorem bt_step {k : Nat} {R : Nat → Gl} {K : Nat} {g a : Nat → Int} {A : Int} {na : Nat} {L : Nat → Gl} {i : Nat} (hi : i < 2) (hna : na < 2 ^ 30) (hL : WOk L) :
    CodeSem btG 2 (bodyOf Try.f28 0) (btS k R K g a A na L i) (.normal, btS k R K g a (and64 A 4095) (btL K g a).length (at_ (btL K g a)) ((i + 1 : Nat) : Int)) := by
  obtain ⟨hm1, hm2⟩ := m12_le K
  have hl := runsL_len (fun j => vd (v1 (g (0 + j)))) (m := m12 K) (m12 K) (Nat.le_refl _)
  have h3 := succ64 (j := i) (by omega)
  obtain ⟨c1, _, _⟩ := lnC_spec na L A
  have e12 : lenR (fun i => decN (encN (runsL (fun j => vd (v1 (g (0 + j)))) (m12 K) (0 + i)))) (m12 K) < 2 ^ 39 := by
    have e : (fun i => decN (encN (runsL (fun j => vd (v1 (g (0 + j)))) (m12 K) (0 + i)))) = runsL (fun j => vd (v1 (g (0 + j)))) (m12 K) := by funext i; rw [Nat.zero_add]; rfl
    rw [e]; omega
  have eS : lnC na (fun j => decG (encG (L j))) A = lnC na (fun j => decG (encG (L j))) A ∧ lnC na (fun j => decG (encG (L j))) A ≤ lnC na (fun j => decG (encG (L j))) A ∧ lnC na (fun j => decG (encG (L j))) A ≤ lnC na (fun j => decG (encG (L j))) A ∧ lnC na (fun j => decG (encG (L j))) A < 2 ^ 40 ∧
      ((fun j => encP (spAt (lns na (fun j => decG (encG (L j))) A) j)) = fun j => encP (decP (encP (spAt (lns na (fun j => decG (encG (L j))) A) j)))) ∧ ((fun j => encP (spAt (lns na (fun j => decG (encG (L j))) A) j)) = fun j => encP (decP (encP (spAt (lns na (fun j => decG (encG (L j))) A) j)))) ∧
      ∀ (i : Nat), i < lnC na (fun j => decG (encG (L j))) A → decP (encP (spAt (lns na (fun j => decG (encG (L j))) A) i)) = decP (encP (spAt (lns na (fun j => decG (encG (L j))) A) i)) :=
    ⟨rfl, Nat.le_refl _, Nat.le_refl _, Nat.lt_of_le_of_lt c1 (by omega), rfl, rfl, fun _ _ => rfl⟩
  refine rT_sem btG_ok noLoopsS ((rT_go bt_go ?_).trans ?_)
  · repeat' (first | exact AllT.nil | refine AllT.cons ?_ ?_)
    all_goals first
      | (with_reducible rfl)
      | exact decide_eq_true (by omega)
      | exact yes_of ⟨Nat.le_refl _, hna, rfl, hL⟩
      | exact yes_of eS
      | exact yes_of rfl
      | exact yes_of ⟨by omega, rfl⟩
      | exact yes_of ⟨by omega, by omega, e12, rfl, rfl⟩
      | (simp; done)
  · rw [h3]
    rfl
theorem bt_loop {k : Nat} {R : Nat → Gl} {K : Nat} {g a : Nat → Int} {A : Int} {na : Nat} {L : Nat → Gl} (hna : na < 2 ^ 30) (hL : WOk L) :
    CodeSem btG 2 (.loop (bodyOf Try.f28 0)) (btS k R K g a A na L 0) (.exit 0, btS k R K g a (and64 (and64 A 4095) 4095) (btL K g a).length (at_ (btL K g a)) 2) := by
  obtain ⟨hm1, hm2⟩ := m12_le K
  have hl := runsL_len (fun j => vd (v1 (g (0 + j)))) (m := m12 K) (m12 K) (Nat.le_refl _)
  have hlen : (btL K g a).length < 2 ^ 30 := by
    refine Nat.lt_of_le_of_lt glyphs_len ?_
    have e : (fun i => decN (encN (runsL (fun j => vd (v1 (g (0 + j)))) (m12 K) (0 + i)))) = runsL (fun j => vd (v1 (g (0 + j)))) (m12 K) := by funext i; rw [Nat.zero_add]; rfl
    rw [e]; omega
  refine loop_of (fun i => match i with | 0 => btS k R K g a A na L 0 | 1 => btS k R K g a (and64 A 4095) (btL K g a).length (at_ (btL K g a)) 1 | _ => btS k R K g a (and64 (and64 A 4095) 4095) (btL K g a).length (at_ (btL K g a)) 2) 2 (by simp) ?_ fun j hj => ?_
  · exact rT_sem btG_ok noLoopsS (rT_go bt_ex ⟨by simp, trivial⟩)
  · match j, hj with
    | 0, _ => exact bt_step (i := 0) (by omega) hna hL
    | 1, _ => exact bt_step (i := 1) (by omega) hlen glyphs_wok
theorem brkTells_true (k : Nat) (R : Nat → Gl) (K : Nat) (g a : Nat → Int) (A : Int) : ∃ keep tm d ℓ, LoopsSem (GT KBT keep 0 tm) [rowGo false k R, rowJ false K g].length ℓ ∧ (lfun (GT KBT keep 0 tm) ℓ d Try.f28 [.c (.sl 0 0 k), aA a, .c (.sl 1 0 K), I64 A] [rowGo false k R, rowJ false K g]).eval = some (Bo true, [rowGo false k R, rowJ false K g]) := by
  obtain ⟨hm1, hm2⟩ := m200_le k
  refine ⟨_, [], 60, _, tell_ok (bt_loop (k := k) (R := R) (K := K) (g := g) (a := a) (A := A.tmod 1099511627776) (show m200 k < 2 ^ 30 by omega) (tmGL_ok (fun j => decG (encG (R (0 + j)))) (m200 k))), (Tr.go_eval (bt_w (k := k) (R := R) (K := K) (g := g) (a := a) (A := A)) ?_).trans ?_⟩
  · repeat' (first | exact AllT.nil | refine AllT.cons ?_ ?_)
    all_goals first
      | (with_reducible rfl)
      | exact yes_of ⟨by omega, rfl⟩
      | exact yes_of ⟨rfl, rfl⟩
      | exact decide_eq_true (by omega)
      | (simp; done)
  · rfl
theorem ins_glyphs {ss : List Shp} {is : List In} (h : InsOk (.rows 87 [.int .i64, .int .i64, .int .i64, .int .i64] :: ss) is) :
    ∃ (k : Nat) (g : Nat → Gl) (is' : List In), is = .rows k (fun i => encG (g i)) :: is' ∧ InsOk ss is' ∧ k ≤ maxLen := by
  obtain ⟨i, is', rfl, h1, h2⟩ := ins_cons h
  cases i with
  | rows k f =>
    obtain ⟨hk, h1⟩ := h1
    have : ∀ i, ∃ b, f i = encG b := fun i => by
      have hl := (h1 i).length
      obtain ⟨b0, hb0, a0, rfl, _⟩ := (h1 i).get 0 _ rfl
      obtain ⟨b1, hb1, a1, rfl, _⟩ := (h1 i).get 1 _ rfl
      obtain ⟨b2, hb2, a2, rfl, _⟩ := (h1 i).get 2 _ rfl
      obtain ⟨b3, hb3, a3, rfl, _⟩ := (h1 i).get 3 _ rfl
      match hf : f i, hl with
      | [x0, x1, x2, x3], _ =>
        rw [hf] at hb0 hb1 hb2 hb3
        simp only [List.getElem?_cons_zero, List.getElem?_cons_succ, Option.some.injEq] at hb0 hb1 hb2 hb3
        subst hb0; subst hb1; subst hb2; subst hb3
        exact ⟨⟨a0, a1, a2, a3⟩, rfl⟩
    refine ⟨k, fun i => (this i).choose, is', ?_, h2, hk⟩
    congr 2
    funext i
    exact (this i).choose_spec
  | _ => cases h1
def brkTellsS : List Shp := [.rows 87 [.int .i64, .int .i64, .int .i64, .int .i64], .arr 256 (.int .i64), .rows 2 [.int .i64], .one (.int .i64)]
theorem brkTells_core : ∀ is, InsOk brkTellsS is → ∃ keep tm d ℓ, LoopsSem (GT KBT keep 0 tm) (blksIn brkTellsS is).length ℓ ∧ (lfun (GT KBT keep 0 tm) ℓ d Try.f28 (avsIn 0 brkTellsS is) (blksIn brkTellsS is)).eval = some (Bo true, blksIn brkTellsS is) := by
  intro is0 h0
  obtain ⟨k1, v1', is2, rfl, h2, _⟩ := ins_glyphs h0
  obtain ⟨v0, is1, rfl, h1⟩ := ins_arr h2
  obtain ⟨k2, v2, is3, rfl, h3, _⟩ := ins_ints h1
  obtain ⟨v3, is4, rfl, h4⟩ := ins_i64 h3
  obtain rfl := ins_nil h4
  exact brkTells_true k1 v1' k2 v2 v0 v3
end Go.Proofs.Ytcpahifgdppkbaa.QAI
end
section
/- BrkLeast: plain. -/
set_option linter.unusedVariables false
set_option linter.unusedSimpArgs false
namespace Go.Proofs.Ytcpahifgdppkbaa.QAI
open Go Go.RowKit
theorem part_pSB {n : Nat} {L : Nat → Gl} {i : Nat} (hi : i < n) : partA n L i = pSB (L i) := by
  have h : decide (i = n) = false := decide_eq_false (by omega)
  simp only [partA, stopA, h, Bool.false_or, pSB, brk, spc]
  rw [Bool.or_comm]
theorem stop_brk {n : Nat} {L : Nat → Gl} {i : Nat} (hi : i < n) : stopA n L i = brk (L i) := by
  have h : decide (i = n) = false := decide_eq_false (by omega)
  simp only [stopA, h, Bool.false_or]
theorem brk_pSB (g : Gl) (h : brk g = true) : pSB g = true := by
  have : (g.k == 4) = true := h
  unfold pSB; rw [this]; simp
/-- With as much room as the least none is too wide. -/
theorem lns_least {n : Nat} {L : Nat → Gl} (hL : WOk L) {j : Nat} (hj : j < lnC n L (lgS pSB L n).1) : (spAt (lns n L (lgS pSB L n).1) j).w ≤ (lgS pSB L n).1 := by
  obtain ⟨a1, a2, a3⟩ := lnC_spec n L (lgS pSB L n).1
  have h1 := a2 j hj
  obtain ⟨t, ht⟩ := isLine (n := n) (L := L) (A := (lgS pSB L n).1) (o := lnAt n L (lgS pSB L n).1 j) (by omega)
  have e : spAt (lns n L (lgS pSB L n).1) j = spOf n L (lgS pSB L n).1 (lnAt n L (lgS pSB L n).1 j) := by
    unfold spAt lns lnsN
    rw [List.getD_eq_getElem?_getD, List.getElem?_map, List.getElem?_range hj]
    rfl
  rw [e]
  show (lineR n L (lgS pSB L n).1 (lnAt n L (lgS pSB L n).1 j)).2 ≤ _
  rw [ht.eq]
  rcases ht.why with hf | hf
  · have hs := lnAt_start (n := n) (L := L) (A := (lgS pSB L n).1) j (by omega) (lnAt_up j (by omega))
    have hle := ht.le
    have hln := ht.ln
    refine sw_lg hL (n := n) ?_ (fun q hq => ?_) (by omega)
    · rcases hs with h | ⟨h, h2⟩
      · exact .inl h
      · rw [part_pSB (by omega)] at h2
        exact .inr ⟨h, h2⟩
    · rw [← part_pSB (n := n) (by omega)]
      exact hf _ (by omega) (by omega)
  · exact hf
def brkN (L : Nat → Gl) : Nat → Nat
  | 0 => 0
  | i + 1 => brkN L i + (bif brk (L i) then 1 else 0)
theorem brkN_flat {L : Nat → Gl} {o : Nat} : ∀ c, (∀ j, j < c → brk (L (o + j)) = false) → brkN L (o + c) = brkN L o
  | 0, _ => rfl
  | c + 1, h => by
    rw [← Nat.add_assoc, brkN, h c (by omega), brkN_flat c fun j hj => h j (by omega)]
    rfl
/-- With as much room as the most a line goes on up to the next break. -/
theorem line_most {n : Nat} {L : Nat → Gl} (hL : WOk L) {o t : Nat} (hs : o = 0 ∨ (0 < o ∧ brk (L (o - 1)) = true)) (ht : IsLine n L (lgS brk L n).1 o t) : stopA n L t = true := by
  obtain ⟨h1, h2, h3⟩ := stopC_spec (n := n) (L := L) (n - o) o (by have := ht.le; have := ht.ln; omega)
  have hle := ht.le
  have hln := ht.ln
  have hts : t ≤ o + stopC n L o (n - o) := by
    rcases Nat.lt_or_ge (o + stopC n L o (n - o)) t with h | h
    · have := ht.go _ (by omega) h
      rw [h2] at this; cases this
    · exact h
  have hsw : sw L o (o + stopC n L o (n - o) - o) ≤ (lgS brk L n).1 := by
    rw [Nat.add_sub_cancel_left]
    refine sw_lg hL (n := n) hs (fun j hj => ?_) (by omega)
    rw [← stop_brk (n := n) (by omega)]
    exact h3 j hj
  have := ht.most (o + stopC n L o (n - o)) (by omega) (by omega) (fun q hq1 hq2 => by
    have := h3 (q - o) (by omega)
    rw [show o + (q - o) = q by omega] at this
    exact this) (by simp [partA, h2]) hsw
  have : t = o + stopC n L o (n - o) := by omega
  rw [this]; exact h2
theorem lns_most {n : Nat} {L : Nat → Gl} (hL : WOk L) : ∀ i, i < lnC n L (lgS brk L n).1 → ∃ s, lnAt n L (lgS brk L n).1 (i + 1) = s + 1 ∧ lnAt n L (lgS brk L n).1 i ≤ s ∧ s ≤ n ∧ stopA n L s = true ∧ brkN L s = i ∧ (∀ q, lnAt n L (lgS brk L n).1 i ≤ q → q < s → brk (L q) = false)
  | 0, hi => by
    obtain ⟨a1, a2, a3⟩ := lnC_spec n L (lgS brk L n).1
    obtain ⟨t, ht⟩ := isLine (n := n) (L := L) (A := (lgS brk L n).1) (o := 0) (Nat.zero_le _)
    have hst := line_most hL (.inl rfl) ht
    have hb : ∀ q, 0 ≤ q → q < t → brk (L q) = false := fun q hq1 hq2 => by
      rw [← stop_brk (n := n) (by have := ht.ln; omega)]
      exact ht.go q hq1 hq2
    refine ⟨t, by rw [lnAt, lnAt, ht.eq]; rfl, Nat.zero_le _, ht.ln, hst, ?_, hb⟩
    have := brkN_flat (L := L) (o := 0) t fun j hj => hb _ (by omega) (by omega)
    rw [Nat.zero_add] at this
    exact this
  | i + 1, hi => by
    obtain ⟨a1, a2, a3⟩ := lnC_spec n L (lgS brk L n).1
    obtain ⟨s, s1, s2, s3, s4, s5, s6⟩ := lns_most (n := n) hL i (by omega)
    have h1 := a2 (i + 1) hi
    have hsn : s < n := by omega
    have hbs : brk (L s) = true := by rw [← stop_brk hsn]; exact s4
    obtain ⟨t, ht⟩ := isLine (n := n) (L := L) (A := (lgS brk L n).1) (o := lnAt n L (lgS brk L n).1 (i + 1)) (by omega)
    have hst := line_most hL (.inr ⟨by omega, by rw [s1, Nat.add_sub_cancel]; exact hbs⟩) ht
    have hb : ∀ q, lnAt n L (lgS brk L n).1 (i + 1) ≤ q → q < t → brk (L q) = false := fun q hq1 hq2 => by
      rw [← stop_brk (n := n) (by have := ht.ln; omega)]
      exact ht.go q hq1 hq2
    have hle := ht.le
    refine ⟨t, by rw [lnAt, ht.eq]; rfl, hle, ht.ln, hst, ?_, hb⟩
    have e := brkN_flat (L := L) (o := lnAt n L (lgS brk L n).1 (i + 1)) (t - lnAt n L (lgS brk L n).1 (i + 1)) fun j hj => hb _ (by omega) (by omega)
    rw [show lnAt n L (lgS brk L n).1 (i + 1) + (t - lnAt n L (lgS brk L n).1 (i + 1)) = t by omega, s1, brkN, hbs, s5] at e
    exact e
def bkN (n : Nat) (L : Nat → Gl) : Nat → Nat
  | 0 => 0
  | i + 1 => bkN n L i + (bif brk (L i) && decide (i + 1 < n) then 1 else 0)
theorem bkN_le (n : Nat) (L : Nat → Gl) : ∀ i, bkN n L i ≤ i
  | 0 => Nat.le_refl _
  | i + 1 => by
    have := bkN_le n L i
    rw [bkN]
    cases (brk (L i) && decide (i + 1 < n)) <;> simp <;> omega
theorem bkN_eq (n : Nat) (L : Nat → Gl) : ∀ i, i + 1 ≤ n → bkN n L i = brkN L i
  | 0, _ => rfl
  | i + 1, h => by
    rw [bkN, brkN, bkN_eq n L i (by omega)]
    have : decide (i + 1 < n) = true := decide_eq_true (by omega)
    rw [this, Bool.and_true]
theorem bkN_all {n : Nat} (h : 0 < n) (L : Nat → Gl) : bkN n L n = brkN L (n - 1) := by
  obtain ⟨m, rfl⟩ : ∃ m, n = m + 1 := ⟨n - 1, by omega⟩
  rw [bkN, bkN_eq (m + 1) L m (by omega)]
  have : decide (m + 1 < m + 1) = false := decide_eq_false (by omega)
  rw [this, Bool.and_false]
  rfl
/-- With as much room as the most there is a line for each break, and one. -/
theorem lns_count {n : Nat} {L : Nat → Gl} (hL : WOk L) (hn : 0 < n) : lnC n L (lgS brk L n).1 = bkN n L n + 1 := by
  obtain ⟨a1, a2, a3⟩ := lnC_spec n L (lgS brk L n).1
  have hc : 0 < lnC n L (lgS brk L n).1 := by
    rcases Nat.eq_zero_or_pos (lnC n L (lgS brk L n).1) with h | h
    · rw [h] at a3
      have : lnAt n L (lgS brk L n).1 0 = 0 := rfl
      omega
    · exact h
  obtain ⟨s, s1, s2, s3, s4, s5, s6⟩ := lns_most (n := n) hL (lnC n L (lgS brk L n).1 - 1) (by omega)
  rw [show lnC n L (lgS brk L n).1 - 1 + 1 = lnC n L (lgS brk L n).1 by omega] at s1
  rw [bkN_all hn]
  have h1 := a2 (lnC n L (lgS brk L n).1 - 1) (by omega)
  rcases Nat.lt_or_ge s n with h | h
  · have : s = n - 1 := by omega
    rw [← this, s5]
    omega
  · have hs : s = n := by omega
    have hb := s6 (n - 1) (by omega) (by omega)
    have e : brkN L n = brkN L (n - 1) := by
      obtain ⟨m, rfl⟩ : ∃ m, n = m + 1 := ⟨n - 1, by omega⟩
      rw [Nat.add_sub_cancel] at hb ⊢
      rw [brkN, hb]
      rfl
    have h7 : brkN L n = brkN L s := by rw [hs]
    rw [← e, h7, s5]
    omega
theorem lns_none {L : Nat → Gl} {A : Int} : lnC 0 L A = 0 := rfl
end Go.Proofs.Ytcpahifgdppkbaa.QAI
end
section
/- Lines that are placed: plain. -/
set_option linter.unusedVariables false
set_option linter.unusedSimpArgs false
namespace Go.Proofs.Ytcpahifgdppkbaa.QAI
open Go Go.RowKit
/-- A piece: node, place, size, from, to, line. -/
structure Pc where
  n : Int
  x : Int
  y : Int
  w : Int
  h : Int
  f : Int
  t : Int
  l : Int
def zPc : Pc := ⟨0, 0, 0, 0, 0, 0, 0, 0⟩
def encC (p : Pc) : List Value := [.int .i64 p.n, .int .i64 p.x, .int .i64 p.y, .int .i64 p.w, .int .i64 p.h, .int .i64 p.f, .int .i64 p.t, .int .i64 p.l]
def decC : List Value → Pc
  | [.int _ a, .int _ b, .int _ c, .int _ d, .int _ e, .int _ f, .int _ g, .int _ h] => ⟨a, b, c, d, e, f, g, h⟩
  | _ => zPc
def pcAt (l : List Pc) : Nat → Pc := fun j => l.getD j zPc
/-- A line-height held; what stands above the baseline. -/
def hd (n : Int) : Int := mnI 1073741824 (mxI 0 n)
def upL (h : Int) : Int := h - h / 2
theorem hd_b (n : Int) : 0 ≤ hd n ∧ hd n ≤ 1073741824 := by unfold hd; rw [mnI_eq, mxI_eq]; omega
theorem hd_id {n : Int} (h : 0 ≤ n) (h' : n ≤ 1073741824) : hd n = n := by unfold hd; rw [mnI_eq, mxI_eq]; omega
theorem upL_b {h : Int} (h0 : 0 ≤ h) : 0 ≤ upL h ∧ upL h ≤ h := by unfold upL; omega
theorem upL_mono {a b : Int} (h : a ≤ b) : upL a ≤ upL b ∧ a - upL a ≤ b - upL b := by unfold upL; omega
/-- Where a line begins. -/
def stA (A w al : Int) : Int := if A - w < 0 then 0 else if al = 1 then A - w else if al = 2 then (A - w) / 2 else 0
theorem stA_b (A w al : Int) : 0 ≤ stA A w al ∧ (stA A w al = 0 ∨ stA A w al ≤ A - w) := by unfold stA; split <;> (try split) <;> (try split) <;> omega
def hR (R : Nat → Rn) (g : Gl) : Int := hd (R g.r.toNat).l
theorem hR_b (R : Nat → Rn) (g : Gl) : 0 ≤ hR R g ∧ hR R g ≤ 1073741824 := hd_b _
/-- How high a line is, above the baseline and below it, of c glyphs from a place on. -/
def udN (R : Nat → Rn) (L : Nat → Gl) (s : Int) (o : Nat) : Nat → Int × Int
  | 0 => (upL s, s - upL s)
  | j + 1 => (mxI (upL (hR R (L (o + j)))) (udN R L s o j).1, mxI (hR R (L (o + j)) - upL (hR R (L (o + j)))) (udN R L s o j).2)
theorem udN_b {R : Nat → Rn} {L : Nat → Gl} {s : Int} {o : Nat} (h0 : 0 ≤ s) (h1 : s ≤ 1073741824) : ∀ j, 0 ≤ (udN R L s o j).1 ∧ (udN R L s o j).1 ≤ 1073741824 ∧ 0 ≤ (udN R L s o j).2 ∧ (udN R L s o j).2 ≤ 1073741824
  | 0 => by have := upL_b h0; simp only [udN]; omega
  | j + 1 => by
    have := udN_b (R := R) (L := L) (o := o) h0 h1 j
    have h2 := hR_b R (L (o + j))
    have := upL_b h2.1
    simp only [udN, mxI_eq]
    omega
/- Rows of one run. -/
def mapLast {α : Type} (f : α → α) (l : List α) : List α := l.modify (l.length - 1) f
theorem mapLast_len {α : Type} (f : α → α) (l : List α) : (mapLast f l).length = l.length := by simp [mapLast]
theorem mapLast_app {α : Type} (f : α → α) (l : List α) (x : α) : mapLast f (l ++ [x]) = l ++ [f x] := by
  unfold mapLast
  refine List.ext_getElem? fun i => ?_
  rw [List.getElem?_modify]
  simp only [List.length_append, List.length_singleton, Nat.add_sub_cancel]
  rcases Nat.lt_trichotomy i l.length with h | h | h
  · rw [List.getElem?_append_left h, List.getElem?_append_left h, List.getElem?_eq_getElem h]
    simp; omega
  · subst h; simp
  · rw [List.getElem?_eq_none (by simp; omega), List.getElem?_eq_none (by simp; omega)]; rfl
theorem snoc {α : Type} {l : List α} (h : 0 < l.length) : ∃ k x, l = k ++ [x] := by
  have hne : l ≠ [] := by intro e; subst e; simp at h
  exact ⟨l.dropLast, l.getLast hne, (List.dropLast_concat_getLast hne).symm⟩
/-- At place j of a line another run begins. -/
def newAt (L : Nat → Gl) (o j : Nat) : Bool := decide (j = 0) || !((L (o + j - 1)).r == (L (o + j)).r)
/-- Rows of one run: from, to. -/
def gps (L : Nat → Gl) (o : Nat) : Nat → List (Nat × Nat)
  | 0 => []
  | j + 1 => bif newAt L o j then gps L o j ++ [(o + j, o + j + 1)] else mapLast (fun ab => (ab.1, o + j + 1)) (gps L o j)
theorem gps_new {L : Nat → Gl} {o j : Nat} (h : newAt L o j = true) : gps L o (j + 1) = gps L o j ++ [(o + j, o + j + 1)] := by rw [gps, h]; rfl
theorem gps_ext {L : Nat → Gl} {o j : Nat} (h : newAt L o j = false) : gps L o (j + 1) = mapLast (fun ab => (ab.1, o + j + 1)) (gps L o j) := by rw [gps, h]; rfl
def gAt (l : List (Nat × Nat)) (i : Nat) : Nat × Nat := l.getD i (0, 0)
theorem gAt_get {l : List (Nat × Nat)} {i : Nat} (h : i < l.length) : gAt l i = l[i] := by simp [gAt, List.getD_eq_getElem?_getD, List.getElem?_eq_getElem h]
theorem gAt_lt {l : List (Nat × Nat)} {x : Nat × Nat} {i : Nat} (h : i < l.length) : gAt (l ++ [x]) i = gAt l i := by
  rw [gAt_get (by simp; omega), gAt_get h, List.getElem_append_left h]
theorem gAt_eq {l : List (Nat × Nat)} {x : Nat × Nat} {i : Nat} (h : i = l.length) : gAt (l ++ [x]) i = x := by
  subst h
  rw [gAt_get (by simp)]
  simp
structure GpsOk (L : Nat → Gl) (o j : Nat) (l : List (Nat × Nat)) : Prop where
  ne : 0 < j → 0 < l.length
  len : l.length ≤ j
  fst : 0 < l.length → (gAt l 0).1 = o
  lst : 0 < l.length → (gAt l (l.length - 1)).2 = o + j
  lt : ∀ i, i < l.length → (gAt l i).1 < (gAt l i).2
  nxt : ∀ i, i + 1 < l.length → (gAt l (i + 1)).1 = (gAt l i).2
  same : ∀ i, i < l.length → ∀ q, (gAt l i).1 ≤ q → q < (gAt l i).2 → (L q).r = (L (gAt l i).1).r
  diff : ∀ i, i + 1 < l.length → (L ((gAt l i).2 - 1)).r ≠ (L (gAt l i).2).r
theorem gps_ok (L : Nat → Gl) (o : Nat) : ∀ j, GpsOk L o j (gps L o j)
  | 0 => ⟨fun h => absurd h (Nat.lt_irrefl 0), Nat.le_refl _, fun h => absurd h (Nat.lt_irrefl 0), fun h => absurd h (Nat.lt_irrefl 0), fun i h => absurd h (Nat.not_lt_zero _), fun i h => absurd h (Nat.not_lt_zero _), fun i h => absurd h (Nat.not_lt_zero _), fun i h => absurd h (Nat.not_lt_zero _)⟩
  | j + 1 => by
    have ih := gps_ok L o j
    cases hn : newAt L o j
    · rw [gps_ext hn]
      simp only [newAt, Bool.or_eq_false_iff, decide_eq_false_iff_not, Bool.not_eq_false', beq_iff_eq] at hn
      obtain ⟨hj, hr⟩ := hn
      obtain ⟨k, x, hk⟩ := snoc (ih.ne (by omega))
      have hlen : (gps L o j).length = k.length + 1 := by rw [hk]; simp
      rw [hk, mapLast_app]
      rw [hk] at ih
      have e1 : gAt (k ++ [x]) k.length = x := gAt_eq rfl
      have e2 : ∀ i, i < k.length → gAt (k ++ [(x.1, o + j + 1)]) i = gAt (k ++ [x]) i := fun i hi => by rw [gAt_lt hi, gAt_lt hi]
      have e3 : gAt (k ++ [(x.1, o + j + 1)]) k.length = (x.1, o + j + 1) := gAt_eq rfl
      have hl := ih.lst (by simp)
      simp only [List.length_append, List.length_singleton, Nat.add_sub_cancel, e1] at hl
      have hlt := ih.lt k.length (by simp)
      rw [e1] at hlt
      refine ⟨fun _ => by simp, ?_, fun _ => ?_, fun _ => ?_, fun i hi => ?_, fun i hi => ?_, fun i hi q h1 h2 => ?_, fun i hi => ?_⟩
      · have := ih.len; simp at this ⊢; omega
      · have h0 := ih.fst (by simp)
        rcases Nat.eq_zero_or_pos k.length with hz | hz
        · rw [hz] at e1 e3
          rw [e3]; rw [e1] at h0; exact h0
        · rw [e2 0 hz]; exact h0
      · simp only [List.length_append, List.length_singleton, Nat.add_sub_cancel, e3]; omega
      · simp only [List.length_append, List.length_singleton] at hi
        rcases Nat.lt_or_ge i k.length with h | h
        · rw [e2 i h]; exact ih.lt i (by simp; omega)
        · have : i = k.length := by omega
          rw [this, e3]; show x.1 < o + j + 1; omega
      · simp only [List.length_append, List.length_singleton] at hi
        have h := ih.nxt i (by simp; omega)
        rw [e2 i (by omega)]
        rcases Nat.lt_or_ge (i + 1) k.length with h' | h'
        · rw [e2 (i + 1) h']; exact h
        · have h3 : i + 1 = k.length := by omega
          rw [h3, e3]; rw [h3, e1] at h; exact h
      · simp only [List.length_append, List.length_singleton] at hi
        rcases Nat.lt_or_ge i k.length with h | h
        · rw [e2 i h] at h1 h2 ⊢; exact ih.same i (by simp; omega) q h1 h2
        · have h3 : i = k.length := by omega
          rw [h3, e3] at h1 h2 ⊢
          have hs := ih.same k.length (by simp)
          rw [e1] at hs
          simp only at h1 h2 ⊢
          rcases Nat.lt_or_ge q (o + j) with h4 | h4
          · exact hs q h1 (by omega)
          · have : q = o + j := by omega
            rw [this, ← hr]
            exact hs (o + j - 1) (by omega) (by omega)
      · simp only [List.length_append, List.length_singleton] at hi
        rw [e2 i (by omega)]
        exact ih.diff i (by simp; omega)
    · rw [gps_new hn]
      generalize hg : gps L o j = l at ih
      have e2 : ∀ i, i < l.length → gAt (l ++ [(o + j, o + j + 1)]) i = gAt l i := fun i hi => gAt_lt hi
      have e3 : gAt (l ++ [(o + j, o + j + 1)]) l.length = (o + j, o + j + 1) := gAt_eq rfl
      have hj : l.length = 0 → j = 0 := fun h => by
        rcases Nat.eq_zero_or_pos j with h' | h'
        · exact h'
        · have := ih.ne h'; omega
      refine ⟨fun _ => by simp, ?_, fun _ => ?_, fun _ => ?_, fun i hi => ?_, fun i hi => ?_, fun i hi q h1 h2 => ?_, fun i hi => ?_⟩
      · have := ih.len; simp; omega
      · rcases Nat.eq_zero_or_pos l.length with hz | hz
        · rw [hz] at e3
          rw [e3]; have := hj hz; simp; omega
        · rw [e2 0 hz]; exact ih.fst hz
      · simp only [List.length_append, List.length_singleton, Nat.add_sub_cancel, e3]; omega
      · simp only [List.length_append, List.length_singleton] at hi
        rcases Nat.lt_or_ge i l.length with h | h
        · rw [e2 i h]; exact ih.lt i h
        · have : i = l.length := by omega
          rw [this, e3]; simp
      · simp only [List.length_append, List.length_singleton] at hi
        rw [e2 i (by omega)]
        rcases Nat.lt_or_ge (i + 1) l.length with h' | h'
        · rw [e2 (i + 1) h']; exact ih.nxt i h'
        · have h3 : i + 1 = l.length := by omega
          rw [h3, e3]
          have := ih.lst (by omega)
          rw [show l.length - 1 = i by omega] at this
          exact this.symm
      · simp only [List.length_append, List.length_singleton] at hi
        rcases Nat.lt_or_ge i l.length with h | h
        · rw [e2 i h] at h1 h2 ⊢; exact ih.same i h q h1 h2
        · have h3 : i = l.length := by omega
          rw [h3, e3] at h1 h2 ⊢
          simp only at h1 h2 ⊢
          have : q = o + j := by omega
          rw [this]
      · simp only [List.length_append, List.length_singleton] at hi
        rw [e2 i (by omega)]
        rcases Nat.lt_or_ge (i + 1) l.length with h' | h'
        · exact ih.diff i h'
        · have h3 : i + 1 = l.length := by omega
          have hl := ih.lst (by omega)
          rw [show l.length - 1 = i by omega] at hl
          rw [hl]
          have hlen := ih.len
          simp only [newAt, Bool.or_eq_true, decide_eq_true_eq, Bool.not_eq_true', beq_eq_false_iff_ne] at hn
          rcases hn with h4 | h4
          · omega
          · exact h4
theorem GpsOk.lo {L : Nat → Gl} {o j : Nat} {l : List (Nat × Nat)} (h : GpsOk L o j l) : ∀ i, i < l.length → o ≤ (gAt l i).1
  | 0, hi => by rw [h.fst hi]; exact Nat.le_refl _
  | i + 1, hi => by
    have h1 := h.lo i (by omega)
    have h2 := h.lt i (by omega)
    rw [h.nxt i hi]
    omega
theorem GpsOk.hi {L : Nat → Gl} {o j : Nat} {l : List (Nat × Nat)} (h : GpsOk L o j l) : ∀ d i, i + d + 1 = l.length → (gAt l i).2 ≤ o + j
  | 0, i, hi => by
    have := h.lst (by omega)
    rw [show l.length - 1 = i by omega] at this
    omega
  | d + 1, i, hi => by
    have h1 := h.hi d (i + 1) (by omega)
    have h2 := h.lt (i + 1) (by omega)
    rw [h.nxt i (by omega)] at h2
    omega
theorem GpsOk.hi' {L : Nat → Gl} {o j : Nat} {l : List (Nat × Nat)} (h : GpsOk L o j l) (i : Nat) (hi : i < l.length) : (gAt l i).2 ≤ o + j := h.hi (l.length - 1 - i) i (by omega)
/-- A row found by going on. -/
theorem gps_scan {L : Nat → Gl} {o a : Nat} (ho : o ≤ a) (hn : newAt L o (a - o) = true) : ∀ d, (∀ q, a ≤ q → q < a + 1 + d → (L q).r = (L a).r) → gps L o (a + 1 + d - o) = gps L o (a - o) ++ [(a, a + 1 + d)]
  | 0, h => by
    rw [show a + 1 + 0 - o = a - o + 1 by omega, gps_new hn, show o + (a - o) = a by omega]
  | d + 1, h => by
    have ih := gps_scan ho hn d fun q h1 h2 => h q h1 (by omega)
    rw [show a + 1 + (d + 1) - o = a + 1 + d - o + 1 by omega, gps_ext, ih, mapLast_app]
    · simp only [List.append_cancel_left_eq, List.cons.injEq, Prod.mk.injEq, true_and, and_true]
      omega
    · have e1 := h (a + 1 + d) (by omega) (by omega)
      have e2 := h (a + d) (by omega) (by omega)
      simp only [newAt, Bool.or_eq_false_iff, decide_eq_false_iff_not, Bool.not_eq_false', beq_iff_eq]
      refine ⟨by omega, ?_⟩
      rw [show o + (a + 1 + d - o) - 1 = a + d by omega, show o + (a + 1 + d - o) = a + 1 + d by omega, e1, e2]
/- Pieces. -/
def pcOf (R : Nat → Rn) (L : Nat → Gl) (o : Nat) (x yu n : Int) (ab : Nat × Nat) : Pc :=
  ⟨(R (L ab.1).r.toNat).n, x + sw L o (ab.1 - o), yu - upL (hR R (L ab.1)), sw L ab.1 (ab.2 - ab.1), hR R (L ab.1), (L ab.1).a, (L (ab.2 - 1)).a + 1, n⟩
def pcs (R : Nat → Rn) (L : Nat → Gl) (o : Nat) (x yu n : Int) (j : Nat) : List Pc := (gps L o j).map (pcOf R L o x yu n)
def extP (g : Gl) (p : Pc) : Pc := { p with w := p.w + g.w, t := g.a + 1 }
theorem pcs_len (R : Nat → Rn) (L : Nat → Gl) (o : Nat) (x yu n : Int) (j : Nat) : (pcs R L o x yu n j).length = (gps L o j).length := by simp [pcs]
theorem pcs_new {R : Nat → Rn} {L : Nat → Gl} {o : Nat} {x yu n : Int} {j : Nat} (h : newAt L o j = true) :
    pcs R L o x yu n (j + 1) = pcs R L o x yu n j ++ [⟨(R (L (o + j)).r.toNat).n, x + sw L o j, yu - upL (hR R (L (o + j))), (L (o + j)).w, hR R (L (o + j)), (L (o + j)).a, (L (o + j)).a + 1, n⟩] := by
  unfold pcs
  rw [gps_new h, List.map_append]
  simp only [List.map_cons, List.map_nil, pcOf, show o + j - o = j by omega, show o + j + 1 - (o + j) = 1 by omega, sw, Nat.add_zero, Int.zero_add, Nat.add_sub_cancel]
theorem pcs_ext {R : Nat → Rn} {L : Nat → Gl} {o : Nat} {x yu n : Int} {j : Nat} (h : newAt L o j = false) : pcs R L o x yu n (j + 1) = mapLast (extP (L (o + j))) (pcs R L o x yu n j) := by
  have ok := gps_ok L o j
  have hj : j ≠ 0 := by simp only [newAt, Bool.or_eq_false_iff, decide_eq_false_iff_not] at h; exact h.1
  unfold pcs
  rw [gps_ext h]
  obtain ⟨k, ab, hk⟩ := snoc (ok.ne (by omega))
  rw [hk] at ok ⊢
  rw [mapLast_app, List.map_append, List.map_append, List.map_singleton, List.map_singleton, mapLast_app]
  have hl := ok.lst (by simp)
  have hlt := ok.lt k.length (by simp)
  simp only [List.length_append, List.length_singleton, Nat.add_sub_cancel, gAt_eq] at hl hlt
  have e : sw L ab.1 (o + j + 1 - ab.1) = sw L ab.1 (ab.2 - ab.1) + (L (o + j)).w := by
    rw [show o + j + 1 - ab.1 = ab.2 - ab.1 + 1 by omega, sw, show ab.1 + (ab.2 - ab.1) = o + j by omega]
  simp only [pcOf, extP, e, Nat.add_sub_cancel]
theorem pcs_scan {R : Nat → Rn} {L : Nat → Gl} {o a : Nat} {x yu n : Int} (ho : o ≤ a) (hn : newAt L o (a - o) = true) (d : Nat) (h : ∀ q, a ≤ q → q < a + 1 + d → (L q).r = (L a).r) :
    pcs R L o x yu n (a + 1 + d - o) = pcs R L o x yu n (a - o) ++ [pcOf R L o x yu n (a, a + 1 + d)] := by
  unfold pcs
  rw [gps_scan ho hn d h, List.map_append]
  rfl
/- Lines. -/
def lnTo (n : Nat) (L : Nat → Gl) (A : Int) (i : Nat) : Nat := lnAt n L A (i + 1) - 1
theorem ln_line {n : Nat} {L : Nat → Gl} {A : Int} {i : Nat} (h : lnAt n L A i ≤ n) : IsLine n L A (lnAt n L A i) (lnTo n L A i) ∧ lnAt n L A (i + 1) = lnTo n L A i + 1 := by
  obtain ⟨t, ht⟩ := isLine h
  have e : lnAt n L A (i + 1) = t + 1 := by rw [lnAt, ht.eq]; rfl
  have e2 : lnTo n L A i = t := by rw [lnTo, e]; rfl
  rw [e2]
  exact ⟨ht, e⟩
def udL (n : Nat) (L : Nat → Gl) (A : Int) (R : Nat → Rn) (s : Int) (i : Nat) : Int × Int := udN R L s (lnAt n L A i) (lnTo n L A i - lnAt n L A i)
def lnY (n : Nat) (L : Nat → Gl) (A : Int) (R : Nat → Rn) (s : Int) : Nat → Int
  | 0 => 0
  | i + 1 => lnY n L A R s i + ((udL n L A R s i).1 + (udL n L A R s i).2)
def lnW (n : Nat) (L : Nat → Gl) (A : Int) (i : Nat) : Int := sw L (lnAt n L A i) (lnTo n L A i - lnAt n L A i)
def lnP (n : Nat) (L : Nat → Gl) (A : Int) (R : Nat → Rn) (s al : Int) (i : Nat) : List Pc :=
  pcs R L (lnAt n L A i) (stA A (lnW n L A i) al) (lnY n L A R s i + (udL n L A R s i).1) i (lnTo n L A i - lnAt n L A i)
def plN (n : Nat) (L : Nat → Gl) (A : Int) (R : Nat → Rn) (s al : Int) : Nat → List Pc
  | 0 => []
  | i + 1 => plN n L A R s al i ++ lnP n L A R s al i
theorem lnY_b {n : Nat} {L : Nat → Gl} {A : Int} {R : Nat → Rn} {s : Int} (h0 : 0 ≤ s) (h1 : s ≤ 1073741824) : ∀ i, 0 ≤ lnY n L A R s i ∧ lnY n L A R s i ≤ 2147483648 * i
  | 0 => by simp [lnY]
  | i + 1 => by
    have := lnY_b (n := n) (L := L) (A := A) (R := R) h0 h1 i
    have := udN_b (R := R) (L := L) (o := lnAt n L A i) h0 h1 (lnTo n L A i - lnAt n L A i)
    simp only [lnY, udL]
    omega
theorem lnP_len {n : Nat} {L : Nat → Gl} {A : Int} {R : Nat → Rn} {s al : Int} {i : Nat} : (lnP n L A R s al i).length ≤ lnTo n L A i - lnAt n L A i := by
  unfold lnP
  rw [pcs_len]
  exact (gps_ok _ _ _).len
theorem plN_len {n : Nat} {L : Nat → Gl} {A : Int} {R : Nat → Rn} {s al : Int} : ∀ i, (∀ j, j < i → lnAt n L A j ≤ n) → (plN n L A R s al i).length ≤ lnAt n L A i
  | 0, _ => Nat.le_refl _
  | i + 1, h => by
    have := plN_len (n := n) (L := L) (A := A) (R := R) (s := s) (al := al) i fun j hj => h j (by omega)
    have := lnP_len (n := n) (L := L) (A := A) (R := R) (s := s) (al := al) (i := i)
    obtain ⟨ht, he⟩ := ln_line (h i (by omega))
    have hle := ht.le
    simp only [plN, List.length_append]
    omega
end Go.Proofs.Ytcpahifgdppkbaa.QAI
end
section
/- Lines that are placed: all pieces of all lines: plain. -/
set_option linter.unusedVariables false
set_option linter.unusedSimpArgs false
namespace Go.Proofs.Ytcpahifgdppkbaa.QAI
open Go Go.RowKit
/-- All rows of one run of the first lines: line, from, to. -/
def tpN (n : Nat) (L : Nat → Gl) (A : Int) : Nat → List (Nat × Nat × Nat)
  | 0 => []
  | i + 1 => tpN n L A i ++ (gps L (lnAt n L A i) (lnTo n L A i - lnAt n L A i)).map fun ab => (i, ab)
def tAt (l : List (Nat × Nat × Nat)) (q : Nat) : Nat × Nat × Nat := l.getD q (0, 0, 0)
theorem tAt_app (l l' : List (Nat × Nat × Nat)) (q : Nat) : tAt (l ++ l') q = if q < l.length then tAt l q else tAt l' (q - l.length) := by
  unfold tAt
  simp only [List.getD_eq_getElem?_getD]
  split
  · rename_i h; rw [List.getElem?_append_left h]
  · rename_i h; rw [List.getElem?_append_right (by omega)]
theorem tAt_map (i : Nat) (l : List (Nat × Nat)) {q : Nat} (h : q < l.length) : tAt (l.map fun ab => (i, ab)) q = (i, gAt l q) := by
  unfold tAt gAt
  simp only [List.getD_eq_getElem?_getD, List.getElem?_map, List.getElem?_eq_getElem h]
  rfl
def pcT (n : Nat) (L : Nat → Gl) (A : Int) (R : Nat → Rn) (s al : Int) (t : Nat × Nat × Nat) : Pc :=
  pcOf R L (lnAt n L A t.1) (stA A (lnW n L A t.1) al) (lnY n L A R s t.1 + (udL n L A R s t.1).1) t.1 t.2
theorem plN_tp {n : Nat} {L : Nat → Gl} {A : Int} {R : Nat → Rn} {s al : Int} : ∀ i, plN n L A R s al i = (tpN n L A i).map (pcT n L A R s al)
  | 0 => rfl
  | i + 1 => by
    rw [plN, tpN, List.map_append, plN_tp i, List.map_map]
    rfl
theorem plN_tl {n : Nat} {L : Nat → Gl} {A : Int} {R : Nat → Rn} {s al : Int} {i : Nat} : (plN n L A R s al i).length = (tpN n L A i).length := by rw [plN_tp, List.length_map]
theorem plN_at {n : Nat} {L : Nat → Gl} {A : Int} {R : Nat → Rn} {s al : Int} {i q : Nat} (h : q < (tpN n L A i).length) : pcAt (plN n L A R s al i) q = pcT n L A R s al (tAt (tpN n L A i) q) := by
  rw [plN_tp]
  unfold pcAt tAt
  simp only [List.getD_eq_getElem?_getD, List.getElem?_map, List.getElem?_eq_getElem h]
  rfl
theorem GpsOk.cover {L : Nat → Gl} {o j : Nat} {l : List (Nat × Nat)} (h : GpsOk L o j l) {z : Nat} (h1 : o ≤ z) : ∀ i, i < l.length → z < (gAt l i).2 → ∃ k, k < l.length ∧ (gAt l k).1 ≤ z ∧ z < (gAt l k).2
  | 0, hi, hz => ⟨0, hi, by rw [h.fst hi]; exact h1, hz⟩
  | i + 1, hi, hz => by
    rcases Nat.lt_or_ge z (gAt l (i + 1)).1 with h2 | h2
    · rw [h.nxt i hi] at h2
      exact h.cover h1 i (by omega) h2
    · exact ⟨i + 1, hi, h2, hz⟩
theorem GpsOk.cover' {L : Nat → Gl} {o j : Nat} {l : List (Nat × Nat)} (h : GpsOk L o j l) {z : Nat} (h1 : o ≤ z) (h2 : z < o + j) : ∃ k, k < l.length ∧ (gAt l k).1 ≤ z ∧ z < (gAt l k).2 := by
  have hl := h.ne (by omega)
  have := h.lst hl
  exact h.cover h1 (l.length - 1) (by omega) (by omega)
structure TpOk (n : Nat) (L : Nat → Gl) (A : Int) (c : Nat) (l : List (Nat × Nat × Nat)) : Prop where
  ln : ∀ q, q < l.length → (tAt l q).1 < c
  gr : ∀ q, q < l.length → lnAt n L A (tAt l q).1 ≤ (tAt l q).2.1 ∧ (tAt l q).2.1 < (tAt l q).2.2 ∧ (tAt l q).2.2 ≤ lnTo n L A (tAt l q).1
  same : ∀ q, q < l.length → ∀ z, (tAt l q).2.1 ≤ z → z < (tAt l q).2.2 → (L z).r = (L (tAt l q).2.1).r
  nxt : ∀ q, q + 1 < l.length → ((tAt l (q + 1)).1 = (tAt l q).1 ∧ (tAt l (q + 1)).2.1 = (tAt l q).2.2 ∧ (L ((tAt l q).2.2 - 1)).r ≠ (L (tAt l q).2.2).r) ∨
    ((tAt l q).1 < (tAt l (q + 1)).1 ∧ (tAt l (q + 1)).2.1 = lnAt n L A (tAt l (q + 1)).1)
  cov : ∀ i, i < c → ∀ z, lnAt n L A i ≤ z → z < lnTo n L A i → ∃ q, q < l.length ∧ (tAt l q).1 = i ∧ (tAt l q).2.1 ≤ z ∧ z < (tAt l q).2.2
  fst : 0 < l.length → (tAt l 0).2.1 = lnAt n L A (tAt l 0).1
theorem tp_ok {n : Nat} {L : Nat → Gl} {A : Int} : ∀ c, (∀ j, j < c → lnAt n L A j ≤ n) → TpOk n L A c (tpN n L A c)
  | 0, _ => ⟨fun q h => absurd h (Nat.not_lt_zero _), fun q h => absurd h (Nat.not_lt_zero _), fun q h => absurd h (Nat.not_lt_zero _), fun q h => absurd h (Nat.not_lt_zero _), fun q h => absurd h (Nat.not_lt_zero _), fun h => absurd h (Nat.lt_irrefl 0)⟩
  | c + 1, hc => by
    have ih := tp_ok (n := n) (L := L) (A := A) c fun j hj => hc j (by omega)
    obtain ⟨hln, hnx⟩ := ln_line (hc c (by omega))
    have hle := hln.le
    have g := gps_ok L (lnAt n L A c) (lnTo n L A c - lnAt n L A c)
    have hlo := g.lo
    have hhi := g.hi'
    rw [tpN]
    generalize gps L (lnAt n L A c) (lnTo n L A c - lnAt n L A c) = k at g hlo hhi ⊢
    generalize tpN n L A c = l at ih ⊢
    have e1 : ∀ q, q < l.length → tAt (l ++ k.map fun ab => (c, ab)) q = tAt l q := fun q h => by rw [tAt_app, if_pos h]
    have e2 : ∀ q, l.length ≤ q → q < l.length + k.length → tAt (l ++ k.map fun ab => (c, ab)) q = (c, gAt k (q - l.length)) := fun q h h' => by
      rw [tAt_app, if_neg (by omega), tAt_map c k (by omega)]
    have len : (l ++ k.map fun ab => (c, ab)).length = l.length + k.length := by simp
    refine ⟨fun q hq => ?_, fun q hq => ?_, fun q hq z h1 h2 => ?_, fun q hq => ?_, fun i hi z h1 h2 => ?_, fun h0 => ?_⟩
    · rw [len] at hq
      rcases Nat.lt_or_ge q l.length with h | h
      · rw [e1 q h]; have := ih.ln q h; omega
      · rw [e2 q h hq]; exact Nat.lt_succ_self c
    · rw [len] at hq
      rcases Nat.lt_or_ge q l.length with h | h
      · rw [e1 q h]; exact ih.gr q h
      · rw [e2 q h hq]
        have h3 := hlo (q - l.length) (by omega)
        have h4 := hhi (q - l.length) (by omega)
        have h5 := g.lt (q - l.length) (by omega)
        exact ⟨h3, h5, by simp only; omega⟩
    · rw [len] at hq
      rcases Nat.lt_or_ge q l.length with h | h
      · rw [e1 q h] at h1 h2 ⊢; exact ih.same q h z h1 h2
      · rw [e2 q h hq] at h1 h2 ⊢
        exact g.same (q - l.length) (by omega) z h1 h2
    · rw [len] at hq
      rcases Nat.lt_or_ge (q + 1) l.length with h | h
      · rw [e1 q (by omega), e1 (q + 1) h]; exact ih.nxt q h
      · rcases Nat.lt_or_ge q l.length with h' | h'
        · have e : q + 1 - l.length = 0 := by omega
          rw [e1 q h', e2 (q + 1) h hq, e]
          exact .inr ⟨ih.ln q h', g.fst (by omega)⟩
        · rw [e2 q h' (by omega), e2 (q + 1) h hq]
          have h3 := g.nxt (q - l.length) (by omega)
          have h4 := g.diff (q - l.length) (by omega)
          rw [show q - l.length + 1 = q + 1 - l.length by omega] at h3
          exact .inl ⟨rfl, h3, h4⟩
    · rcases Nat.lt_or_ge i c with h | h
      · obtain ⟨q, a1, a2, a3⟩ := ih.cov i h z h1 h2
        exact ⟨q, by rw [len]; omega, by rw [e1 q a1]; exact ⟨a2, a3⟩⟩
      · have : i = c := by omega
        subst this
        obtain ⟨q, a1, a2, a3⟩ := g.cover' h1 (by omega)
        refine ⟨l.length + q, by rw [len]; omega, ?_⟩
        rw [e2 _ (by omega) (by omega), Nat.add_sub_cancel_left]
        exact ⟨rfl, a2, a3⟩
    · rw [len] at h0
      rcases Nat.eq_zero_or_pos l.length with h | h
      · rw [e2 0 (by omega) (by omega)]
        have := g.fst (by omega)
        rw [h]
        exact this
      · rw [e1 0 h]; exact ih.fst h
theorem ln_mono {n : Nat} {L : Nat → Gl} {A : Int} {c : Nat} (hc : ∀ j, j < c → lnAt n L A j ≤ n) {i : Nat} : ∀ d, i + 1 + d ≤ c → lnTo n L A i + 1 ≤ lnAt n L A (i + 1 + d)
  | 0, h => by rw [(ln_line (hc i (by omega))).2]; exact Nat.le_refl _
  | d + 1, h => by
    have ih := ln_mono hc (i := i) d (by omega)
    obtain ⟨h1, h2⟩ := ln_line (hc (i + 1 + d) (by omega))
    have := h1.le
    rw [show i + 1 + (d + 1) = i + 1 + d + 1 by omega, h2]
    omega
theorem TpOk.step {n : Nat} {L : Nat → Gl} {A : Int} {c : Nat} {l : List (Nat × Nat × Nat)} (h : TpOk n L A c l) (hc : ∀ j, j < c → lnAt n L A j ≤ n) {q : Nat} (hq : q + 1 < l.length) : (tAt l q).2.2 ≤ (tAt l (q + 1)).2.1 := by
  rcases h.nxt q hq with ⟨_, h2, _⟩ | ⟨h1, h2⟩
  · omega
  · have h3 := h.gr q (by omega)
    have h4 := h.ln (q + 1) hq
    have h5 := ln_mono hc (i := (tAt l q).1) ((tAt l (q + 1)).1 - (tAt l q).1 - 1) (by omega)
    rw [show (tAt l q).1 + 1 + ((tAt l (q + 1)).1 - (tAt l q).1 - 1) = (tAt l (q + 1)).1 by omega] at h5
    omega
theorem TpOk.before {n : Nat} {L : Nat → Gl} {A : Int} {c : Nat} {l : List (Nat × Nat × Nat)} (h : TpOk n L A c l) (hc : ∀ j, j < c → lnAt n L A j ≤ n) {q : Nat} : ∀ d, q + 1 + d < l.length → (tAt l q).2.2 ≤ (tAt l (q + 1 + d)).2.1
  | 0, hd => h.step hc hd
  | d + 1, hd => by
    have h1 := h.before hc (q := q) d (by omega)
    have h2 := h.step hc (q := q + 1 + d) (by omega)
    have h3 := h.gr (q + 1 + d) (by omega)
    rw [show q + 1 + (d + 1) = q + 1 + d + 1 by omega]
    omega
/-- Each place is on a line, or parts two. -/
theorem ln_place {n : Nat} {L : Nat → Gl} {A : Int} {z : Nat} : ∀ c, (∀ j, j < c → lnAt n L A j ≤ n) → z < lnAt n L A c → ∃ i, i < c ∧ lnAt n L A i ≤ z ∧ z ≤ lnTo n L A i
  | 0, _, hz => absurd hz (Nat.not_lt_zero _)
  | c + 1, hc, hz => by
    rcases Nat.lt_or_ge z (lnAt n L A c) with h | h
    · obtain ⟨i, h1, h2⟩ := ln_place c (fun j hj => hc j (by omega)) h
      exact ⟨i, by omega, h2⟩
    · rw [(ln_line (hc c (by omega))).2] at hz
      exact ⟨c, by omega, h, by omega⟩
end Go.Proofs.Ytcpahifgdppkbaa.QAI
end
section
/- Loops told round by round, without a count. -/
set_option linter.unusedVariables false
set_option linter.unusedSimpArgs false
namespace Go.Proofs.Ytcpahifgdppkbaa.QAI
open Go Go.RowKit
/-- From a state on the rounds of a loop come to an end, as told. -/
def LoopR (G : Ctx2) (n0 : Nat) (b : Code) (S : St) (r : Ex × St) : Prop :=
  ∃ L, ∀ (B : Nat) (m0 : List Pl) (h0 : AHeap) (w0 : World) (a : Act) (w : World), h0.length = n0 → m0.length = h0.length → RI B m0 h0 w0 S a w →
    ∀ Q, (∀ a' w', RI B m0 h0 w0 r.2 a' w' → Q (toExit r.1) a' w') → Code.rounds G.P b Q L a w
theorem LoopR.stop {G : Ctx2} {n0 : Nat} {b : Code} {S : St} {e : Ex} {Se : St} (he : e ≠ .normal) (h : CodeSem G n0 b S (e, Se)) : LoopR G n0 b S (e, Se) := by
  refine ⟨1, fun B m0 h0 w0 a w hn H0 hI Q hQ => ?_⟩
  rw [rounds_succ]
  refine h B m0 h0 w0 a w hn H0 hI _ ?_
  intro a' w' hI'
  cases e with
  | normal => exact absurd rfl he
  | exit id => exact hQ a' w' hI'
  | ret => exact hQ a' w' hI'
theorem LoopR.next {G : Ctx2} {n0 : Nat} {b : Code} {S S1 : St} {r : Ex × St} (h : CodeSem G n0 b S (.normal, S1)) (h2 : LoopR G n0 b S1 r) : LoopR G n0 b S r := by
  obtain ⟨L, h2⟩ := h2
  refine ⟨L + 1, fun B m0 h0 w0 a w hn H0 hI Q hQ => ?_⟩
  rw [rounds_succ]
  refine h B m0 h0 w0 a w hn H0 hI _ ?_
  intro a' w' hI'
  exact h2 B m0 h0 w0 a' w' hn H0 hI' Q hQ
theorem LoopR.sem {G : Ctx2} {n0 : Nat} {b : Code} {S : St} {r : Ex × St} (h : LoopR G n0 b S r) : CodeSem G n0 (.loop b) S r := by
  obtain ⟨L, h⟩ := h
  intro B m0 h0 w0 a w hn H0 hI Q hQ
  exact wp_loop_rounds L (h B m0 h0 w0 a w hn H0 hI Q hQ)
end Go.Proofs.Ytcpahifgdppkbaa.QAI
end
section
/- Lines that are placed: small functions; the walks. -/
set_option linter.unusedVariables false
set_option linter.unusedSimpArgs false
namespace Go.Proofs.Ytcpahifgdppkbaa.QAI
open Go Go.RowKit
set_option maxRecDepth 100000
theorem up1_nf {h : Int} : (lfun niG nol 60 Try.f51 [I64 h] []).eval =
  some (I64 (w64 (w64 ((mxI (0 : Int) h).tdiv (2 : Int)) + (mxI (0 : Int) h).tmod (2 : Int))), []) := by kernel_rfl
theorem up2_nf {h : Int} : (lfun niG nol 60 Try.f52 [I64 h] []).eval =
  bif decide (h < (0 : Int)) then some (I64 (0 : Int), []) else some (I64 (w64 (h - w64 (h.tdiv (2 : Int)))), []) := by kernel_rfl
theorem hd1_nf {n : Int} : (lfun niG nol 60 Try.f135 [I64 n] []).eval =
  some (I64 (mnI (1073741824 : Int) (mxI (0 : Int) n)), []) := by kernel_rfl
theorem hd2_nf {n : Int} : (lfun adG nol 60 Try.f137 [I64 n] []).eval =
  some (I64 (mnI (1073741824 : Int) (mxI (0 : Int) n)), []) := by kernel_rfl
theorem st1_nf {A w al : Int} : (lfun niG nol 60 Try.f136 [I64 A, I64 w, I64 al] []).eval =
  bif decide (w64 (A - w) < (0 : Int)) then some (I64 (0 : Int), [])
  else
    bif al == (1 : Int) then some (I64 (w64 (A - w)), [])
    else
      bif al == (2 : Int) then some (I64 ((w64 (A - w)).fdiv ((2 : Int) ^ min 1 IntKind.i64.bits)), [])
      else some (I64 (0 : Int), []) := by kernel_rfl
abbrev suK : List (Nat × Option TypeId) := [(0,none),(3,none),(4,none)]
noncomputable def suG : Ctx2 := GT [] (fun k => if k = 3 then suK else []) 0 []
theorem suG_ok : XOk suG := GT_ok nilK _ _ _
def suS (own : Bool) (o c m : Nat) (L : Nat → Gl) (n i : Int) : St := ⟨slots 19 [(0, .c (.sl 0 o c)), (3, I64 n), (4, I64 i)], [rowGo own m L]⟩
theorem su_go {own : Bool} {o c m : Nat} {L : Nat → Gl} {n i : Int} : (rT suG nol 1 54 (bodyOf Try.f138 0) suK suK (suS own o c m L n i)).go [] =
  some
    ([decide (i < ((c : Nat) : Int)), decide ((0 : Int) ≤ i), decide (i < ((c : Nat) : Int)), decide (o + i.toNat < m)], Ex.normal,
      {
        sl :=
          slots 19
            [(0, AV.c (AC.sl 0 o c)), (3, I64 (w64 (n + (L (o + i.toNat)).w))),
              (4, I64 (w64 (i + (1 : Int))))],
        h :=
          [some
              { t := 87, own := own,
                c :=
                  Cont.row 4 m fun j =>
                    [Value.int IntKind.i64 (L j).k, Value.int IntKind.i64 (L j).r, Value.int IntKind.i64 (L j).a,
                      Value.int IntKind.i64 (L j).w] }] }) := by kernel_rfl
theorem su_e {own : Bool} {o c m : Nat} {L : Nat → Gl} {n i : Int} : (rT suG nol 1 54 (bodyOf Try.f138 0) suK suK (suS own o c m L n i)).go [false] =
  some
    ([!decide (i < ((c : Nat) : Int))], Ex.exit 0,
      { sl := slots 19 [(0, AV.c (AC.sl 0 o c)), (3, I64 n), (4, I64 i)],
        h :=
          [some
              { t := 87, own := own,
                c :=
                  Cont.row 4 m fun j =>
                    [Value.int IntKind.i64 (L j).k, Value.int IntKind.i64 (L j).r, Value.int IntKind.i64 (L j).a,
                      Value.int IntKind.i64 (L j).w] }] }) := by kernel_rfl
theorem su_w {own : Bool} {o c m : Nat} {L : Nat → Gl} {n i : Int} : (lfun suG (tell (bodyOf Try.f138 0) (suS own o c m L 0 0) (.exit 0, suS own o c m L n i)) 60 Try.f138 [.c (.sl 0 o c)] [rowGo own m L]).go [] =
  some
    ([yes (wasS (bodyOf Try.f138 0) (suS own o c m L 0 0))], I64 n,
      [some
          { t := 87, own := own,
            c :=
              Cont.row 4 m fun j =>
                [Value.int IntKind.i64 (L j).k, Value.int IntKind.i64 (L j).r, Value.int IntKind.i64 (L j).a,
                  Value.int IntKind.i64 (L j).w] }]) := by kernel_rfl
noncomputable def upF : Spec := fun args h => match args, h with
  | [.c (.v (.int .i64 n))], [] => .need (yes (0 ≤ n ∧ n ≤ 4611686018427387904)) (.ret (I64 (upL n), []))
  | _, _ => .fail
noncomputable def hdF : Spec := fun args h => match args, h with
  | [.c (.v (.int .i64 n))], [] => .ret (I64 (hd n), [])
  | _, _ => .fail
noncomputable def stF : Spec := fun args h => match args, h with
  | [.c (.v (.int .i64 A)), .c (.v (.int .i64 w)), .c (.v (.int .i64 al))], [] => .need (yes (-1152921504606846976 ≤ A ∧ A ≤ 1152921504606846976 ∧ 0 ≤ w ∧ w ≤ 1152921504606846976)) (.ret (I64 (stA A w al), []))
  | _, _ => .fail
theorem upF_ok : SpecOk Try.prog 51 upF := by
  refine knownS nilK Try.func51 fun args h r he => ?_
  unfold upF at he
  split at he
  · rename_i n
    obtain ⟨⟨h1, h2⟩, he⟩ := Tr.eval_ask.1 he
    cases he
    refine ⟨fun _ => [], [], 60, nol, noLoopsS, up1_nf.trans ?_⟩
    have e : w64 (w64 ((mxI 0 n).tdiv 2) + (mxI 0 n).tmod 2) = upL n := by
      have e1 : mxI 0 n = n := by rw [mxI_eq]; omega
      have e2 : n.tdiv 2 = n / 2 := Int.tdiv_eq_ediv_of_nonneg h1
      have e3 : n.tmod 2 = n % 2 := Int.tmod_eq_emod_of_nonneg h1
      have e4 : w64 (n / 2) = n / 2 := w64_id (by omega) (by omega)
      rw [e1, e2, e3, e4, w64_id (by omega) (by omega)]
      unfold upL
      omega
    rw [e]
  · cases he
theorem rupF_ok : SpecOk Try.prog 52 upF := by
  refine knownS nilK Try.func52 fun args h r he => ?_
  unfold upF at he
  split at he
  · rename_i n
    obtain ⟨⟨h1, h2⟩, he⟩ := Tr.eval_ask.1 he
    cases he
    refine ⟨fun _ => [], [], 60, nol, noLoopsS, up2_nf.trans ?_⟩
    have e0 : ¬ n < 0 := by omega
    have e2 : n.tdiv 2 = n / 2 := Int.tdiv_eq_ediv_of_nonneg h1
    have e : w64 (n - w64 (n.tdiv 2)) = upL n := by
      have e4 : w64 (n / 2) = n / 2 := w64_id (by omega) (by omega)
      rw [e2, e4, w64_id (by omega) (by omega)]
      rfl
    rw [e, decide_eq_false e0]
    rfl
  · cases he
theorem hdF_ok : SpecOk Try.prog 135 hdF := by
  refine knownS nilK Try.func135 fun args h r he => ?_
  unfold hdF at he
  split at he
  · cases he
    exact ⟨fun _ => [], [], 60, nol, noLoopsS, hd1_nf⟩
  · cases he
theorem rhdF_ok : SpecOk Try.prog 137 hdF := by
  refine knownS KA1_ok Try.func137 fun args h r he => ?_
  unfold hdF at he
  split at he
  · cases he
    exact ⟨fun _ => [], [], 60, nol, noLoopsS, hd2_nf⟩
  · cases he
theorem stF_ok : SpecOk Try.prog 136 stF := by
  refine knownS nilK Try.func136 fun args h r he => ?_
  unfold stF at he
  split at he
  · rename_i A w al
    obtain ⟨⟨h1, h2, h3, h4⟩, he⟩ := Tr.eval_ask.1 he
    cases he
    refine ⟨fun _ => [], [], 60, nol, noLoopsS, st1_nf.trans ?_⟩
    have e1 : w64 (A - w) = A - w := w64_id (by omega) (by omega)
    have e2 : (A - w).fdiv ((2 : Int) ^ min 1 IntKind.i64.bits) = (A - w) / 2 := Int.fdiv_eq_ediv_of_nonneg _ (by decide)
    rw [e1, e2]
    unfold stA
    by_cases c1 : A - w < 0
    · rw [decide_eq_true c1, if_pos c1]; rfl
    · rw [decide_eq_false c1, if_neg c1]
      by_cases c2 : al = 1
      · subst c2; rfl
      · have : (al == 1) = false := by simpa using c2
        rw [this, if_neg c2]
        by_cases c3 : al = 2
        · subst c3; rfl
        · have : (al == 2) = false := by simpa using c3
          rw [this, if_neg c3]; rfl
  · cases he
theorem su_loop {own : Bool} {o c m : Nat} {L : Nat → Gl} (h1 : o + c ≤ m) (h2 : c < 2 ^ 40) (hL : WOk L) :
    CodeSem suG 1 (.loop (bodyOf Try.f138 0)) (suS own o c m L 0 0) (.exit 0, suS own o c m L (sw L o c) c) := by
  refine loop_of (fun j => suS own o c m L (sw L o j) j) c (by simp) ?_ fun j hj => ?_
  · exact rT_sem suG_ok noLoopsS (rT_go su_e ⟨by simp, trivial⟩)
  · have h3 := succ64 (j := j) (by omega)
    have hs := sw_b hL o j
    have hw := hL (o + j)
    have h4 : w64 (sw L o j + (L (o + j)).w) = sw L o (j + 1) := by rw [w64_id (by omega) (by omega)]; rfl
    refine rT_sem suG_ok noLoopsS ((rT_go su_go ?_).trans ?_)
    · try simp only [Int.toNat_natCast, Nat.zero_add, h3, h4]
      repeat' (first | exact AllT.nil | refine AllT.cons ?_ ?_)
      all_goals first | (with_reducible rfl) | (with_reducible assumption) | exact yes_of ⟨rfl, rfl⟩ | exact decide_eq_true (by omega) | exact beq_iff_eq.2 (by omega) | (simp; done) | (simp; omega)
    · try simp only [Int.toNat_natCast, Nat.zero_add, h3, h4]
      rfl
noncomputable def suF : Spec := fun args h => match args, h with
  | [.c (.sl 0 o c)], [some ⟨87, own, .row 4 m q⟩] =>
    .need (yes (o + c ≤ m ∧ c < 2 ^ 40 ∧ (q = fun j => encG (decG (q j))) ∧ WOk fun j => decG (q j))) (.ret (I64 (sw (fun j => decG (q j)) o c), [some ⟨87, own, .row 4 m q⟩]))
  | _, _ => .fail
theorem suF_ok : SpecOk Try.prog 138 suF := by
  refine knownS nilK Try.func138 fun args h r he => ?_
  unfold suF at he
  split at he
  · rename_i o c own m q
    obtain ⟨⟨h1, h2, h5, h6⟩, he⟩ := Tr.eval_ask.1 he
    cases he
    refine ⟨_, [], 60, _, tell_ok (su_loop (own := own) h1 h2 h6), ?_⟩
    have e1 : some ⟨87, own, .row 4 m q⟩ = rowGo own m fun j => decG (q j) := by rw [rowGo, ← h5]
    rw [e1]
    exact Tr.go_eval su_w ⟨yes_of ⟨rfl, rfl⟩, trivial⟩
  · cases he
end Go.Proofs.Ytcpahifgdppkbaa.QAI
end
