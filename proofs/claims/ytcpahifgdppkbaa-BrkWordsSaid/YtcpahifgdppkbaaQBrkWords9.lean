/- Lines: how much they need, glyphs brought near: specs; BrkTells' walk. -/
import Derived.Test.YtcpahifgdppkbaaQBrkWords8
section
set_option linter.unusedVariables false
set_option linter.unusedSimpArgs false
namespace Go.Proofs.Ytcpahifgdppkbaa.QAI
open Go Go.RowKit
set_option maxRecDepth 100000
def pSB (g : Gl) : Bool := g.k == 2 || g.k == 4
theorem rows1_loop {own : Bool} {k n : Nat} {L : Nat → Gl} (hk : k ≤ n) (hk2 : k < 2 ^ 30) (hL : WOk L) :
    CodeSem rowsG 1 (.loop (bodyOf Try.f130 0)) (rwS1 own k n L 0 0 0) (.exit 0, rwS1 own k n L (lgS pSB L k).1 (lgS pSB L k).2 k) := by
  refine loop_of (fun i => rwS1 own k n L (lgS pSB L i).1 (lgS pSB L i).2 (i : Int)) k (by simp) ?_ fun j hj => ?_
  · exact rT_sem rowsG_ok noLoopsS (rT_go rw1_e ⟨by simp, trivial⟩)
  · have h3 := succ64 (j := j) (by omega)
    obtain ⟨b1, b2, b3, b4⟩ := lgS_b (p := pSB) hL j
    have hw := hL j
    by_cases hp : pSB (L j) = true
    · have hp' : ((L j).k == 2 || (L j).k == 4) = true := hp
      refine rT_sem rowsG_ok noLoopsS ((rT_go rw1_t ?_).trans ?_)
      · simp only [Int.toNat_natCast, Nat.zero_add]
        repeat' (first | exact AllT.nil | refine AllT.cons ?_ ?_)
        all_goals first | (with_reducible rfl) | (with_reducible assumption) | exact decide_eq_true (by omega)
      · have e : lgS pSB L (j + 1) = ((lgS pSB L j).1, 0) := by rw [lgS, hp]; rfl
        rw [h3, e]
        rfl
    · have hpf : pSB (L j) = false := by simpa using hp
      have hp' : (!((L j).k == 2 || (L j).k == 4)) = true := by have h : ((L j).k == 2 || (L j).k == 4) = false := hpf; rw [h]; rfl
      have e4 : w64 ((lgS pSB L j).2 + (L j).w) = (lgS pSB L j).2 + (L j).w := w64_id (by omega) (by omega)
      refine rT_sem rowsG_ok noLoopsS ((rT_go rw1_f ?_).trans ?_)
      · simp only [Int.toNat_natCast, Nat.zero_add]
        repeat' (first | exact AllT.nil | refine AllT.cons ?_ ?_)
        all_goals first | (with_reducible rfl) | (with_reducible assumption) | exact decide_eq_true (by omega)
      · have e : lgS pSB L (j + 1) = (mxI ((lgS pSB L j).2 + (L j).w) (lgS pSB L j).1, (lgS pSB L j).2 + (L j).w) := by rw [lgS, hpf]; rfl
        simp only [Int.toNat_natCast, Nat.zero_add, h3, e, e4]
        rfl
theorem rows2_loop {own : Bool} {k n : Nat} {L : Nat → Gl} (hk : k ≤ n) (hk2 : k < 2 ^ 30) (hL : WOk L) :
    CodeSem rowsG 1 (.loop (bodyOf Try.f130 0)) (rwS2 own k n L 0 0 0) (.exit 0, rwS2 own k n L (lgS brk L k).1 (lgS brk L k).2 k) := by
  refine loop_of (fun i => rwS2 own k n L (lgS brk L i).1 (lgS brk L i).2 (i : Int)) k (by simp) ?_ fun j hj => ?_
  · exact rT_sem rowsG_ok noLoopsS (rT_go rw2_e ⟨by simp, trivial⟩)
  · have h3 := succ64 (j := j) (by omega)
    obtain ⟨b1, b2, b3, b4⟩ := lgS_b (p := brk) hL j
    have hw := hL j
    by_cases hp : brk (L j) = true
    · have hp' : ((L j).k == 4) = true := hp
      refine rT_sem rowsG_ok noLoopsS ((rT_go rw2_t ?_).trans ?_)
      · simp only [Int.toNat_natCast, Nat.zero_add]
        repeat' (first | exact AllT.nil | refine AllT.cons ?_ ?_)
        all_goals first | (with_reducible rfl) | (with_reducible assumption) | exact decide_eq_true (by omega)
      · have e : lgS brk L (j + 1) = ((lgS brk L j).1, 0) := by rw [lgS, hp]; rfl
        rw [h3, e]
        rfl
    · have hpf : brk (L j) = false := by simpa using hp
      have hp' : (!((L j).k == 4)) = true := by have h : ((L j).k == 4) = false := hpf; rw [h]; rfl
      have e4 : w64 ((lgS brk L j).2 + (L j).w) = (lgS brk L j).2 + (L j).w := w64_id (by omega) (by omega)
      refine rT_sem rowsG_ok noLoopsS ((rT_go rw2_f ?_).trans ?_)
      · simp only [Int.toNat_natCast, Nat.zero_add]
        repeat' (first | exact AllT.nil | refine AllT.cons ?_ ?_)
        all_goals first | (with_reducible rfl) | (with_reducible assumption) | exact decide_eq_true (by omega)
      · have e : lgS brk L (j + 1) = (mxI ((lgS brk L j).2 + (L j).w) (lgS brk L j).1, (lgS brk L j).2 + (L j).w) := by rw [lgS, hpf]; rfl
        simp only [Int.toNat_natCast, Nat.zero_add, h3, e, e4]
        rfl
noncomputable def rowsF : Spec := fun args h => match args, h with
  | [.c (.sl 0 0 k), .c (.v (.func (.func 131) ⟨[]⟩ ⟨[]⟩))], [some ⟨87, own, .row 4 n q⟩] =>
    .need (yes (k ≤ n ∧ k < 2 ^ 30 ∧ (q = fun j => encG (decG (q j))) ∧ WOk fun j => decG (q j))) (.ret (I64 (lgS pSB (fun j => decG (q j)) k).1, [some ⟨87, own, .row 4 n q⟩]))
  | [.c (.sl 0 0 k), .c (.v (.func (.func 132) ⟨[]⟩ ⟨[]⟩))], [some ⟨87, own, .row 4 n q⟩] =>
    .need (yes (k ≤ n ∧ k < 2 ^ 30 ∧ (q = fun j => encG (decG (q j))) ∧ WOk fun j => decG (q j))) (.ret (I64 (lgS brk (fun j => decG (q j)) k).1, [some ⟨87, own, .row 4 n q⟩]))
  | _, _ => .fail
theorem rowsF_ok : SpecOk Try.prog 130 rowsF := by
  refine knownS KB6_ok Try.func130 fun args h r he => ?_
  unfold rowsF at he
  split at he
  · rename_i k own n q
    obtain ⟨⟨h1, h2, h5, h6⟩, he⟩ := Tr.eval_ask.1 he
    cases he
    refine ⟨_, [], 60, _, tell_ok (rows1_loop (own := own) h1 h2 h6), ?_⟩
    have e1 : some ⟨87, own, .row 4 n q⟩ = rowGo own n fun j => decG (q j) := by rw [rowGo, ← h5]
    rw [e1]
    exact Tr.go_eval rw1_w ⟨yes_of ⟨rfl, rfl⟩, trivial⟩
  · rename_i k own n q
    obtain ⟨⟨h1, h2, h5, h6⟩, he⟩ := Tr.eval_ask.1 he
    cases he
    refine ⟨_, [], 60, _, tell_ok (rows2_loop (own := own) h1 h2 h6), ?_⟩
    have e1 : some ⟨87, own, .row 4 n q⟩ = rowGo own n fun j => decG (q j) := by rw [rowGo, ← h5]
    rw [e1]
    exact Tr.go_eval rw2_w ⟨yes_of ⟨rfl, rfl⟩, trivial⟩
  · cases he
theorem lon1_loop {own : Bool} {k n : Nat} {L : Nat → Gl} (hk : k ≤ n) (hk2 : k < 2 ^ 30) (hL : WOk L) :
    CodeSem lonG 1 (.loop (bodyOf Try.f133 0)) (lgSt own k n L true 0 0 0) (.exit 0, lgSt own k n L true (lgS pSB L k).1 (lgS pSB L k).2 k) := by
  refine loop_of (fun i => lgSt own k n L true (lgS pSB L i).1 (lgS pSB L i).2 (i : Int)) k (by simp) ?_ fun j hj => ?_
  · exact rT_sem lonG_ok noLoopsS (rT_go lg1_e ⟨by simp, trivial⟩)
  · have h3 := succ64 (j := j) (by omega)
    obtain ⟨b1, b2, b3, b4⟩ := lgS_b (p := pSB) hL j
    have hw := hL j
    have e5 : mxI 0 (lgS pSB L j).1 = (lgS pSB L j).1 := by rw [mxI_eq]; omega
    by_cases hb : ((L j).k == 4) = true
    · refine rT_sem lonG_ok noLoopsS ((rT_go lg1_b ?_).trans ?_)
      · simp only [Int.toNat_natCast, Nat.zero_add]
        repeat' (first | exact AllT.nil | refine AllT.cons ?_ ?_)
        all_goals first | (with_reducible rfl) | (with_reducible assumption) | exact decide_eq_true (by omega)
      · have e : lgS pSB L (j + 1) = ((lgS pSB L j).1, 0) := by
          have hp : pSB (L j) = true := by unfold pSB; rw [hb]; simp
          rw [lgS, hp]; rfl
        rw [h3, e, e5]
        rfl
    · have hbf : ((L j).k == 4) = false := by simpa using hb
      have hb' : (!((L j).k == 4)) = true := by rw [hbf]; rfl
      by_cases hs : ((L j).k == 2) = true
      · refine rT_sem lonG_ok noLoopsS ((rT_go lg1_s ?_).trans ?_)
        · simp only [Int.toNat_natCast, Nat.zero_add]
          repeat' (first | exact AllT.nil | refine AllT.cons ?_ ?_)
          all_goals first | (with_reducible rfl) | (with_reducible assumption) | exact decide_eq_true (by omega)
        · have e : lgS pSB L (j + 1) = ((lgS pSB L j).1, 0) := by
            have hp : pSB (L j) = true := by unfold pSB; rw [hs]; simp
            rw [lgS, hp]; rfl
          rw [h3, e, e5]
          rfl
      · have hsf : ((L j).k == 2) = false := by simpa using hs
        have hs' : (!((L j).k == 2)) = true := by rw [hsf]; rfl
        have e4 : w64 ((lgS pSB L j).2 + (L j).w) = (lgS pSB L j).2 + (L j).w := w64_id (by omega) (by omega)
        refine rT_sem lonG_ok noLoopsS ((rT_go lg1_n ?_).trans ?_)
        · simp only [Int.toNat_natCast, Nat.zero_add]
          repeat' (first | exact AllT.nil | refine AllT.cons ?_ ?_)
          all_goals first | (with_reducible rfl) | (with_reducible assumption) | exact decide_eq_true (by omega)
        · have e : lgS pSB L (j + 1) = (mxI ((lgS pSB L j).2 + (L j).w) (lgS pSB L j).1, (lgS pSB L j).2 + (L j).w) := by
            have hp : pSB (L j) = false := by unfold pSB; rw [hsf, hbf]; rfl
            rw [lgS, hp]; rfl
          simp only [Int.toNat_natCast, Nat.zero_add, h3, e, e4]
          rfl
theorem lon0_loop {own : Bool} {k n : Nat} {L : Nat → Gl} (hk : k ≤ n) (hk2 : k < 2 ^ 30) (hL : WOk L) :
    CodeSem lonG 1 (.loop (bodyOf Try.f133 0)) (lgSt own k n L false 0 0 0) (.exit 0, lgSt own k n L false (lgS brk L k).1 (lgS brk L k).2 k) := by
  refine loop_of (fun i => lgSt own k n L false (lgS brk L i).1 (lgS brk L i).2 (i : Int)) k (by simp) ?_ fun j hj => ?_
  · exact rT_sem lonG_ok noLoopsS (rT_go lg0_e ⟨by simp, trivial⟩)
  · have h3 := succ64 (j := j) (by omega)
    obtain ⟨b1, b2, b3, b4⟩ := lgS_b (p := brk) hL j
    have hw := hL j
    have e5 : mxI 0 (lgS brk L j).1 = (lgS brk L j).1 := by rw [mxI_eq]; omega
    by_cases hb : ((L j).k == 4) = true
    · refine rT_sem lonG_ok noLoopsS ((rT_go lg0_b ?_).trans ?_)
      · simp only [Int.toNat_natCast, Nat.zero_add]
        repeat' (first | exact AllT.nil | refine AllT.cons ?_ ?_)
        all_goals first | (with_reducible rfl) | (with_reducible assumption) | exact decide_eq_true (by omega)
      · have e : lgS brk L (j + 1) = ((lgS brk L j).1, 0) := by
          have hp : brk (L j) = true := hb
          rw [lgS, hp]; rfl
        rw [h3, e, e5]
        rfl
    · have hbf : ((L j).k == 4) = false := by simpa using hb
      have hb' : (!((L j).k == 4)) = true := by rw [hbf]; rfl
      have e4 : w64 ((lgS brk L j).2 + (L j).w) = (lgS brk L j).2 + (L j).w := w64_id (by omega) (by omega)
      refine rT_sem lonG_ok noLoopsS ((rT_go lg0_n ?_).trans ?_)
      · simp only [Int.toNat_natCast, Nat.zero_add]
        repeat' (first | exact AllT.nil | refine AllT.cons ?_ ?_)
        all_goals first | (with_reducible rfl) | (with_reducible assumption) | exact decide_eq_true (by omega)
      · have e : lgS brk L (j + 1) = (mxI ((lgS brk L j).2 + (L j).w) (lgS brk L j).1, (lgS brk L j).2 + (L j).w) := by
          have hp : brk (L j) = false := hbf
          rw [lgS, hp]; rfl
        simp only [Int.toNat_natCast, Nat.zero_add, h3, e, e4]
        rfl
noncomputable def lonF : Spec := fun args h => match args, h with
  | [.c (.sl 0 0 k), .c (.v (.bool true))], [some ⟨87, own, .row 4 n q⟩] =>
    .need (yes (k ≤ n ∧ k < 2 ^ 30 ∧ (q = fun j => encG (decG (q j))) ∧ WOk fun j => decG (q j))) (.ret (I64 (lgS pSB (fun j => decG (q j)) k).1, [some ⟨87, own, .row 4 n q⟩]))
  | [.c (.sl 0 0 k), .c (.v (.bool false))], [some ⟨87, own, .row 4 n q⟩] =>
    .need (yes (k ≤ n ∧ k < 2 ^ 30 ∧ (q = fun j => encG (decG (q j))) ∧ WOk fun j => decG (q j))) (.ret (I64 (lgS brk (fun j => decG (q j)) k).1, [some ⟨87, own, .row 4 n q⟩]))
  | _, _ => .fail
theorem lonF_ok : SpecOk Try.prog 133 lonF := by
  refine knownS nilK Try.func133 fun args h r he => ?_
  unfold lonF at he
  split at he
  · rename_i k own n q
    obtain ⟨⟨h1, h2, h5, h6⟩, he⟩ := Tr.eval_ask.1 he
    cases he
    refine ⟨_, [], 60, _, tell_ok (lon1_loop (own := own) h1 h2 h6), ?_⟩
    have e1 : some ⟨87, own, .row 4 n q⟩ = rowGo own n fun j => decG (q j) := by rw [rowGo, ← h5]
    rw [e1]
    exact Tr.go_eval lg1_w ⟨yes_of ⟨rfl, rfl⟩, trivial⟩
  · rename_i k own n q
    obtain ⟨⟨h1, h2, h5, h6⟩, he⟩ := Tr.eval_ask.1 he
    cases he
    refine ⟨_, [], 60, _, tell_ok (lon0_loop (own := own) h1 h2 h6), ?_⟩
    have e1 : some ⟨87, own, .row 4 n q⟩ = rowGo own n fun j => decG (q j) := by rw [rowGo, ← h5]
    rw [e1]
    exact Tr.go_eval lg0_w ⟨yes_of ⟨rfl, rfl⟩, trivial⟩
  · cases he
noncomputable def KB7 : Known := [(130, rowsF), (133, lonF)]
theorem KB7_ok : KnownOk KB7 := consK rowsF_ok (by kernel_rfl) (consK lonF_ok (by kernel_rfl) nilK)
noncomputable def leG : Ctx2 := GT KB7 (fun _ => []) 0 []
theorem le_w {own : Bool} {k n : Nat} {L : Nat → Gl} : (lfun leG nol 60 Try.f88 [.c (.sl 0 0 k)] [rowGo own n L]).go [] =
  some
    ([yes
          (k ≤ n ∧
            k < 2 ^ 30 ∧
              ((fun j => encG (L j)) = fun j => encG (decG (encG (L j)))) ∧ WOk fun j => decG (encG (L j)))],
      I64 (lgS pSB (fun j => decG (encG (L j))) k).fst,
      [some
          { t := 87, own := own,
            c :=
              Cont.row 4 n fun j =>
                [Value.int IntKind.i64 (L j).k, Value.int IntKind.i64 (L j).r, Value.int IntKind.i64 (L j).a,
                  Value.int IntKind.i64 (L j).w] }]) := by kernel_rfl
theorem mo_w {own : Bool} {k n : Nat} {L : Nat → Gl} : (lfun leG nol 60 Try.f89 [.c (.sl 0 0 k)] [rowGo own n L]).go [] =
  some
    ([yes
          (k ≤ n ∧
            k < 2 ^ 30 ∧
              ((fun j => encG (L j)) = fun j => encG (decG (encG (L j)))) ∧ WOk fun j => decG (encG (L j)))],
      I64 (lgS brk (fun j => decG (encG (L j))) k).fst,
      [some
          { t := 87, own := own,
            c :=
              Cont.row 4 n fun j =>
                [Value.int IntKind.i64 (L j).k, Value.int IntKind.i64 (L j).r, Value.int IntKind.i64 (L j).a,
                  Value.int IntKind.i64 (L j).w] }]) := by kernel_rfl
theorem rle_w {own : Bool} {k n : Nat} {L : Nat → Gl} : (lfun leG nol 60 Try.f94 [.c (.sl 0 0 k)] [rowGo own n L]).go [] =
  some
    ([yes
          (k ≤ n ∧
            k < 2 ^ 30 ∧
              ((fun j => encG (L j)) = fun j => encG (decG (encG (L j)))) ∧ WOk fun j => decG (encG (L j)))],
      I64 (lgS pSB (fun j => decG (encG (L j))) k).fst,
      [some
          { t := 87, own := own,
            c :=
              Cont.row 4 n fun j =>
                [Value.int IntKind.i64 (L j).k, Value.int IntKind.i64 (L j).r, Value.int IntKind.i64 (L j).a,
                  Value.int IntKind.i64 (L j).w] }]) := by kernel_rfl
theorem rmo_w {own : Bool} {k n : Nat} {L : Nat → Gl} : (lfun leG nol 60 Try.f95 [.c (.sl 0 0 k)] [rowGo own n L]).go [] =
  some
    ([yes
          (k ≤ n ∧
            k < 2 ^ 30 ∧
              ((fun j => encG (L j)) = fun j => encG (decG (encG (L j)))) ∧ WOk fun j => decG (encG (L j)))],
      I64 (lgS brk (fun j => decG (encG (L j))) k).fst,
      [some
          { t := 87, own := own,
            c :=
              Cont.row 4 n fun j =>
                [Value.int IntKind.i64 (L j).k, Value.int IntKind.i64 (L j).r, Value.int IntKind.i64 (L j).a,
                  Value.int IntKind.i64 (L j).w] }]) := by kernel_rfl
noncomputable def neF (p : Gl → Bool) : Spec := fun args h => match args, h with
  | [.c (.sl 0 0 k)], [some ⟨87, own, .row 4 n q⟩] =>
    .need (yes (k ≤ n ∧ k < 2 ^ 30 ∧ (q = fun j => encG (decG (q j))) ∧ WOk fun j => decG (q j))) (.ret (I64 (lgS p (fun j => decG (q j)) k).1, [some ⟨87, own, .row 4 n q⟩]))
  | _, _ => .fail
theorem ne_ok {f : Nat} {fn : Func} {p : Gl → Bool} (hf : Try.prog.funcs[f]? = some fn) (hw : ∀ own k n L, k ≤ n → k < 2 ^ 30 → WOk L → (lfun leG nol 60 fn [.c (.sl 0 0 k)] [rowGo own n L]).eval = some (I64 (lgS p L k).1, [rowGo own n L])) : SpecOk Try.prog f (neF p) := by
  refine knownS KB7_ok hf fun args h r he => ?_
  unfold neF at he
  split at he
  · rename_i k own n q
    obtain ⟨⟨h1, h2, h5, h6⟩, he⟩ := Tr.eval_ask.1 he
    cases he
    refine ⟨fun _ => [], [], 60, nol, noLoopsS, ?_⟩
    have e1 : some ⟨87, own, .row 4 n q⟩ = rowGo own n fun j => decG (q j) := by rw [rowGo, ← h5]
    rw [e1]
    exact hw own k n _ h1 h2 h6
  · cases he
theorem leF_ok : SpecOk Try.prog 88 (neF pSB) := ne_ok Try.func88 fun own k n L h1 h2 h3 => Tr.go_eval le_w ⟨yes_of ⟨h1, h2, rfl, h3⟩, trivial⟩
theorem moF_ok : SpecOk Try.prog 89 (neF brk) := ne_ok Try.func89 fun own k n L h1 h2 h3 => Tr.go_eval mo_w ⟨yes_of ⟨h1, h2, rfl, h3⟩, trivial⟩
theorem rleF_ok : SpecOk Try.prog 94 (neF pSB) := ne_ok Try.func94 fun own k n L h1 h2 h3 => Tr.go_eval rle_w ⟨yes_of ⟨h1, h2, rfl, h3⟩, trivial⟩
theorem rmoF_ok : SpecOk Try.prog 95 (neF brk) := ne_ok Try.func95 fun own k n L h1 h2 h3 => Tr.go_eval rmo_w ⟨yes_of ⟨h1, h2, rfl, h3⟩, trivial⟩
end Go.Proofs.Ytcpahifgdppkbaa.QAI
end
section
/- BrkTells: glyphs brought near, rows of lines; the walk. -/
set_option linter.unusedVariables false
set_option linter.unusedSimpArgs false
namespace Go.Proofs.Ytcpahifgdppkbaa.QAI
open Go Go.RowKit
set_option maxRecDepth 100000
def m200 (k : Nat) : Nat := if k ≤ 200 then k else 200
theorem m200_le (k : Nat) : m200 k ≤ 200 ∧ m200 k ≤ k := by unfold m200; split <;> omega
def tmGl (g : Gl) : Gl := ⟨w64 (and64 g.k 3 + 1), g.r, g.a, w64 ((u64 g.w).tmod 1048576)⟩
theorem tmGl_w (g : Gl) : 0 ≤ (tmGl g).w ∧ (tmGl g).w < 1048576 := by
  have e : (tmGl g).w = g.w % 1048576 := u64_mod 20 (by decide) g.w _ rfl
  rw [e]; omega
theorem tmGl_k (g : Gl) : 1 ≤ (tmGl g).k ∧ (tmGl g).k ≤ 4 := by
  have e2 : and64 g.k 3 = g.k % 4 := and_mask 2 (by decide) g.k 3 rfl
  have e : (tmGl g).k = g.k % 4 + 1 := by
    show w64 (and64 g.k 3 + 1) = _
    rw [e2, w64_id (by omega) (by omega)]
  rw [e]; omega
def tmGL (L : Nat → Gl) (m : Nat) : Nat → Gl := fun j => if j < m then tmGl (L j) else zGl
theorem tmGL_ok (L : Nat → Gl) (m : Nat) : WOk (tmGL L m) := by
  intro i
  unfold tmGL
  split
  · have := tmGl_w (L i); omega
  · simp [zGl]
theorem upd_tmGL (L : Nat → Gl) (i : Nat) : upd (fun j => encG (tmGL L i j)) i (encG (tmGl (L i))) = fun j => encG (tmGL L (i + 1) j) := by
  funext j
  unfold upd tmGL
  by_cases h : j = i
  · subst h; simp
  · by_cases h2 : j < i
    · simp [h, h2, Nat.lt_succ_of_lt h2]
    · have : ¬ j < i + 1 := by omega
      simp [h, h2, this]
theorem tgm_loop {own : Bool} {o k n : Nat} {L : Nat → Gl} (hn : o + k ≤ n) :
    CodeSem tgmG 1 (.loop (bodyOf Try.f91 0)) (tgS own o k n L 0 (fun _ => zGl) 0) (.exit 0, tgS own o k n L (m200 k) (tmGL (fun j => L (o + j)) (m200 k)) (m200 k)) := by
  obtain ⟨hm1, hm2⟩ := m200_le k
  refine loop_of (fun i => tgS own o k n L i (tmGL (fun j => L (o + j)) i) (i : Int)) (m200 k) (by simp) ?_ fun j hj => ?_
  · by_cases h : k ≤ 200
    · have e : m200 k = k := by simp [m200, h]
      rw [e]
      exact rT_sem tgmG_ok noLoopsS (rT_go tg_e1 ⟨by simp, rfl, rfl, rfl, trivial⟩)
    · have e : m200 k = 200 := by simp [m200, h]
      rw [e]
      exact rT_sem tgmG_ok noLoopsS (rT_go tg_e2 ⟨by simp; omega, rfl, rfl, by simp, trivial⟩)
  · have h3 := succ64 (j := j) (by omega)
    have hc := cells32 (n := j + 1) (by omega)
    refine rT_sem tgmG_ok noLoopsS ((rT_go tg_go ?_).trans ?_)
    · simp only [Int.toNat_natCast]
      repeat' (first | exact AllT.nil | refine AllT.cons ?_ ?_)
      all_goals first | (with_reducible rfl) | (with_reducible assumption) | exact decide_eq_true (by omega) | exact decide_eq_true trivial
    · simp only [Int.toNat_natCast, h3]
      refine Eq.trans (b := some (Ex.normal, (⟨slots 36 [(0, .c (.sl 0 o k)), (3, .c (.sl 1 0 (j + 1))), (4, I64 ((j + 1 : Nat) : Int))], [rowGo own n L, some ⟨87, true, .row 4 (j + 1) (upd (fun q => encG (tmGL (fun j => L (o + j)) j q)) j (encG (tmGl (L (o + j)))))⟩]⟩ : St))) rfl ?_
      rw [upd_tmGL (fun j => L (o + j)) j]
      rfl
noncomputable def tmGF : Spec := fun args h => match args, h with
  | [.c (.sl 0 o k)], [some ⟨87, own, .row 4 n q⟩] =>
    .need (yes (o + k ≤ n ∧ q = fun j => encG (decG (q j)))) (.ret (.c (.sl 1 0 (m200 k)), [some ⟨87, own, .row 4 n q⟩, rowGl (m200 k) (tmGL (fun j => decG (q (o + j))) (m200 k))]))
  | _, _ => .fail
theorem tmGF_ok : SpecOk Try.prog 91 tmGF := by
  refine knownS nilK Try.func91 fun args h r he => ?_
  unfold tmGF at he
  split at he
  · rename_i o k own n q
    obtain ⟨⟨h1, h2⟩, he⟩ := Tr.eval_ask.1 he
    cases he
    refine ⟨_, [], 60, _, tell_ok (tgm_loop (own := own) (L := fun j => decG (q j)) h1), ?_⟩
    have e1 : some ⟨87, own, .row 4 n q⟩ = rowGo own n fun j => decG (q j) := by rw [rowGo, ← h2]
    rw [e1]
    exact Tr.go_eval tg_w ⟨yes_of ⟨rfl, rfl⟩, trivial⟩
  · cases he
theorem sp_loop {own own' : Bool} {k n n' : Nat} {S S' : Nat → Sp} (hn : k ≤ n) (hn' : k ≤ n') (hk : k < 2 ^ 40) (h : ∀ i, i < k → S i = S' i) :
    CodeSem spnG 2 (.loop (bodyOf Try.f92 0)) (spS own own' k n n' S S' 0) (.exit 0, spS own own' k n n' S S' k) := by
  refine loop_of (fun i => spS own own' k n n' S S' (i : Int)) k (by simp) ?_ fun j hj => ?_
  · exact rT_sem spnG_ok noLoopsS (rT_go sp_ex ⟨by simp, trivial⟩)
  · have h3 := succ64 (j := j) (by omega)
    refine rT_sem spnG_ok noLoopsS ((rT_go sp_go ?_).trans ?_)
    · simp only [Int.toNat_natCast, Nat.zero_add, h j hj]
      repeat' (first | exact AllT.nil | refine AllT.cons ?_ ?_)
      all_goals first | (with_reducible rfl) | exact decide_eq_true (by omega) | simp
    · rw [h3]
      rfl
noncomputable def sameSp : Spec := fun args h => match args, h with
  | [.c (.sl 0 0 k), .c (.sl 1 0 k')], [some ⟨98, own, .row 3 n q⟩, some ⟨98, own', .row 3 n' q'⟩] =>
    .need (yes (k' = k ∧ k ≤ n ∧ k ≤ n' ∧ k < 2 ^ 40 ∧ (q = fun j => encP (decP (q j))) ∧ (q' = fun j => encP (decP (q' j))) ∧ ∀ i, i < k → decP (q i) = decP (q' i)))
      (.ret (Bo true, [some ⟨98, own, .row 3 n q⟩, some ⟨98, own', .row 3 n' q'⟩]))
  | _, _ => .fail
theorem sameSp_ok : SpecOk Try.prog 92 sameSp := by
  refine knownS nilK Try.func92 fun args h r he => ?_
  unfold sameSp at he
  split at he
  · rename_i k k' own n q own' n' q'
    obtain ⟨⟨h0, h1, h2, h3, h4, h5, h6⟩, he2⟩ := Tr.eval_ask.1 he
    clear he
    cases he2
    subst h0
    refine ⟨_, [], 60, _, tell_ok (sp_loop (own := own) (own' := own') (S := fun j => decP (q j)) (S' := fun j => decP (q' j)) h1 h2 h3 h6), ?_⟩
    have e1 : some ⟨98, own, .row 3 n q⟩ = rowSo own n fun j => decP (q j) := by rw [rowSo, ← h4]
    have e2 : some ⟨98, own', .row 3 n' q'⟩ = rowSo own' n' fun j => decP (q' j) := by rw [rowSo, ← h5]
    rw [e1, e2]
    refine Tr.go_eval sp_w ?_
    repeat' (first | exact AllT.nil | refine AllT.cons ?_ ?_)
    all_goals first | exact yes_of ⟨rfl, rfl⟩ | rfl | (simp; done)
  · cases he
noncomputable def KBT : Known := [(46, tmF2), (81, rnF), (86, glF), (87, linesF), (88, neF pSB), (89, neF brk), (90, sAwakeT), (91, tmGF), (92, sameSp), (93, linesF), (94, neF pSB), (95, neF brk)]
theorem KBT_ok : KnownOk KBT := consK tmF2_ok (by kernel_rfl) (consK rnF_ok (by kernel_rfl) (consK rgF_ok (by kernel_rfl) (consK linesF_ok (by kernel_rfl) (consK leF_ok (by kernel_rfl) (consK moF_ok (by kernel_rfl) (consK awake11_ok (by kernel_rfl) (consK tmGF_ok (by kernel_rfl) (consK sameSp_ok (by kernel_rfl) (consK rlinesF_ok (by kernel_rfl) (consK rleF_ok (by kernel_rfl) (consK rmoF_ok (by kernel_rfl) nilK)))))))))))
abbrev btK : List (Nat × Option TypeId) := [(2,none),(3,none),(5,none),(9,none),(10,none)]
noncomputable def btG : Ctx2 := GT KBT (fun k => if k = 4 then btK else []) 0 []
theorem btG_ok : XOk btG := GT_ok KBT_ok _ _ _
def btS (k : Nat) (R : Nat → Gl) (K : Nat) (g : Nat → Int) (a : Nat → Int) (A : Int) (na : Nat) (L : Nat → Gl) (i : Int) : St :=
  ⟨slots 49 [(2, .c (.sl 1 0 K)), (3, I64 A), (5, .c (.ptr 2 0 0)), (9, .c (.sl 3 0 na)), (10, I64 i)], [rowGo false k R, rowJ false K g, rowA a, rowGl na L]⟩
theorem bt_go {k : Nat} {R : Nat → Gl} {K : Nat} {g a : Nat → Int} {A : Int} {na : Nat} {L : Nat → Gl} {i : Int} : (rT btG nol 2 53 (bodyOf Try.f28 0) btK btK (btS k R K g a A na L i)).go [true, true, true, true, false, false, true, false, false, true, false, false, false, false, true, false, false, true, false, false, false] =
  some
    ([decide (i < (2 : Int)),
        yes
          (na ≤ na ∧
            na < 2 ^ 30 ∧
              ((fun j => encG (L j)) = fun j => encG (decG (encG (L j)))) ∧ WOk fun j => decG (encG (L j))),
        yes
          (na ≤ na ∧
            na < 2 ^ 30 ∧
              ((fun j => encG (L j)) = fun j => encG (decG (encG (L j)))) ∧ WOk fun j => decG (encG (L j))),
        yes
          (lnC na (fun j => decG (encG (L j))) A = lnC na (fun j => decG (encG (L j))) A ∧
            lnC na (fun j => decG (encG (L j))) A ≤ lnC na (fun j => decG (encG (L j))) A ∧
              lnC na (fun j => decG (encG (L j))) A ≤ lnC na (fun j => decG (encG (L j))) A ∧
                lnC na (fun j => decG (encG (L j))) A < 2 ^ 40 ∧
                  ((fun j => encP (spAt (lns na (fun j => decG (encG (L j))) A) j)) = fun j =>
                      encP (decP (encP (spAt (lns na (fun j => decG (encG (L j))) A) j)))) ∧
                    ((fun j => encP (spAt (lns na (fun j => decG (encG (L j))) A) j)) = fun j =>
                        encP (decP (encP (spAt (lns na (fun j => decG (encG (L j))) A) j)))) ∧
                      ∀ (i : Nat),
                        i < lnC na (fun j => decG (encG (L j))) A →
                          decP (encP (spAt (lns na (fun j => decG (encG (L j))) A) i)) =
                            decP (encP (spAt (lns na (fun j => decG (encG (L j))) A) i))),
        true, true,
        yes
          (na ≤ na ∧
            na < 2 ^ 30 ∧
              ((fun j => encG (L j)) = fun j => encG (decG (encG (L j)))) ∧ WOk fun j => decG (encG (L j))),
        true, true,
        yes
          (na ≤ na ∧
            na < 2 ^ 30 ∧
              ((fun j => encG (L j)) = fun j => encG (decG (encG (L j)))) ∧ WOk fun j => decG (encG (L j))),
        true, true, !(lgS pSB (fun j => decG (encG (L j))) na).fst != (lgS pSB (fun j => decG (encG (L j))) na).fst,
        true,
        yes
          (na ≤ na ∧
            na < 2 ^ 30 ∧
              ((fun j => encG (L j)) = fun j => encG (decG (encG (L j)))) ∧ WOk fun j => decG (encG (L j))),
        true, true,
        yes
          (na ≤ na ∧
            na < 2 ^ 30 ∧
              ((fun j => encG (L j)) = fun j => encG (decG (encG (L j)))) ∧ WOk fun j => decG (encG (L j))),
        true, true, !(lgS brk (fun j => decG (encG (L j))) na).fst != (lgS brk (fun j => decG (encG (L j))) na).fst,
        true, yes ((fun k => (v1 (a k)).headD undef) = fun k => Value.int IntKind.i64 (dv ((v1 (a k)).headD undef))),
        yes (0 + K ≤ K ∧ (fun j => v1 (g j)) = fun j => v1 (vd (v1 (g j)))),
        yes
          (0 + m12 K ≤ m12 K ∧
            m12 K < 2 ^ 40 ∧
              lenR (fun i => decN (encN (runsL (fun j => vd (v1 (g (0 + j)))) (m12 K) (0 + i))))
                    (m12 K) <
                  2 ^ 39 ∧
                ((fun k => Value.int IntKind.i64 (tz (fun k => dv ((v1 (a k)).headD undef)) k)) = fun k =>
                    Value.int IntKind.i64 (tz (fun k => dv ((v1 (a k)).headD undef)) k)) ∧
                  (fun j => encN (runsL (fun j => vd (v1 (g (0 + j)))) (m12 K) j)) = fun j =>
                    encN (decN (encN (runsL (fun j => vd (v1 (g (0 + j)))) (m12 K) j))))],
      Ex.normal,
      {
        sl :=
          slots 49
            [(2, AV.c (AC.sl 1 0 K)), (3, I64 (and64 A (4095 : Int))),
              (5, AV.c (AC.ptr 2 0 0)),
              (9,
                AV.c
                  (AC.sl 3 0
                    (glyphs (Mt fun k => tz (fun k => dv ((v1 (a k)).headD undef)) k)
                        (fun i => decN (encN (runsL (fun j => vd (v1 (g (0 + j)))) (m12 K) (0 + i))))
                        (m12 K)).length)),
              (10, I64 (w64 (i + (1 : Int))))],
        h :=
          [some
              { t := 87, own := false,
                c :=
                  Cont.row 4 k fun j =>
                    [Value.int IntKind.i64 (R j).k, Value.int IntKind.i64 (R j).r, Value.int IntKind.i64 (R j).a,
                      Value.int IntKind.i64 (R j).w] },
            some { t := 2, own := false, c := Cont.row 1 K fun j => [Value.int IntKind.i64 (g j)] },
            some
              { t := 35, own := true,
                c := Cont.row 1 256 fun k => [Value.int IntKind.i64 (a k)] },
            some
              { t := 87, own := true,
                c :=
                  Cont.row 4
                    (glyphs (Mt fun k => tz (fun k => dv ((v1 (a k)).headD undef)) k)
                        (fun i => decN (encN (runsL (fun j => vd (v1 (g (0 + j)))) (m12 K) (0 + i))))
                        (m12 K)).length
                    fun j =>
                    [Value.int IntKind.i64
                        (at_
                            (glyphs (Mt fun k => tz (fun k => dv ((v1 (a k)).headD undef)) k)
                              (fun i =>
                                decN (encN (runsL (fun j => vd (v1 (g (0 + j)))) (m12 K) (0 + i))))
                              (m12 K))
                            j).k,
                      Value.int IntKind.i64
                        (at_
                            (glyphs (Mt fun k => tz (fun k => dv ((v1 (a k)).headD undef)) k)
                              (fun i =>
                                decN (encN (runsL (fun j => vd (v1 (g (0 + j)))) (m12 K) (0 + i))))
                              (m12 K))
                            j).r,
                      Value.int IntKind.i64
                        (at_
                            (glyphs (Mt fun k => tz (fun k => dv ((v1 (a k)).headD undef)) k)
                              (fun i =>
                                decN (encN (runsL (fun j => vd (v1 (g (0 + j)))) (m12 K) (0 + i))))
                              (m12 K))
                            j).a,
                      Value.int IntKind.i64
                        (at_
                            (glyphs (Mt fun k => tz (fun k => dv ((v1 (a k)).headD undef)) k)
                              (fun i =>
                                decN (encN (runsL (fun j => vd (v1 (g (0 + j)))) (m12 K) (0 + i))))
                              (m12 K))
                            j).w] }] }) := by kernel_rfl
end Go.Proofs.Ytcpahifgdppkbaa.QAI
end
section
/- WhitHolds: the walk. -/
set_option linter.unusedVariables false
set_option linter.unusedSimpArgs false
namespace Go.Proofs.Ytcpahifgdppkbaa.QAI
open Go Go.RowKit
set_option maxRecDepth 100000
abbrev haK : List (Nat × Option TypeId) := [(2,none),(5,none),(6,none)]
abbrev hbK : List (Nat × Option TypeId) := [(2,none),(5,none),(7,none),(8,none)]
abbrev hcK : List (Nat × Option TypeId) := [(7,none),(9,none),(10,none)]
noncomputable def hoG : Ctx2 := GT KWT (fun k => if k = 4 then haK else if k = 9 then hbK else if k = 16 then hcK else []) 0 []
theorem hoG_ok : XOk hoG := GT_ok KWT_ok _ _ _
def haS (K : Nat) (g : Nat → Int) (a : Nat → Int) (m : Nat) (Q : Nat → Rn) (i : Int) : St := ⟨slots 68 [(2, .c (.ptr 1 0 0)), (5, .c (.sl 2 0 m)), (6, I64 i)], [rowJ false K g, rowA a, rowRn true m Q]⟩
def hbS (K : Nat) (g : Nat → Int) (a : Nat → Int) (m : Nat) (Q : Nat → Rn) (na : Nat) (L : Nat → Gl) (i : Int) : St := ⟨slots 68 [(2, .c (.ptr 1 0 0)), (5, .c (.sl 2 0 m)), (7, .c (.sl 3 0 na)), (8, I64 i)], [rowJ false K g, rowA a, rowRn true m Q, rowGl na L]⟩
def hcS (K : Nat) (g : Nat → Int) (na : Nat) (L : Nat → Gl) (nb : Nat) (L' : Nat → Gl) (i : Int) : St := ⟨slots 68 [(7, .c (.sl 1 0 na)), (9, .c (.sl 2 0 nb)), (10, I64 i)], [rowJ false K g, rowGl na L, rowGl nb L']⟩
theorem ha_go {K : Nat} {g : Nat → Int} {a : Nat → Int} {m : Nat} {Q : Nat → Rn} {i : Int} : (rT hoG nol 1 53 (bodyOf Try.f22 0) haK haK (haS K g a m Q i)).go [] =
  some
    ([decide (i < ((m : Nat) : Int)), decide ((0 : Int) ≤ i), decide (i < ((m : Nat) : Int)), decide (0 + i.toNat < m)], Ex.normal,
      {
        sl :=
          slots 68
            [(2, AV.c (AC.ptr 1 0 0)), (5, AV.c (AC.sl 2 0 m)),
              (6, I64 (w64 (i + (1 : Int))))],
        h :=
          [some { t := 2, own := false, c := Cont.row 1 K fun j => [Value.int IntKind.i64 (g j)] },
            some
              { t := 35, own := true,
                c := Cont.row 1 256 fun k => [Value.int IntKind.i64 (a k)] },
            some
              { t := 83, own := true,
                c :=
                  Cont.row 4 m fun k =>
                    [Value.int IntKind.i64
                        (bif decide (k = 0 + i.toNat) then (Q (0 + i.toNat)).n else (Q k).n),
                      bif decide (k = 0 + i.toNat) then Value.string (Q (0 + i.toNat)).s
                      else Value.string (Q k).s,
                      Value.int IntKind.i64 (bif decide (k = 0 + i.toNat) then (0 : Int) else (Q k).v),
                      Value.int IntKind.i64
                        (bif decide (k = 0 + i.toNat) then (Q (0 + i.toNat)).l else (Q k).l)] }] }) := by kernel_rfl
theorem ha_ex {K : Nat} {g : Nat → Int} {a : Nat → Int} {m : Nat} {Q : Nat → Rn} {i : Int} : (rT hoG nol 1 53 (bodyOf Try.f22 0) haK haK (haS K g a m Q i)).go [false] =
  some
    ([!decide (i < ((m : Nat) : Int))], Ex.exit 0,
      {
        sl :=
          slots 68
            [(2, AV.c (AC.ptr 1 0 0)), (5, AV.c (AC.sl 2 0 m)),
              (6, I64 i)],
        h :=
          [some { t := 2, own := false, c := Cont.row 1 K fun j => [Value.int IntKind.i64 (g j)] },
            some
              { t := 35, own := true,
                c := Cont.row 1 256 fun k => [Value.int IntKind.i64 (a k)] },
            some
              { t := 83, own := true,
                c :=
                  Cont.row 4 m fun j =>
                    [Value.int IntKind.i64 (Q j).n, Value.string (Q j).s, Value.int IntKind.i64 (Q j).v,
                      Value.int IntKind.i64 (Q j).l] }] }) := by kernel_rfl
theorem hb_go {K : Nat} {g : Nat → Int} {a : Nat → Int} {m : Nat} {Q : Nat → Rn} {na : Nat} {L : Nat → Gl} {i : Int} : (rT hoG nol 1 51 (bodyOf Try.f22 1) hbK hbK (hbS K g a m Q na L i)).go [] =
  some
    ([decide (i < ((m : Nat) : Int)), decide ((0 : Int) ≤ i), decide (i < ((m : Nat) : Int)), decide (0 + i.toNat < m)], Ex.normal,
      {
        sl :=
          slots 68
            [(2, AV.c (AC.ptr 1 0 0)), (5, AV.c (AC.sl 2 0 m)),
              (7, AV.c (AC.sl 3 0 na)), (8, I64 (w64 (i + (1 : Int))))],
        h :=
          [some { t := 2, own := false, c := Cont.row 1 K fun j => [Value.int IntKind.i64 (g j)] },
            some
              { t := 35, own := true,
                c := Cont.row 1 256 fun k => [Value.int IntKind.i64 (a k)] },
            some
              { t := 83, own := true,
                c :=
                  Cont.row 4 m fun k =>
                    [Value.int IntKind.i64
                        (bif decide (k = 0 + i.toNat) then (Q (0 + i.toNat)).n else (Q k).n),
                      bif decide (k = 0 + i.toNat) then Value.string (Q (0 + i.toNat)).s
                      else Value.string (Q k).s,
                      Value.int IntKind.i64 (bif decide (k = 0 + i.toNat) then (1 : Int) else (Q k).v),
                      Value.int IntKind.i64
                        (bif decide (k = 0 + i.toNat) then (Q (0 + i.toNat)).l else (Q k).l)] },
            some
              { t := 87, own := true,
                c :=
                  Cont.row 4 na fun j =>
                    [Value.int IntKind.i64 (L j).k, Value.int IntKind.i64 (L j).r, Value.int IntKind.i64 (L j).a,
                      Value.int IntKind.i64 (L j).w] }] }) := by kernel_rfl
theorem hb_ex {K : Nat} {g : Nat → Int} {a : Nat → Int} {m : Nat} {Q : Nat → Rn} {na : Nat} {L : Nat → Gl} {i : Int} : (rT hoG nol 1 51 (bodyOf Try.f22 1) hbK hbK (hbS K g a m Q na L i)).go [false] =
  some
    ([!decide (i < ((m : Nat) : Int))], Ex.exit 2,
      {
        sl :=
          slots 68
            [(2, AV.c (AC.ptr 1 0 0)), (5, AV.c (AC.sl 2 0 m)),
              (7, AV.c (AC.sl 3 0 na)), (8, I64 i)],
        h :=
          [some { t := 2, own := false, c := Cont.row 1 K fun j => [Value.int IntKind.i64 (g j)] },
            some
              { t := 35, own := true,
                c := Cont.row 1 256 fun k => [Value.int IntKind.i64 (a k)] },
            some
              { t := 83, own := true,
                c :=
                  Cont.row 4 m fun j =>
                    [Value.int IntKind.i64 (Q j).n, Value.string (Q j).s, Value.int IntKind.i64 (Q j).v,
                      Value.int IntKind.i64 (Q j).l] },
            some
              { t := 87, own := true,
                c :=
                  Cont.row 4 na fun j =>
                    [Value.int IntKind.i64 (L j).k, Value.int IntKind.i64 (L j).r, Value.int IntKind.i64 (L j).a,
                      Value.int IntKind.i64 (L j).w] }] }) := by kernel_rfl
theorem hc_t {K : Nat} {g : Nat → Int} {na : Nat} {L : Nat → Gl} {nb : Nat} {L' : Nat → Gl} {i : Int} : (rT hoG nol 1 48 (bodyOf Try.f22 2) hcK hcK (hcS K g na L nb L' i)).go [true, true, true, true, true, true, true, true, false] =
  some
    ([decide (i < ((na : Nat) : Int)), decide ((0 : Int) ≤ i), decide (i < ((na : Nat) : Int)), decide (0 + i.toNat < na),
        (L (0 + i.toNat)).k == (2 : Int), decide ((0 : Int) ≤ i), decide (i < ((nb : Nat) : Int)),
        decide (0 + i.toNat < nb),
        !!((L' (0 + i.toNat)).k == (3 : Int) &&
              ((L' (0 + i.toNat)).r == (L (0 + i.toNat)).r &&
                ((L' (0 + i.toNat)).a == (L (0 + i.toNat)).a &&
                  ((L' (0 + i.toNat)).w == (L (0 + i.toNat)).w && true))))],
      Ex.normal,
      {
        sl :=
          slots 68
            [(7, AV.c (AC.sl 1 0 na)), (9, AV.c (AC.sl 2 0 nb)),
              (10, I64 (w64 (i + (1 : Int))))],
        h :=
          [some { t := 2, own := false, c := Cont.row 1 K fun j => [Value.int IntKind.i64 (g j)] },
            some
              { t := 87, own := true,
                c :=
                  Cont.row 4 na fun j =>
                    [Value.int IntKind.i64 (L j).k, Value.int IntKind.i64 (L j).r, Value.int IntKind.i64 (L j).a,
                      Value.int IntKind.i64 (L j).w] },
            some
              { t := 87, own := true,
                c :=
                  Cont.row 4 nb fun j =>
                    [Value.int IntKind.i64 (L' j).k, Value.int IntKind.i64 (L' j).r, Value.int IntKind.i64 (L' j).a,
                      Value.int IntKind.i64 (L' j).w] }] }) := by kernel_rfl
theorem hc_f {K : Nat} {g : Nat → Int} {na : Nat} {L : Nat → Gl} {nb : Nat} {L' : Nat → Gl} {i : Int} : (rT hoG nol 1 48 (bodyOf Try.f22 2) hcK hcK (hcS K g na L nb L' i)).go [true, true, true, true, false, true, true, true, false] =
  some
    ([decide (i < ((na : Nat) : Int)), decide ((0 : Int) ≤ i), decide (i < ((na : Nat) : Int)), decide (0 + i.toNat < na),
        !(L (0 + i.toNat)).k == (2 : Int), decide ((0 : Int) ≤ i), decide (i < ((nb : Nat) : Int)),
        decide (0 + i.toNat < nb),
        !!((L' (0 + i.toNat)).k == (L (0 + i.toNat)).k &&
              ((L' (0 + i.toNat)).r == (L (0 + i.toNat)).r &&
                ((L' (0 + i.toNat)).a == (L (0 + i.toNat)).a &&
                  ((L' (0 + i.toNat)).w == (L (0 + i.toNat)).w && true))))],
      Ex.normal,
      {
        sl :=
          slots 68
            [(7, AV.c (AC.sl 1 0 na)), (9, AV.c (AC.sl 2 0 nb)),
              (10, I64 (w64 (i + (1 : Int))))],
        h :=
          [some { t := 2, own := false, c := Cont.row 1 K fun j => [Value.int IntKind.i64 (g j)] },
            some
              { t := 87, own := true,
                c :=
                  Cont.row 4 na fun j =>
                    [Value.int IntKind.i64 (L j).k, Value.int IntKind.i64 (L j).r, Value.int IntKind.i64 (L j).a,
                      Value.int IntKind.i64 (L j).w] },
            some
              { t := 87, own := true,
                c :=
                  Cont.row 4 nb fun j =>
                    [Value.int IntKind.i64 (L' j).k, Value.int IntKind.i64 (L' j).r, Value.int IntKind.i64 (L' j).a,
                      Value.int IntKind.i64 (L' j).w] }] }) := by kernel_rfl
theorem hc_ex {K : Nat} {g : Nat → Int} {na : Nat} {L : Nat → Gl} {nb : Nat} {L' : Nat → Gl} {i : Int} : (rT hoG nol 1 48 (bodyOf Try.f22 2) hcK hcK (hcS K g na L nb L' i)).go [false] =
  some
    ([!decide (i < ((na : Nat) : Int))], Ex.exit 4,
      {
        sl :=
          slots 68
            [(7, AV.c (AC.sl 1 0 na)), (9, AV.c (AC.sl 2 0 nb)),
              (10, I64 i)],
        h :=
          [some { t := 2, own := false, c := Cont.row 1 K fun j => [Value.int IntKind.i64 (g j)] },
            some
              { t := 87, own := true,
                c :=
                  Cont.row 4 na fun j =>
                    [Value.int IntKind.i64 (L j).k, Value.int IntKind.i64 (L j).r, Value.int IntKind.i64 (L j).a,
                      Value.int IntKind.i64 (L j).w] },
            some
              { t := 87, own := true,
                c :=
                  Cont.row 4 nb fun j =>
                    [Value.int IntKind.i64 (L' j).k, Value.int IntKind.i64 (L' j).r, Value.int IntKind.i64 (L' j).a,
                      Value.int IntKind.i64 (L' j).w] }] }) := by kernel_rfl
def setN (Q : Nat → Rn) (z : Int) (i : Nat) : Nat → Rn := fun j => if j < i then ⟨(Q j).n, (Q j).s, z, (Q j).l⟩ else Q j
def hoA (a : Nat → Int) (m : Nat) (Q : Nat → Rn) : List Gl := glyphs (Mt fun k => dv ((v1 (tz a k)).headD undef)) (fun i => decN (encN (setN Q 0 m (0 + i)))) m
def hoB (a : Nat → Int) (m : Nat) (Q : Nat → Rn) : List Gl := glyphs (Mt fun k => dv ((v1 (tz a k)).headD undef)) (fun i => decN (encN (setN (setN Q 0 m) 1 m (0 + i)))) m
noncomputable def hoL (K : Nat) (g : Nat → Int) (a : Nat → Int) (m : Nat) (Q : Nat → Rn) : Loops :=
  byReg 4 (tell (bodyOf Try.f22 0) (haS K g (tz a) m Q 0) (.exit 0, haS K g (tz a) m (setN Q 0 m) m))
    (byReg 9 (tell (bodyOf Try.f22 1) (hbS K g (tz a) m (setN Q 0 m) (hoA a m Q).length (at_ (hoA a m Q)) 0) (.exit 2, hbS K g (tz a) m (setN (setN Q 0 m) 1 m) (hoA a m Q).length (at_ (hoA a m Q)) m))
      (tell (bodyOf Try.f22 2) (hcS K g (hoA a m Q).length (at_ (hoA a m Q)) (hoB a m Q).length (at_ (hoB a m Q)) 0) (.exit 4, hcS K g (hoA a m Q).length (at_ (hoA a m Q)) (hoB a m Q).length (at_ (hoB a m Q)) (hoA a m Q).length)))
theorem ho_w {K : Nat} {g : Nat → Int} {a : Nat → Int} : (lfun hoG (hoL K g a (m12 K) (runsL (fun j => g (0 + j)) (m12 K))) 60 Try.f22 [aA a, .c (.sl 0 0 K)] [rowJ false K g]).go [true, true, true, true, true, true, true, true, true, false] =
  some
    ([true, yes ((fun k => Value.int IntKind.i64 (a k)) = fun k => Value.int IntKind.i64 (a k)),
        yes (0 + K ≤ K ∧ (fun j => v1 (g j)) = fun j => v1 (vd (v1 (g j)))), yes (wasS (bodyOf Try.f22 0) (haS K g (tz a) (m12 K) (runsL (fun j => g (0 + j)) (m12 K)) 0)), true,
        yes
          (0 + m12 K ≤ m12 K ∧
            m12 K < 2 ^ 40 ∧
              lenR
                    (fun i =>
                      decN (encN (setN (runsL (fun j => g (0 + j)) (m12 K)) (0 : Int) (m12 K) (0 + i))))
                    (m12 K) <
                  2 ^ 39 ∧
                ((fun k => (v1 (tz a k)).headD undef) = fun k =>
                    Value.int IntKind.i64 (dv ((v1 (tz a k)).headD undef))) ∧
                  (fun j => encN (setN (runsL (fun j => g (0 + j)) (m12 K)) (0 : Int) (m12 K) j)) = fun j =>
                    encN (decN (encN (setN (runsL (fun j => g (0 + j)) (m12 K)) (0 : Int) (m12 K) j)))),
        yes (wasS (bodyOf Try.f22 1) (hbS K g (tz a) (m12 K) (setN (runsL (fun j => g (0 + j)) (m12 K)) 0 (m12 K)) (hoA a (m12 K) (runsL (fun j => g (0 + j)) (m12 K))).length (at_ (hoA a (m12 K) (runsL (fun j => g (0 + j)) (m12 K)))) 0)), true,
        yes
          (0 + m12 K ≤ m12 K ∧
            m12 K < 2 ^ 40 ∧
              lenR
                    (fun i =>
                      decN
                        (encN
                          (setN (setN (runsL (fun j => g (0 + j)) (m12 K)) (0 : Int) (m12 K)) (1 : Int) (m12 K)
                            (0 + i))))
                    (m12 K) <
                  2 ^ 39 ∧
                ((fun k => (v1 (tz a k)).headD undef) = fun k =>
                    Value.int IntKind.i64 (dv ((v1 (tz a k)).headD undef))) ∧
                  (fun j =>
                      encN
                        (setN (setN (runsL (fun j => g (0 + j)) (m12 K)) (0 : Int) (m12 K)) (1 : Int) (m12 K)
                          j)) =
                    fun j =>
                    encN
                      (decN
                        (encN
                          (setN (setN (runsL (fun j => g (0 + j)) (m12 K)) (0 : Int) (m12 K)) (1 : Int) (m12 K)
                            j)))),
        !(((hoA a (m12 K) (runsL (fun j => g (0 + j)) (m12 K))).length : Nat) : Int) !=
            (((glyphs (Mt fun k => dv ((v1 (tz a k)).headD undef))
                  (fun i =>
                    decN
                      (encN
                        (setN (setN (runsL (fun j => g (0 + j)) (m12 K)) (0 : Int) (m12 K)) (1 : Int) (m12 K)
                          (0 + i))))
                  (m12 K)).length : Nat) : Int),
        yes (wasS (bodyOf Try.f22 2) (hcS K g (hoA a (m12 K) (runsL (fun j => g (0 + j)) (m12 K))).length (at_ (hoA a (m12 K) (runsL (fun j => g (0 + j)) (m12 K)))) (hoB a (m12 K) (runsL (fun j => g (0 + j)) (m12 K))).length (at_ (hoB a (m12 K) (runsL (fun j => g (0 + j)) (m12 K)))) 0))],
      Bo true,
      [some { t := 2, own := false, c := Cont.row 1 K fun j => [Value.int IntKind.i64 (g j)] }]) := by kernel_rfl
end Go.Proofs.Ytcpahifgdppkbaa.QAI
end
section
/- WhitHolds: what is asked on the way holds. -/
set_option linter.unusedVariables false
set_option linter.unusedSimpArgs false
namespace Go.Proofs.Ytcpahifgdppkbaa.QAI
open Go Go.RowKit
set_option maxRecDepth 100000
theorem updC_eq (f : Nat → List Value) (n : Nat) (x : List Value) : updC f n x = fun k => if k = n then x else f k := by
  funext k
  unfold updC
  rw [selL_eq]
  by_cases h : k = n <;> simp [h]
theorem setN_step (Q : Nat → Rn) (z : Int) (i : Nat) : updC (fun j => encN (setN Q z i j)) i (splice (encN (setN Q z i i)) 2 [.int .i64 z]) = fun j => encN (setN Q z (i + 1) j) := by
  rw [updC_eq]
  funext k
  unfold setN
  by_cases h : k = i
  · subst h
    simp only [if_true, Nat.lt_irrefl, if_false, Nat.lt_succ_self]
    rfl
  · by_cases h2 : k < i
    · have : k < i + 1 := by omega
      simp only [h, h2, this, if_true, if_false]
    · have : ¬ k < i + 1 := by omega
      simp only [h, h2, this, if_false]
theorem ha_loop {K : Nat} {g : Nat → Int} {a : Nat → Int} {m : Nat} {Q : Nat → Rn} (hm : m ≤ 12) :
    CodeSem hoG 1 (.loop (bodyOf Try.f22 0)) (haS K g a m Q 0) (.exit 0, haS K g a m (setN Q 0 m) m) := by
  refine loop_of (fun i => haS K g a m (setN Q 0 i) (i : Int)) m (by simp) ?_ fun j hj => ?_
  · exact rT_sem hoG_ok noLoopsS (rT_go ha_ex ⟨by simp, trivial⟩)
  · have h3 := succ64 (j := j) (by omega)
    refine rT_sem hoG_ok noLoopsS ((rT_go ha_go ?_).trans ?_)
    · simp only [Int.toNat_natCast, Nat.zero_add]
      repeat' (first | exact AllT.nil | refine AllT.cons ?_ ?_)
      all_goals first | (with_reducible rfl) | exact decide_eq_true (by omega)
    · simp only [Int.toNat_natCast, Nat.zero_add, h3]
      refine Eq.trans (b := some (Ex.normal, (⟨slots 68 [(2, .c (.ptr 1 0 0)), (5, .c (.sl 2 0 m)), (6, I64 ((j + 1 : Nat) : Int))], [rowJ false K g, rowA a, some ⟨83, true, .row 4 m (updC (fun q => encN (setN Q 0 j q)) j (splice (encN (setN Q 0 j j)) 2 [.int .i64 0]))⟩]⟩ : St))) rfl ?_
      rw [setN_step]
      rfl
theorem hb_loop {K : Nat} {g : Nat → Int} {a : Nat → Int} {m : Nat} {Q : Nat → Rn} {na : Nat} {L : Nat → Gl} (hm : m ≤ 12) :
    CodeSem hoG 1 (.loop (bodyOf Try.f22 1)) (hbS K g a m Q na L 0) (.exit 2, hbS K g a m (setN Q 1 m) na L m) := by
  refine loop_of (fun i => hbS K g a m (setN Q 1 i) na L (i : Int)) m (by simp) ?_ fun j hj => ?_
  · exact rT_sem hoG_ok noLoopsS (rT_go hb_ex ⟨by simp, trivial⟩)
  · have h3 := succ64 (j := j) (by omega)
    refine rT_sem hoG_ok noLoopsS ((rT_go hb_go ?_).trans ?_)
    · simp only [Int.toNat_natCast, Nat.zero_add]
      repeat' (first | exact AllT.nil | refine AllT.cons ?_ ?_)
      all_goals first | (with_reducible rfl) | exact decide_eq_true (by omega)
    · simp only [Int.toNat_natCast, Nat.zero_add, h3]
      refine Eq.trans (b := some (Ex.normal, (⟨slots 68 [(2, .c (.ptr 1 0 0)), (5, .c (.sl 2 0 m)), (7, .c (.sl 3 0 na)), (8, I64 ((j + 1 : Nat) : Int))], [rowJ false K g, rowA a, some ⟨83, true, .row 4 m (updC (fun q => encN (setN Q 1 j q)) j (splice (encN (setN Q 1 j j)) 2 [.int .i64 1]))⟩, rowGl na L]⟩ : St))) rfl ?_
      rw [setN_step]
      rfl
theorem hc_loop {K : Nat} {g : Nat → Int} {na : Nat} {L L' : Nat → Gl} (hna : na < 2 ^ 40) (h : ∀ i, i < na → L' i = holdG (L i)) :
    CodeSem hoG 1 (.loop (bodyOf Try.f22 2)) (hcS K g na L na L' 0) (.exit 4, hcS K g na L na L' na) := by
  refine loop_of (fun i => hcS K g na L na L' (i : Int)) na (by simp) ?_ fun j hj => ?_
  · exact rT_sem hoG_ok noLoopsS (rT_go hc_ex ⟨by simp, trivial⟩)
  · have h3 := succ64 (j := j) (by omega)
    have hh := h j hj
    by_cases hk : (L j).k = 2
    · have hk' : ((L j).k == 2) = true := by simpa using hk
      have e : holdG (L j) = ⟨3, (L j).r, (L j).a, (L j).w⟩ := by unfold holdG; rw [hk']; rfl
      rw [e] at hh
      refine rT_sem hoG_ok noLoopsS ((rT_go hc_t ?_).trans ?_)
      · simp only [Int.toNat_natCast, Nat.zero_add, hh]
        repeat' (first | exact AllT.nil | refine AllT.cons ?_ ?_)
        all_goals first | (with_reducible rfl) | exact decide_eq_true (by omega) | exact hk' | simp
      · rw [h3]
        rfl
    · have hk' : (!((L j).k == 2)) = true := by simpa using hk
      have e : holdG (L j) = L j := by
        have h2 : ((L j).k == 2) = false := by simpa using hk
        unfold holdG; rw [h2]; rfl
      rw [e] at hh
      refine rT_sem hoG_ok noLoopsS ((rT_go hc_f ?_).trans ?_)
      · simp only [Int.toNat_natCast, Nat.zero_add, hh]
        repeat' (first | exact AllT.nil | refine AllT.cons ?_ ?_)
        all_goals first | (with_reducible rfl) | exact decide_eq_true (by omega) | exact hk' | simp
      · rw [h3]
        rfl
theorem goB_cg {M : Int → Int} {v r : Int} {s : ByteArray} {acc acc' : List Gl} (h : acc = acc') (n : Nat) : goB M v r s acc n = goB M v r s acc' n := by rw [h]
theorem goR_cg {M : Int → Int} {R R' : Nat → Rn} : ∀ k, (∀ i, i < k → R i = R' i) → goR M R k = goR M R' k
  | 0, _ => rfl
  | k + 1, h => by
    rw [goR, goR, goR_cg k fun i hi => h i (by omega), h k (by omega)]
theorem glyphs_cg {M : Int → Int} {R R' : Nat → Rn} {k : Nat} (h : ∀ i, i < k → R i = R' i) : glyphs M R k = glyphs M R' k := by
  unfold glyphs
  rw [goR_cg k h]
theorem lenR_cg {R R' : Nat → Rn} : ∀ k, (∀ i, i < k → (R i).s = (R' i).s) → lenR R k = lenR R' k
  | 0, _ => rfl
  | k + 1, h => by
    rw [lenR, lenR, lenR_cg k fun i hi => h i (by omega), h k (by omega)]
theorem ho_eq (a : Nat → Int) (m : Nat) (Q : Nat → Rn) : hoB a m Q = (hoA a m Q).map holdG := by
  have e1 : hoB a m Q = glyphs (Mt fun k => dv ((v1 (tz a k)).headD undef)) (setV Q 1) m := glyphs_cg fun i hi => by simp [setN, setV, hi, decN, encN]
  have e2 : hoA a m Q = glyphs (Mt fun k => dv ((v1 (tz a k)).headD undef)) (setV Q 0) m := glyphs_cg fun i hi => by simp [setN, setV, hi, decN, encN]
  rw [e1, e2, glyphs_holds]
theorem whitHolds_true (a : Nat → Int) (K : Nat) (g : Nat → Int) : ∃ keep tm d ℓ, LoopsSem (GT KWT keep 0 tm) [rowJ false K g].length ℓ ∧ (lfun (GT KWT keep 0 tm) ℓ d Try.f22 [aA a, .c (.sl 0 0 K)] [rowJ false K g]).eval = some (Bo true, [rowJ false K g]) := by
  obtain ⟨hm1, hm2⟩ := m12_le K
  have hl := runsL_len (fun j => g (0 + j)) (m := m12 K) (m12 K) (Nat.le_refl _)
  have hs1 : lenR (fun i => setN (runsL (fun j => g (0 + j)) (m12 K)) 0 (m12 K) i) (m12 K) ≤ 432 := by
    rw [lenR_cg (R' := runsL (fun j => g (0 + j)) (m12 K)) (m12 K) fun i hi => by simp [setN, hi]]
    omega
  have hs2 : lenR (fun i => setN (setN (runsL (fun j => g (0 + j)) (m12 K)) 0 (m12 K)) 1 (m12 K) i) (m12 K) ≤ 432 := by
    rw [lenR_cg (R' := runsL (fun j => g (0 + j)) (m12 K)) (m12 K) fun i hi => by simp [setN, hi]]
    omega
  have hlen : (hoA a (m12 K) (runsL (fun j => g (0 + j)) (m12 K))).length ≤ 432 := by
    refine Nat.le_trans glyphs_len ?_
    have e : (fun i => decN (encN (setN (runsL (fun j => g (0 + j)) (m12 K)) 0 (m12 K) (0 + i)))) = fun i => setN (runsL (fun j => g (0 + j)) (m12 K)) 0 (m12 K) i := by funext i; rw [Nat.zero_add]; rfl
    rw [e]
    exact hs1
  have heq := ho_eq a (m12 K) (runsL (fun j => g (0 + j)) (m12 K))
  have hl2 : (hoB a (m12 K) (runsL (fun j => g (0 + j)) (m12 K))).length = (hoA a (m12 K) (runsL (fun j => g (0 + j)) (m12 K))).length := by rw [heq]; simp
  have hc := hc_loop (K := K) (g := g) (na := (hoA a (m12 K) (runsL (fun j => g (0 + j)) (m12 K))).length) (L := at_ (hoA a (m12 K) (runsL (fun j => g (0 + j)) (m12 K)))) (L' := at_ (hoB a (m12 K) (runsL (fun j => g (0 + j)) (m12 K)))) (by omega) fun i hi => by
    rw [heq, at_get (by simpa using hi), at_get hi]
    simp
  refine ⟨_, [], 60, hoL K g a (m12 K) (runsL (fun j => g (0 + j)) (m12 K)), byReg_sem (r := 4) (tell_ok (ha_loop hm1)) (byReg_sem (r := 9) (tell_ok (hb_loop hm1)) (tell_ok ?_)), (Tr.go_eval (ho_w (K := K) (g := g) (a := a)) ?_).trans ?_⟩
  · rw [hl2]
    exact hc
  · have e1 : lenR (fun i => decN (encN (setN (runsL (fun j => g (0 + j)) (m12 K)) 0 (m12 K) (0 + i)))) (m12 K) < 2 ^ 39 := by
      have e : (fun i => decN (encN (setN (runsL (fun j => g (0 + j)) (m12 K)) 0 (m12 K) (0 + i)))) = fun i => setN (runsL (fun j => g (0 + j)) (m12 K)) 0 (m12 K) i := by funext i; rw [Nat.zero_add]; rfl
      rw [e]; omega
    have e2 : lenR (fun i => decN (encN (setN (setN (runsL (fun j => g (0 + j)) (m12 K)) 0 (m12 K)) 1 (m12 K) (0 + i)))) (m12 K) < 2 ^ 39 := by
      have e : (fun i => decN (encN (setN (setN (runsL (fun j => g (0 + j)) (m12 K)) 0 (m12 K)) 1 (m12 K) (0 + i)))) = fun i => setN (setN (runsL (fun j => g (0 + j)) (m12 K)) 0 (m12 K)) 1 (m12 K) i := by funext i; rw [Nat.zero_add]; rfl
      rw [e]; omega
    have e3 : (!(((hoA a (m12 K) (runsL (fun j => g (0 + j)) (m12 K))).length : Nat) : Int) != (((hoB a (m12 K) (runsL (fun j => g (0 + j)) (m12 K))).length : Nat) : Int)) = true := by rw [hl2]; simp
    repeat' (first | exact AllT.nil | refine AllT.cons ?_ ?_)
    all_goals first
      | (with_reducible rfl)
      | exact yes_of rfl
      | exact e3
      | exact yes_of ⟨by omega, rfl⟩
      | exact yes_of ⟨by omega, by omega, e1, rfl, rfl⟩
      | exact yes_of ⟨by omega, by omega, e2, rfl, rfl⟩
      | exact yes_of ⟨rfl, rfl⟩
  · rfl
def whitHoldsS : List Shp := [.arr 256 (.int .i64), .rows 2 [.int .i64]]
theorem whitHolds_core : ∀ is, InsOk whitHoldsS is → ∃ keep tm d ℓ, LoopsSem (GT KWT keep 0 tm) (blksIn whitHoldsS is).length ℓ ∧ (lfun (GT KWT keep 0 tm) ℓ d Try.f22 (avsIn 0 whitHoldsS is) (blksIn whitHoldsS is)).eval = some (Bo true, blksIn whitHoldsS is) := by
  intro is0 h0
  obtain ⟨v0, is1, rfl, h1⟩ := ins_arr h0
  obtain ⟨k2, v2, is3, rfl, h3, _⟩ := ins_ints h1
  obtain rfl := ins_nil h3
  exact whitHolds_true v0 k2 v2
end Go.Proofs.Ytcpahifgdppkbaa.QAI
end
section
/- BrkTells: the whole. -/
set_option linter.unusedVariables false
set_option linter.unusedSimpArgs false
namespace Go.Proofs.Ytcpahifgdppkbaa.QAI
open Go Go.RowKit
set_option maxRecDepth 100000
def btL (K : Nat) (g a : Nat → Int) : List Gl := glyphs (Mt fun k => tz (fun k => dv ((v1 (a k)).headD undef)) k) (fun i => decN (encN (runsL (fun j => vd (v1 (g (0 + j)))) (m12 K) (0 + i)))) (m12 K)
theorem bt_ex {k : Nat} {R : Nat → Gl} {K : Nat} {g a : Nat → Int} {A : Int} {na : Nat} {L : Nat → Gl} {i : Int} : (rT btG nol 2 53 (bodyOf Try.f28 0) btK btK (btS k R K g a A na L i)).go [false] =
  some
    ([!decide (i < (2 : Int))], Ex.exit 0,
      {
        sl :=
          slots 49
            [(2, AV.c (AC.sl 1 0 K)), (3, I64 A),
              (5, AV.c (AC.ptr 2 0 0)),
              (9, AV.c (AC.sl 3 0 na)), (10, I64 i)],
        h :=
          [some
              { t := 87, own := false,
                c :=
                  Cont.row 4 k fun j =>
                    [Value.int IntKind.i64 (R j).k, Value.int IntKind.i64 (R j).r, Value.int IntKind.i64 (R j).a,
                      Value.int IntKind.i64 (R j).w] },
            some { t := 2, own := false, c := Cont.row 1 K fun j => [Value.int IntKind.i64 (g j)] },
            some
              { t := 35, own := true,
                c := Cont.row 1 256 fun k => [Value.int IntKind.i64 (a k)] },
            some
              { t := 87, own := true,
                c :=
                  Cont.row 4 na fun j =>
                    [Value.int IntKind.i64 (L j).k, Value.int IntKind.i64 (L j).r, Value.int IntKind.i64 (L j).a,
                      Value.int IntKind.i64 (L j).w] }] }) := by kernel_rfl
theorem bt_w {k : Nat} {R : Nat → Gl} {K : Nat} {g a : Nat → Int} {A A' : Int} {na : Nat} {L : Nat → Gl} : (lfun btG (tell (bodyOf Try.f28 0) (btS k R K g a (A.tmod 1099511627776) (m200 k) (tmGL (fun j => decG (encG (R (0 + j)))) (m200 k)) 0) (.exit 0, btS k R K g a A' na L 2)) 60 Try.f28 [.c (.sl 0 0 k), aA a, .c (.sl 1 0 K), I64 A] [rowGo false k R, rowJ false K g]).go [] =
  some
    ([true, yes (0 + k ≤ k ∧ (fun j => encG (R j)) = fun j => encG (decG (encG (R j)))), yes (wasS (bodyOf Try.f28 0) (btS k R K g a (A.tmod 1099511627776) (m200 k) (tmGL (fun j => decG (encG (R (0 + j)))) (m200 k)) 0))], Bo true,
      [some
          { t := 87, own := false,
            c :=
              Cont.row 4 k fun j =>
                [Value.int IntKind.i64 (R j).k, Value.int IntKind.i64 (R j).r, Value.int IntKind.i64 (R j).a,
                  Value.int IntKind.i64 (R j).w] },
        some { t := 2, own := false, c := Cont.row 1 K fun j => [Value.int IntKind.i64 (g j)] }]) := by kernel_rfl
theorem ga_b (a : Nat → Int) (v c : Int) : 0 ≤ ga (Mt a) v c ∧ ga (Mt a) v c ≤ 65536 := by
  unfold ga
  split
  · split
    · omega
    · exact cl_b _
  · split
    · exact cl_b _
    · exact cl_b _
theorem glyphs_wok {a : Nat → Int} {R : Nat → Rn} {k : Nat} : WOk (at_ (glyphs (Mt a) R k)) := by
  intro i
  rcases Nat.lt_or_ge i (glyphs (Mt a) R k).length with h | h
  · obtain ⟨r, q, _, _, e⟩ := glyphs_mem (at_mem h)
    rw [e]
    have := ga_b a (R r).v (bt (R r).s q)
    exact ⟨this.1, by show ga (Mt a) (R r).v (bt (R r).s q) ≤ 1048576; omega⟩
  · have : at_ (glyphs (Mt a) R k) i = zGl := by
      unfold at_
      rw [List.getD_eq_getElem?_getD, List.getElem?_eq_none h]
      rfl
    rw [this]
    simp [zGl]
theorem bt_step {k : Nat} {R : Nat → Gl} {K : Nat} {g a : Nat → Int} {A : Int} {na : Nat} {L : Nat → Gl} {i : Nat} (hi : i < 2) (hna : na < 2 ^ 30) (hL : WOk L) :
    CodeSem btG 2 (bodyOf Try.f28 0) (btS k R K g a A na L i) (.normal, btS k R K g a (and64 A 4095) (btL K g a).length (at_ (btL K g a)) ((i + 1 : Nat) : Int)) := by
  obtain ⟨hm1, hm2⟩ := m12_le K
  have hl := runsL_len (fun j => vd (v1 (g (0 + j)))) (m := m12 K) (m12 K) (Nat.le_refl _)
  have h3 := succ64 (j := i) (by omega)
  obtain ⟨c1, _, _⟩ := lnC_spec na L A
  have e12 : lenR (fun i => decN (encN (runsL (fun j => vd (v1 (g (0 + j)))) (m12 K) (0 + i)))) (m12 K) < 2 ^ 39 := by
    have e : (fun i => decN (encN (runsL (fun j => vd (v1 (g (0 + j)))) (m12 K) (0 + i)))) = runsL (fun j => vd (v1 (g (0 + j)))) (m12 K) := by funext i; rw [Nat.zero_add]; rfl
    rw [e]; omega
  have eS : lnC na (fun j => decG (encG (L j))) A = lnC na (fun j => decG (encG (L j))) A ∧ lnC na (fun j => decG (encG (L j))) A ≤ lnC na (fun j => decG (encG (L j))) A ∧ lnC na (fun j => decG (encG (L j))) A ≤ lnC na (fun j => decG (encG (L j))) A ∧ lnC na (fun j => decG (encG (L j))) A < 2 ^ 40 ∧
      ((fun j => encP (spAt (lns na (fun j => decG (encG (L j))) A) j)) = fun j => encP (decP (encP (spAt (lns na (fun j => decG (encG (L j))) A) j)))) ∧ ((fun j => encP (spAt (lns na (fun j => decG (encG (L j))) A) j)) = fun j => encP (decP (encP (spAt (lns na (fun j => decG (encG (L j))) A) j)))) ∧
      ∀ (i : Nat), i < lnC na (fun j => decG (encG (L j))) A → decP (encP (spAt (lns na (fun j => decG (encG (L j))) A) i)) = decP (encP (spAt (lns na (fun j => decG (encG (L j))) A) i)) :=
    ⟨rfl, Nat.le_refl _, Nat.le_refl _, Nat.lt_of_le_of_lt c1 (by omega), rfl, rfl, fun _ _ => rfl⟩
  refine rT_sem btG_ok noLoopsS ((rT_go bt_go ?_).trans ?_)
  · repeat' (first | exact AllT.nil | refine AllT.cons ?_ ?_)
    all_goals first
      | (with_reducible rfl)
      | exact decide_eq_true (by omega)
      | exact yes_of ⟨Nat.le_refl _, hna, rfl, hL⟩
      | exact yes_of eS
      | exact yes_of rfl
      | exact yes_of ⟨by omega, rfl⟩
      | exact yes_of ⟨by omega, by omega, e12, rfl, rfl⟩
      | (simp; done)
  · rw [h3]
    rfl
theorem bt_loop {k : Nat} {R : Nat → Gl} {K : Nat} {g a : Nat → Int} {A : Int} {na : Nat} {L : Nat → Gl} (hna : na < 2 ^ 30) (hL : WOk L) :
    CodeSem btG 2 (.loop (bodyOf Try.f28 0)) (btS k R K g a A na L 0) (.exit 0, btS k R K g a (and64 (and64 A 4095) 4095) (btL K g a).length (at_ (btL K g a)) 2) := by
  obtain ⟨hm1, hm2⟩ := m12_le K
  have hl := runsL_len (fun j => vd (v1 (g (0 + j)))) (m := m12 K) (m12 K) (Nat.le_refl _)
  have hlen : (btL K g a).length < 2 ^ 30 := by
    refine Nat.lt_of_le_of_lt glyphs_len ?_
    have e : (fun i => decN (encN (runsL (fun j => vd (v1 (g (0 + j)))) (m12 K) (0 + i)))) = runsL (fun j => vd (v1 (g (0 + j)))) (m12 K) := by funext i; rw [Nat.zero_add]; rfl
    rw [e]; omega
  refine loop_of (fun i => match i with | 0 => btS k R K g a A na L 0 | 1 => btS k R K g a (and64 A 4095) (btL K g a).length (at_ (btL K g a)) 1 | _ => btS k R K g a (and64 (and64 A 4095) 4095) (btL K g a).length (at_ (btL K g a)) 2) 2 (by simp) ?_ fun j hj => ?_
  · exact rT_sem btG_ok noLoopsS (rT_go bt_ex ⟨by simp, trivial⟩)
  · match j, hj with
    | 0, _ => exact bt_step (i := 0) (by omega) hna hL
    | 1, _ => exact bt_step (i := 1) (by omega) hlen glyphs_wok
theorem brkTells_true (k : Nat) (R : Nat → Gl) (K : Nat) (g a : Nat → Int) (A : Int) : ∃ keep tm d ℓ, LoopsSem (GT KBT keep 0 tm) [rowGo false k R, rowJ false K g].length ℓ ∧ (lfun (GT KBT keep 0 tm) ℓ d Try.f28 [.c (.sl 0 0 k), aA a, .c (.sl 1 0 K), I64 A] [rowGo false k R, rowJ false K g]).eval = some (Bo true, [rowGo false k R, rowJ false K g]) := by
  obtain ⟨hm1, hm2⟩ := m200_le k
  refine ⟨_, [], 60, _, tell_ok (bt_loop (k := k) (R := R) (K := K) (g := g) (a := a) (A := A.tmod 1099511627776) (show m200 k < 2 ^ 30 by omega) (tmGL_ok (fun j => decG (encG (R (0 + j)))) (m200 k))), (Tr.go_eval (bt_w (k := k) (R := R) (K := K) (g := g) (a := a) (A := A)) ?_).trans ?_⟩
  · repeat' (first | exact AllT.nil | refine AllT.cons ?_ ?_)
    all_goals first
      | (with_reducible rfl)
      | exact yes_of ⟨by omega, rfl⟩
      | exact yes_of ⟨rfl, rfl⟩
      | exact decide_eq_true (by omega)
      | (simp; done)
  · rfl
theorem ins_glyphs {ss : List Shp} {is : List In} (h : InsOk (.rows 87 [.int .i64, .int .i64, .int .i64, .int .i64] :: ss) is) :
    ∃ (k : Nat) (g : Nat → Gl) (is' : List In), is = .rows k (fun i => encG (g i)) :: is' ∧ InsOk ss is' ∧ k ≤ maxLen := by
  obtain ⟨i, is', rfl, h1, h2⟩ := ins_cons h
  cases i with
  | rows k f =>
    obtain ⟨hk, h1⟩ := h1
    have : ∀ i, ∃ b, f i = encG b := fun i => by
      have hl := (h1 i).length
      obtain ⟨b0, hb0, a0, rfl, _⟩ := (h1 i).get 0 _ rfl
      obtain ⟨b1, hb1, a1, rfl, _⟩ := (h1 i).get 1 _ rfl
      obtain ⟨b2, hb2, a2, rfl, _⟩ := (h1 i).get 2 _ rfl
      obtain ⟨b3, hb3, a3, rfl, _⟩ := (h1 i).get 3 _ rfl
      match hf : f i, hl with
      | [x0, x1, x2, x3], _ =>
        rw [hf] at hb0 hb1 hb2 hb3
        simp only [List.getElem?_cons_zero, List.getElem?_cons_succ, Option.some.injEq] at hb0 hb1 hb2 hb3
        subst hb0; subst hb1; subst hb2; subst hb3
        exact ⟨⟨a0, a1, a2, a3⟩, rfl⟩
    refine ⟨k, fun i => (this i).choose, is', ?_, h2, hk⟩
    congr 2
    funext i
    exact (this i).choose_spec
  | _ => cases h1
def brkTellsS : List Shp := [.rows 87 [.int .i64, .int .i64, .int .i64, .int .i64], .arr 256 (.int .i64), .rows 2 [.int .i64], .one (.int .i64)]
theorem brkTells_core : ∀ is, InsOk brkTellsS is → ∃ keep tm d ℓ, LoopsSem (GT KBT keep 0 tm) (blksIn brkTellsS is).length ℓ ∧ (lfun (GT KBT keep 0 tm) ℓ d Try.f28 (avsIn 0 brkTellsS is) (blksIn brkTellsS is)).eval = some (Bo true, blksIn brkTellsS is) := by
  intro is0 h0
  obtain ⟨k1, v1', is2, rfl, h2, _⟩ := ins_glyphs h0
  obtain ⟨v0, is1, rfl, h1⟩ := ins_arr h2
  obtain ⟨k2, v2, is3, rfl, h3, _⟩ := ins_ints h1
  obtain ⟨v3, is4, rfl, h4⟩ := ins_i64 h3
  obtain rfl := ins_nil h4
  exact brkTells_true k1 v1' k2 v2 v0 v3
end Go.Proofs.Ytcpahifgdppkbaa.QAI
end
section
/- BrkLeast: plain. -/
set_option linter.unusedVariables false
set_option linter.unusedSimpArgs false
namespace Go.Proofs.Ytcpahifgdppkbaa.QAI
open Go Go.RowKit
theorem part_pSB {n : Nat} {L : Nat → Gl} {i : Nat} (hi : i < n) : partA n L i = pSB (L i) := by
  have h : decide (i = n) = false := decide_eq_false (by omega)
  simp only [partA, stopA, h, Bool.false_or, pSB, brk, spc]
  rw [Bool.or_comm]
theorem stop_brk {n : Nat} {L : Nat → Gl} {i : Nat} (hi : i < n) : stopA n L i = brk (L i) := by
  have h : decide (i = n) = false := decide_eq_false (by omega)
  simp only [stopA, h, Bool.false_or]
theorem brk_pSB (g : Gl) (h : brk g = true) : pSB g = true := by
  have : (g.k == 4) = true := h
  unfold pSB; rw [this]; simp
/-- With as much room as the least none is too wide. -/
theorem lns_least {n : Nat} {L : Nat → Gl} (hL : WOk L) {j : Nat} (hj : j < lnC n L (lgS pSB L n).1) : (spAt (lns n L (lgS pSB L n).1) j).w ≤ (lgS pSB L n).1 := by
  obtain ⟨a1, a2, a3⟩ := lnC_spec n L (lgS pSB L n).1
  have h1 := a2 j hj
  obtain ⟨t, ht⟩ := isLine (n := n) (L := L) (A := (lgS pSB L n).1) (o := lnAt n L (lgS pSB L n).1 j) (by omega)
  have e : spAt (lns n L (lgS pSB L n).1) j = spOf n L (lgS pSB L n).1 (lnAt n L (lgS pSB L n).1 j) := by
    unfold spAt lns lnsN
    rw [List.getD_eq_getElem?_getD, List.getElem?_map, List.getElem?_range hj]
    rfl
  rw [e]
  show (lineR n L (lgS pSB L n).1 (lnAt n L (lgS pSB L n).1 j)).2 ≤ _
  rw [ht.eq]
  rcases ht.why with hf | hf
  · have hs := lnAt_start (n := n) (L := L) (A := (lgS pSB L n).1) j (by omega) (lnAt_up j (by omega))
    have hle := ht.le
    have hln := ht.ln
    refine sw_lg hL (n := n) ?_ (fun q hq => ?_) (by omega)
    · rcases hs with h | ⟨h, h2⟩
      · exact .inl h
      · rw [part_pSB (by omega)] at h2
        exact .inr ⟨h, h2⟩
    · rw [← part_pSB (n := n) (by omega)]
      exact hf _ (by omega) (by omega)
  · exact hf
def brkN (L : Nat → Gl) : Nat → Nat
  | 0 => 0
  | i + 1 => brkN L i + (bif brk (L i) then 1 else 0)
theorem brkN_flat {L : Nat → Gl} {o : Nat} : ∀ c, (∀ j, j < c → brk (L (o + j)) = false) → brkN L (o + c) = brkN L o
  | 0, _ => rfl
  | c + 1, h => by
    rw [← Nat.add_assoc, brkN, h c (by omega), brkN_flat c fun j hj => h j (by omega)]
    rfl
/-- With as much room as the most a line goes on up to the next break. -/
theorem line_most {n : Nat} {L : Nat → Gl} (hL : WOk L) {o t : Nat} (hs : o = 0 ∨ (0 < o ∧ brk (L (o - 1)) = true)) (ht : IsLine n L (lgS brk L n).1 o t) : stopA n L t = true := by
  obtain ⟨h1, h2, h3⟩ := stopC_spec (n := n) (L := L) (n - o) o (by have := ht.le; have := ht.ln; omega)
  have hle := ht.le
  have hln := ht.ln
  have hts : t ≤ o + stopC n L o (n - o) := by
    rcases Nat.lt_or_ge (o + stopC n L o (n - o)) t with h | h
    · have := ht.go _ (by omega) h
      rw [h2] at this; cases this
    · exact h
  have hsw : sw L o (o + stopC n L o (n - o) - o) ≤ (lgS brk L n).1 := by
    rw [Nat.add_sub_cancel_left]
    refine sw_lg hL (n := n) hs (fun j hj => ?_) (by omega)
    rw [← stop_brk (n := n) (by omega)]
    exact h3 j hj
  have := ht.most (o + stopC n L o (n - o)) (by omega) (by omega) (fun q hq1 hq2 => by
    have := h3 (q - o) (by omega)
    rw [show o + (q - o) = q by omega] at this
    exact this) (by simp [partA, h2]) hsw
  have : t = o + stopC n L o (n - o) := by omega
  rw [this]; exact h2
theorem lns_most {n : Nat} {L : Nat → Gl} (hL : WOk L) : ∀ i, i < lnC n L (lgS brk L n).1 → ∃ s, lnAt n L (lgS brk L n).1 (i + 1) = s + 1 ∧ lnAt n L (lgS brk L n).1 i ≤ s ∧ s ≤ n ∧ stopA n L s = true ∧ brkN L s = i ∧ (∀ q, lnAt n L (lgS brk L n).1 i ≤ q → q < s → brk (L q) = false)
  | 0, hi => by
    obtain ⟨a1, a2, a3⟩ := lnC_spec n L (lgS brk L n).1
    obtain ⟨t, ht⟩ := isLine (n := n) (L := L) (A := (lgS brk L n).1) (o := 0) (Nat.zero_le _)
    have hst := line_most hL (.inl rfl) ht
    have hb : ∀ q, 0 ≤ q → q < t → brk (L q) = false := fun q hq1 hq2 => by
      rw [← stop_brk (n := n) (by have := ht.ln; omega)]
      exact ht.go q hq1 hq2
    refine ⟨t, by rw [lnAt, lnAt, ht.eq]; rfl, Nat.zero_le _, ht.ln, hst, ?_, hb⟩
    have := brkN_flat (L := L) (o := 0) t fun j hj => hb _ (by omega) (by omega)
    rw [Nat.zero_add] at this
    exact this
  | i + 1, hi => by
    obtain ⟨a1, a2, a3⟩ := lnC_spec n L (lgS brk L n).1
    obtain ⟨s, s1, s2, s3, s4, s5, s6⟩ := lns_most (n := n) hL i (by omega)
    have h1 := a2 (i + 1) hi
    have hsn : s < n := by omega
    have hbs : brk (L s) = true := by rw [← stop_brk hsn]; exact s4
    obtain ⟨t, ht⟩ := isLine (n := n) (L := L) (A := (lgS brk L n).1) (o := lnAt n L (lgS brk L n).1 (i + 1)) (by omega)
    have hst := line_most hL (.inr ⟨by omega, by rw [s1, Nat.add_sub_cancel]; exact hbs⟩) ht
    have hb : ∀ q, lnAt n L (lgS brk L n).1 (i + 1) ≤ q → q < t → brk (L q) = false := fun q hq1 hq2 => by
      rw [← stop_brk (n := n) (by have := ht.ln; omega)]
      exact ht.go q hq1 hq2
    have hle := ht.le
    refine ⟨t, by rw [lnAt, ht.eq]; rfl, hle, ht.ln, hst, ?_, hb⟩
    have e := brkN_flat (L := L) (o := lnAt n L (lgS brk L n).1 (i + 1)) (t - lnAt n L (lgS brk L n).1 (i + 1)) fun j hj => hb _ (by omega) (by omega)
    rw [show lnAt n L (lgS brk L n).1 (i + 1) + (t - lnAt n L (lgS brk L n).1 (i + 1)) = t by omega, s1, brkN, hbs, s5] at e
    exact e
def bkN (n : Nat) (L : Nat → Gl) : Nat → Nat
  | 0 => 0
  | i + 1 => bkN n L i + (bif brk (L i) && decide (i + 1 < n) then 1 else 0)
theorem bkN_le (n : Nat) (L : Nat → Gl) : ∀ i, bkN n L i ≤ i
  | 0 => Nat.le_refl _
  | i + 1 => by
    have := bkN_le n L i
    rw [bkN]
    cases (brk (L i) && decide (i + 1 < n)) <;> simp <;> omega
theorem bkN_eq (n : Nat) (L : Nat → Gl) : ∀ i, i + 1 ≤ n → bkN n L i = brkN L i
  | 0, _ => rfl
  | i + 1, h => by
    rw [bkN, brkN, bkN_eq n L i (by omega)]
    have : decide (i + 1 < n) = true := decide_eq_true (by omega)
    rw [this, Bool.and_true]
theorem bkN_all {n : Nat} (h : 0 < n) (L : Nat → Gl) : bkN n L n = brkN L (n - 1) := by
  obtain ⟨m, rfl⟩ : ∃ m, n = m + 1 := ⟨n - 1, by omega⟩
  rw [bkN, bkN_eq (m + 1) L m (by omega)]
  have : decide (m + 1 < m + 1) = false := decide_eq_false (by omega)
  rw [this, Bool.and_false]
  rfl
/-- With as much room as the most there is a line for each break, and one. -/
theorem lns_count {n : Nat} {L : Nat → Gl} (hL : WOk L) (hn : 0 < n) : lnC n L (lgS brk L n).1 = bkN n L n + 1 := by
  obtain ⟨a1, a2, a3⟩ := lnC_spec n L (lgS brk L n).1
  have hc : 0 < lnC n L (lgS brk L n).1 := by
    rcases Nat.eq_zero_or_pos (lnC n L (lgS brk L n).1) with h | h
    · rw [h] at a3
      have : lnAt n L (lgS brk L n).1 0 = 0 := rfl
      omega
    · exact h
  obtain ⟨s, s1, s2, s3, s4, s5, s6⟩ := lns_most (n := n) hL (lnC n L (lgS brk L n).1 - 1) (by omega)
  rw [show lnC n L (lgS brk L n).1 - 1 + 1 = lnC n L (lgS brk L n).1 by omega] at s1
  rw [bkN_all hn]
  have h1 := a2 (lnC n L (lgS brk L n).1 - 1) (by omega)
  rcases Nat.lt_or_ge s n with h | h
  · have : s = n - 1 := by omega
    rw [← this, s5]
    omega
  · have hs : s = n := by omega
    have hb := s6 (n - 1) (by omega) (by omega)
    have e : brkN L n = brkN L (n - 1) := by
      obtain ⟨m, rfl⟩ : ∃ m, n = m + 1 := ⟨n - 1, by omega⟩
      rw [Nat.add_sub_cancel] at hb ⊢
      rw [brkN, hb]
      rfl
    have h7 : brkN L n = brkN L s := by rw [hs]
    rw [← e, h7, s5]
    omega
theorem lns_none {L : Nat → Gl} {A : Int} : lnC 0 L A = 0 := rfl
end Go.Proofs.Ytcpahifgdppkbaa.QAI
end
section
/- BrkLeast: the walk. -/
set_option linter.unusedVariables false
set_option linter.unusedSimpArgs false
namespace Go.Proofs.Ytcpahifgdppkbaa.QAI
open Go Go.RowKit
set_option maxRecDepth 100000
abbrev bl1K : List (Nat × Option TypeId) := [(1,none),(2,none),(7,none),(8,none),(9,none),(10,none),(11,none)]
abbrev bl2K : List (Nat × Option TypeId) := [(7,none),(8,none),(9,none),(10,none),(12,none),(13,none),(14,none),(15,none),(16,none)]
noncomputable def blG : Ctx2 := GT KBT (fun k => if k = 6 then bl1K else if k = 13 then bl2K else []) 0 []
theorem blG_ok : XOk blG := GT_ok KBT_ok _ _ _
def bl1S (k : Nat) (R : Nat → Gl) (n : Nat) (L : Nat → Gl) (A B lo hi br i : Int) : St :=
  ⟨slots 109 [(1, I64 A), (2, I64 B), (7, .c (.sl 1 0 n)), (8, I64 lo), (9, I64 hi), (10, I64 br), (11, I64 i)], [rowGo false k R, rowGl n L]⟩
def bl2S (k : Nat) (R : Nat → Gl) (n : Nat) (L : Nat → Gl) (lo hi br : Int) (ca cb cx cy : Nat) (Sa Sb Sx Sy : Nat → Sp) (i : Int) : St :=
  ⟨slots 109 [(7, .c (.sl 1 0 n)), (8, I64 lo), (9, I64 hi), (10, I64 br), (12, .c (.sl 2 0 ca)), (13, .c (.sl 3 0 cb)), (14, .c (.sl 4 0 cx)), (15, .c (.sl 5 0 cy)), (16, I64 i)], [rowGo false k R, rowGl n L, rowSp ca Sa, rowSp cb Sb, rowSp cx Sx, rowSp cy Sy]⟩
theorem bl1_tt {k : Nat} {R : Nat → Gl} {n : Nat} {L : Nat → Gl} {A B lo hi br i : Int} : (rT blG nol 1 51 (bodyOf Try.f30 0) bl1K bl1K (bl1S k R n L A B lo hi br i)).go [] =
  some
    ([decide (i < ((n : Nat) : Int)), decide ((0 : Int) ≤ i), decide (i < ((n : Nat) : Int)), decide (0 + i.toNat < n),
        (L (0 + i.toNat)).k == (4 : Int), true, true, true, true, true, decide (w64 (i + (1 : Int)) < ((n : Nat) : Int))],
      Ex.normal,
      {
        sl :=
          slots 109
            [(1, I64 A), (2, I64 B), (7, AV.c (AC.sl 1 0 n)),
              (8, I64 lo), (9, I64 hi), (10, I64 (w64 (br + (1 : Int)))),
              (11, I64 (w64 (i + (1 : Int))))],
        h :=
          [some
              { t := 87, own := false,
                c :=
                  Cont.row 4 k fun j =>
                    [Value.int IntKind.i64 (R j).k, Value.int IntKind.i64 (R j).r, Value.int IntKind.i64 (R j).a,
                      Value.int IntKind.i64 (R j).w] },
            some
              { t := 87, own := true,
                c :=
                  Cont.row 4 n fun j =>
                    [Value.int IntKind.i64 (L j).k, Value.int IntKind.i64 (L j).r, Value.int IntKind.i64 (L j).a,
                      Value.int IntKind.i64 (L j).w] }] }) := by kernel_rfl
theorem bl1_tf {k : Nat} {R : Nat → Gl} {n : Nat} {L : Nat → Gl} {A B lo hi br i : Int} : (rT blG nol 1 51 (bodyOf Try.f30 0) bl1K bl1K (bl1S k R n L A B lo hi br i)).go [true, true, true, true, true, true, true, true, true, true, false] =
  some
    ([decide (i < ((n : Nat) : Int)), decide ((0 : Int) ≤ i), decide (i < ((n : Nat) : Int)), decide (0 + i.toNat < n),
        (L (0 + i.toNat)).k == (4 : Int), true, true, true, true, true, !decide (w64 (i + (1 : Int)) < ((n : Nat) : Int))],
      Ex.normal,
      {
        sl :=
          slots 109
            [(1, I64 A), (2, I64 B), (7, AV.c (AC.sl 1 0 n)),
              (8, I64 lo), (9, I64 hi), (10, I64 br), (11, I64 (w64 (i + (1 : Int))))],
        h :=
          [some
              { t := 87, own := false,
                c :=
                  Cont.row 4 k fun j =>
                    [Value.int IntKind.i64 (R j).k, Value.int IntKind.i64 (R j).r, Value.int IntKind.i64 (R j).a,
                      Value.int IntKind.i64 (R j).w] },
            some
              { t := 87, own := true,
                c :=
                  Cont.row 4 n fun j =>
                    [Value.int IntKind.i64 (L j).k, Value.int IntKind.i64 (L j).r, Value.int IntKind.i64 (L j).a,
                      Value.int IntKind.i64 (L j).w] }] }) := by kernel_rfl
theorem bl1_f {k : Nat} {R : Nat → Gl} {n : Nat} {L : Nat → Gl} {A B lo hi br i : Int} : (rT blG nol 1 51 (bodyOf Try.f30 0) bl1K bl1K (bl1S k R n L A B lo hi br i)).go [true, true, true, true, false, false, false, false, false, false, false] =
  some
    ([decide (i < ((n : Nat) : Int)), decide ((0 : Int) ≤ i), decide (i < ((n : Nat) : Int)), decide (0 + i.toNat < n),
        !(L (0 + i.toNat)).k == (4 : Int), true, true, true, true, true, true],
      Ex.normal,
      {
        sl :=
          slots 109
            [(1, I64 A), (2, I64 B), (7, AV.c (AC.sl 1 0 n)),
              (8, I64 lo), (9, I64 hi), (10, I64 br), (11, I64 (w64 (i + (1 : Int))))],
        h :=
          [some
              { t := 87, own := false,
                c :=
                  Cont.row 4 k fun j =>
                    [Value.int IntKind.i64 (R j).k, Value.int IntKind.i64 (R j).r, Value.int IntKind.i64 (R j).a,
                      Value.int IntKind.i64 (R j).w] },
            some
              { t := 87, own := true,
                c :=
                  Cont.row 4 n fun j =>
                    [Value.int IntKind.i64 (L j).k, Value.int IntKind.i64 (L j).r, Value.int IntKind.i64 (L j).a,
                      Value.int IntKind.i64 (L j).w] }] }) := by kernel_rfl
theorem bl1_e {k : Nat} {R : Nat → Gl} {n : Nat} {L : Nat → Gl} {A B lo hi br i : Int} : (rT blG nol 1 51 (bodyOf Try.f30 0) bl1K bl1K (bl1S k R n L A B lo hi br i)).go [false] =
  some
    ([!decide (i < ((n : Nat) : Int))], Ex.exit 0,
      {
        sl :=
          slots 109
            [(1, I64 A), (2, I64 B), (7, AV.c (AC.sl 1 0 n)),
              (8, I64 lo), (9, I64 hi), (10, I64 br), (11, I64 i)],
        h :=
          [some
              { t := 87, own := false,
                c :=
                  Cont.row 4 k fun j =>
                    [Value.int IntKind.i64 (R j).k, Value.int IntKind.i64 (R j).r, Value.int IntKind.i64 (R j).a,
                      Value.int IntKind.i64 (R j).w] },
            some
              { t := 87, own := true,
                c :=
                  Cont.row 4 n fun j =>
                    [Value.int IntKind.i64 (L j).k, Value.int IntKind.i64 (L j).r, Value.int IntKind.i64 (L j).a,
                      Value.int IntKind.i64 (L j).w] }] }) := by kernel_rfl
theorem bl2_go {k : Nat} {R : Nat → Gl} {n : Nat} {L : Nat → Gl} {lo hi br : Int} {ca cb cx cy : Nat} {Sa Sb Sx Sy : Nat → Sp} {i : Int} : (rT blG nol 1 48 (bodyOf Try.f30 1) bl2K bl2K (bl2S k R n L lo hi br ca cb cx cy Sa Sb Sx Sy i)).go [true, true, true, true, false] =
  some
    ([decide (i < ((cy : Nat) : Int)), decide ((0 : Int) ≤ i), decide (i < ((cy : Nat) : Int)), decide (0 + i.toNat < cy),
        !decide ((Sy (0 + i.toNat)).w > lo)],
      Ex.normal,
      {
        sl :=
          slots 109
            [(7, AV.c (AC.sl 1 0 n)), (8, I64 lo), (9, I64 hi),
              (10, I64 br), (12, AV.c (AC.sl 2 0 ca)),
              (13, AV.c (AC.sl 3 0 cb)), (14, AV.c (AC.sl 4 0 cx)),
              (15, AV.c (AC.sl 5 0 cy)), (16, I64 (w64 (i + (1 : Int))))],
        h :=
          [some
              { t := 87, own := false,
                c :=
                  Cont.row 4 k fun j =>
                    [Value.int IntKind.i64 (R j).k, Value.int IntKind.i64 (R j).r, Value.int IntKind.i64 (R j).a,
                      Value.int IntKind.i64 (R j).w] },
            some
              { t := 87, own := true,
                c :=
                  Cont.row 4 n fun j =>
                    [Value.int IntKind.i64 (L j).k, Value.int IntKind.i64 (L j).r, Value.int IntKind.i64 (L j).a,
                      Value.int IntKind.i64 (L j).w] },
            some
              { t := 98, own := true,
                c :=
                  Cont.row 3 ca fun j =>
                    [Value.int IntKind.i64 (Sa j).f, Value.int IntKind.i64 (Sa j).t, Value.int IntKind.i64 (Sa j).w] },
            some
              { t := 98, own := true,
                c :=
                  Cont.row 3 cb fun j =>
                    [Value.int IntKind.i64 (Sb j).f, Value.int IntKind.i64 (Sb j).t, Value.int IntKind.i64 (Sb j).w] },
            some
              { t := 98, own := true,
                c :=
                  Cont.row 3 cx fun j =>
                    [Value.int IntKind.i64 (Sx j).f, Value.int IntKind.i64 (Sx j).t, Value.int IntKind.i64 (Sx j).w] },
            some
              { t := 98, own := true,
                c :=
                  Cont.row 3 cy fun j =>
                    [Value.int IntKind.i64 (Sy j).f, Value.int IntKind.i64 (Sy j).t,
                      Value.int IntKind.i64 (Sy j).w] }] }) := by kernel_rfl
theorem bl2_e {k : Nat} {R : Nat → Gl} {n : Nat} {L : Nat → Gl} {lo hi br : Int} {ca cb cx cy : Nat} {Sa Sb Sx Sy : Nat → Sp} {i : Int} : (rT blG nol 1 48 (bodyOf Try.f30 1) bl2K bl2K (bl2S k R n L lo hi br ca cb cx cy Sa Sb Sx Sy i)).go [false] =
  some
    ([!decide (i < ((cy : Nat) : Int))], Ex.exit 2,
      {
        sl :=
          slots 109
            [(7, AV.c (AC.sl 1 0 n)), (8, I64 lo), (9, I64 hi),
              (10, I64 br), (12, AV.c (AC.sl 2 0 ca)),
              (13, AV.c (AC.sl 3 0 cb)), (14, AV.c (AC.sl 4 0 cx)),
              (15, AV.c (AC.sl 5 0 cy)), (16, I64 i)],
        h :=
          [some
              { t := 87, own := false,
                c :=
                  Cont.row 4 k fun j =>
                    [Value.int IntKind.i64 (R j).k, Value.int IntKind.i64 (R j).r, Value.int IntKind.i64 (R j).a,
                      Value.int IntKind.i64 (R j).w] },
            some
              { t := 87, own := true,
                c :=
                  Cont.row 4 n fun j =>
                    [Value.int IntKind.i64 (L j).k, Value.int IntKind.i64 (L j).r, Value.int IntKind.i64 (L j).a,
                      Value.int IntKind.i64 (L j).w] },
            some
              { t := 98, own := true,
                c :=
                  Cont.row 3 ca fun j =>
                    [Value.int IntKind.i64 (Sa j).f, Value.int IntKind.i64 (Sa j).t, Value.int IntKind.i64 (Sa j).w] },
            some
              { t := 98, own := true,
                c :=
                  Cont.row 3 cb fun j =>
                    [Value.int IntKind.i64 (Sb j).f, Value.int IntKind.i64 (Sb j).t, Value.int IntKind.i64 (Sb j).w] },
            some
              { t := 98, own := true,
                c :=
                  Cont.row 3 cx fun j =>
                    [Value.int IntKind.i64 (Sx j).f, Value.int IntKind.i64 (Sx j).t, Value.int IntKind.i64 (Sx j).w] },
            some
              { t := 98, own := true,
                c :=
                  Cont.row 3 cy fun j =>
                    [Value.int IntKind.i64 (Sy j).f, Value.int IntKind.i64 (Sy j).t,
                      Value.int IntKind.i64 (Sy j).w] }] }) := by kernel_rfl
def blT (k : Nat) (R : Nat → Gl) : Nat → Gl := tmGL (fun j => decG (encG (R (0 + j)))) (m200 k)
def blD (L : Nat → Gl) : Nat → Gl := fun j => decG (encG (L j))
def blP (p : Gl → Bool) (k : Nat) (R : Nat → Gl) : Int := (lgS p (blD (blT k R)) (m200 k)).1
def bl24 (x : Int) : Int := w64 ((u64 x).tmod 16777216)
noncomputable def blL (k : Nat) (R : Nat → Gl) (A B br : Int) (Sa Sb Sx Sy : Nat → Sp) (ca cb cx cy : Nat) : Loops :=
  byReg 6 (tell (bodyOf Try.f30 0) (bl1S k R (m200 k) (blT k R) (bl24 A) (bl24 B) (blP pSB k R) (blP brk k R) 0 0) (.exit 0, bl1S k R (m200 k) (blT k R) (bl24 A) (bl24 B) (blP pSB k R) (blP brk k R) br (m200 k)))
    (tell (bodyOf Try.f30 1) (bl2S k R (m200 k) (blT k R) (blP pSB k R) (blP brk k R) br ca cb cx cy Sa Sb Sx Sy 0) (.exit 2, bl2S k R (m200 k) (blT k R) (blP pSB k R) (blP brk k R) br ca cb cx cy Sa Sb Sx Sy cy))
def blC (k : Nat) (R : Nat → Gl) (A : Int) : Nat := lnC (m200 k) (blD (blT k R)) A
def blX (k : Nat) (R : Nat → Gl) (A : Int) : Nat → Sp := spAt (lns (m200 k) (blD (blT k R)) A)
theorem bl_w {k : Nat} {R : Nat → Gl} {A B br : Int} : (lfun blG (blL k R A B br (blX k R (bl24 A)) (blX k R (w64 (bl24 A + bl24 B))) (blX k R (blP brk k R)) (blX k R (blP pSB k R)) (blC k R (bl24 A)) (blC k R (w64 (bl24 A + bl24 B))) (blC k R (blP brk k R)) (blC k R (blP pSB k R))) 60 Try.f30 [.c (.sl 0 0 k), I64 A, I64 B] [rowGo false k R]).go [true, true, true, true, true, true, true, true, true, true, true, true, true, true, true, true, true, true, true, true, true, false, false, false, true, false, true, false, false, false, false, false, true, false] =
  some
    ([yes (0 + k ≤ k ∧ (fun j => encG (R j)) = fun j => encG (decG (encG (R j)))), true, true,
        yes
          (m200 k ≤ m200 k ∧
            m200 k < 2 ^ 30 ∧
              ((fun j => encG (tmGL (fun j => decG (encG (R (0 + j)))) (m200 k) j)) = fun j =>
                  encG (decG (encG (tmGL (fun j => decG (encG (R (0 + j)))) (m200 k) j)))) ∧
                WOk fun j => decG (encG (tmGL (fun j => decG (encG (R (0 + j)))) (m200 k) j))),
        yes
          (m200 k ≤ m200 k ∧
            m200 k < 2 ^ 30 ∧
              ((fun j => encG (tmGL (fun j => decG (encG (R (0 + j)))) (m200 k) j)) = fun j =>
                  encG (decG (encG (tmGL (fun j => decG (encG (R (0 + j)))) (m200 k) j)))) ∧
                WOk fun j => decG (encG (tmGL (fun j => decG (encG (R (0 + j)))) (m200 k) j))),
        yes (wasS (bodyOf Try.f30 0) (bl1S k R (m200 k) (blT k R) (bl24 A) (bl24 B) (blP pSB k R) (blP brk k R) 0 0)),
        yes
          (m200 k ≤ m200 k ∧
            m200 k < 2 ^ 30 ∧
              ((fun j => encG (blT k R j)) = fun j => encG (decG (encG (blT k R j)))) ∧
                WOk fun j => decG (encG (blT k R j))),
        yes
          (m200 k ≤ m200 k ∧
            m200 k < 2 ^ 30 ∧
              ((fun j => encG (blT k R j)) = fun j => encG (decG (encG (blT k R j)))) ∧
                WOk fun j => decG (encG (blT k R j))),
        yes
          (m200 k ≤ m200 k ∧
            m200 k < 2 ^ 30 ∧
              ((fun j => encG (blT k R j)) = fun j => encG (decG (encG (blT k R j)))) ∧
                WOk fun j => decG (encG (blT k R j))),
        yes
          (m200 k ≤ m200 k ∧
            m200 k < 2 ^ 30 ∧
              ((fun j => encG (blT k R j)) = fun j => encG (decG (encG (blT k R j)))) ∧
                WOk fun j => decG (encG (blT k R j))),
        yes (wasS (bodyOf Try.f30 1) (bl2S k R (m200 k) (blT k R) (blP pSB k R) (blP brk k R) br (blC k R (bl24 A)) (blC k R (w64 (bl24 A + bl24 B))) (blC k R (blP brk k R)) (blC k R (blP pSB k R)) (blX k R (bl24 A)) (blX k R (w64 (bl24 A + bl24 B))) (blX k R (blP brk k R)) (blX k R (blP pSB k R)) 0)), decide (blP pSB k R ≤ blP brk k R), true, true, true, true, true,
        decide (((blC k R (w64 (bl24 A + bl24 B)) : Nat) : Int) ≤ ((blC k R (bl24 A) : Nat) : Int)), true, true, true, !((m200 k : Nat) : Int) == (0 : Int),
        true, true, true, true, true, true, true, true, true, true, true, true, true,
        ((blC k R (blP brk k R) : Nat) : Int) == w64 (br + (1 : Int)), true],
      Bo true,
      [some
          { t := 87, own := false,
            c :=
              Cont.row 4 k fun j =>
                [Value.int IntKind.i64 (R j).k, Value.int IntKind.i64 (R j).r, Value.int IntKind.i64 (R j).a,
                  Value.int IntKind.i64 (R j).w] }]) := by kernel_rfl
theorem bl_w0 {k : Nat} {R : Nat → Gl} {A B br : Int} : (lfun blG (blL k R A B br (blX k R (bl24 A)) (blX k R (w64 (bl24 A + bl24 B))) (blX k R (blP brk k R)) (blX k R (blP pSB k R)) (blC k R (bl24 A)) (blC k R (w64 (bl24 A + bl24 B))) (blC k R (blP brk k R)) (blC k R (blP pSB k R))) 60 Try.f30 [.c (.sl 0 0 k), I64 A, I64 B] [rowGo false k R]).go [] =
  some
    ([yes (0 + k ≤ k ∧ (fun j => encG (R j)) = fun j => encG (decG (encG (R j)))), true, true,
        yes
          (m200 k ≤ m200 k ∧
            m200 k < 2 ^ 30 ∧
              ((fun j => encG (tmGL (fun j => decG (encG (R (0 + j)))) (m200 k) j)) = fun j =>
                  encG (decG (encG (tmGL (fun j => decG (encG (R (0 + j)))) (m200 k) j)))) ∧
                WOk fun j => decG (encG (tmGL (fun j => decG (encG (R (0 + j)))) (m200 k) j))),
        yes
          (m200 k ≤ m200 k ∧
            m200 k < 2 ^ 30 ∧
              ((fun j => encG (tmGL (fun j => decG (encG (R (0 + j)))) (m200 k) j)) = fun j =>
                  encG (decG (encG (tmGL (fun j => decG (encG (R (0 + j)))) (m200 k) j)))) ∧
                WOk fun j => decG (encG (tmGL (fun j => decG (encG (R (0 + j)))) (m200 k) j))),
        yes (wasS (bodyOf Try.f30 0) (bl1S k R (m200 k) (blT k R) (bl24 A) (bl24 B) (blP pSB k R) (blP brk k R) 0 0)),
        yes
          (m200 k ≤ m200 k ∧
            m200 k < 2 ^ 30 ∧
              ((fun j => encG (blT k R j)) = fun j => encG (decG (encG (blT k R j)))) ∧
                WOk fun j => decG (encG (blT k R j))),
        yes
          (m200 k ≤ m200 k ∧
            m200 k < 2 ^ 30 ∧
              ((fun j => encG (blT k R j)) = fun j => encG (decG (encG (blT k R j)))) ∧
                WOk fun j => decG (encG (blT k R j))),
        yes
          (m200 k ≤ m200 k ∧
            m200 k < 2 ^ 30 ∧
              ((fun j => encG (blT k R j)) = fun j => encG (decG (encG (blT k R j)))) ∧
                WOk fun j => decG (encG (blT k R j))),
        yes
          (m200 k ≤ m200 k ∧
            m200 k < 2 ^ 30 ∧
              ((fun j => encG (blT k R j)) = fun j => encG (decG (encG (blT k R j)))) ∧
                WOk fun j => decG (encG (blT k R j))),
        yes (wasS (bodyOf Try.f30 1) (bl2S k R (m200 k) (blT k R) (blP pSB k R) (blP brk k R) br (blC k R (bl24 A)) (blC k R (w64 (bl24 A + bl24 B))) (blC k R (blP brk k R)) (blC k R (blP pSB k R)) (blX k R (bl24 A)) (blX k R (w64 (bl24 A + bl24 B))) (blX k R (blP brk k R)) (blX k R (blP pSB k R)) 0)), decide (blP pSB k R ≤ blP brk k R), true, true, true, true, true,
        decide (((blC k R (w64 (bl24 A + bl24 B)) : Nat) : Int) ≤ ((blC k R (bl24 A) : Nat) : Int)), true, true, true, ((m200 k : Nat) : Int) == (0 : Int),
        true, true, true, true, true, ((blC k R (blP brk k R) : Nat) : Int) == (0 : Int), true, true, true, true, true, true, true,
        true, true],
      Bo true,
      [some
          { t := 87, own := false,
            c :=
              Cont.row 4 k fun j =>
                [Value.int IntKind.i64 (R j).k, Value.int IntKind.i64 (R j).r, Value.int IntKind.i64 (R j).a,
                  Value.int IntKind.i64 (R j).w] }]) := by kernel_rfl
end Go.Proofs.Ytcpahifgdppkbaa.QAI
end
section
/- BrkLeast: what is asked on the way holds. -/
set_option linter.unusedVariables false
set_option linter.unusedSimpArgs false
namespace Go.Proofs.Ytcpahifgdppkbaa.QAI
open Go Go.RowKit
set_option maxRecDepth 100000
theorem bl1_loop {k : Nat} {R : Nat → Gl} {n : Nat} {L : Nat → Gl} {A B lo hi : Int} (hn : n ≤ 200) :
    CodeSem blG 1 (.loop (bodyOf Try.f30 0)) (bl1S k R n L A B lo hi 0 0) (.exit 0, bl1S k R n L A B lo hi (bkN n L n) n) := by
  refine loop_of (fun i => bl1S k R n L A B lo hi (bkN n L i) (i : Int)) n (by simp) ?_ fun j hj => ?_
  · exact rT_sem blG_ok noLoopsS (rT_go bl1_e ⟨by simp, trivial⟩)
  · have h3 := succ64 (j := j) (by omega)
    have hb := bkN_le n L j
    have h4 : w64 (((bkN n L j : Nat) : Int) + 1) = ((bkN n L j + 1 : Nat) : Int) := by rw [w64_id (by omega) (by omega)]; omega
    have hbn : bkN n L (j + 1) = bkN n L j + (bif brk (L j) && decide (j + 1 < n) then 1 else 0) := rfl
    by_cases h : brk (L j) = true
    · have h' : ((L j).k == 4) = true := h
      by_cases h2 : j + 1 < n
      · have e : bkN n L (j + 1) = bkN n L j + 1 := by rw [hbn, h, decide_eq_true h2]; rfl
        refine rT_sem blG_ok noLoopsS ((rT_go bl1_tt ?_).trans ?_)
        · simp only [Int.toNat_natCast, Nat.zero_add, h3]
          repeat' (first | exact AllT.nil | refine AllT.cons ?_ ?_)
          all_goals first | (with_reducible rfl) | (with_reducible assumption) | exact decide_eq_true (by omega)
        · rw [h3, h4, e]
          rfl
      · have e : bkN n L (j + 1) = bkN n L j := by rw [hbn, h, decide_eq_false h2]; rfl
        refine rT_sem blG_ok noLoopsS ((rT_go bl1_tf ?_).trans ?_)
        · simp only [Int.toNat_natCast, Nat.zero_add, h3]
          repeat' (first | exact AllT.nil | refine AllT.cons ?_ ?_)
          all_goals first | (with_reducible rfl) | (with_reducible assumption) | exact decide_eq_true (by omega) | (simp; omega)
        · rw [h3, e]
          rfl
    · have hf : brk (L j) = false := by simpa using h
      have h' : (!((L j).k == 4)) = true := by have h : ((L j).k == 4) = false := hf; rw [h]; rfl
      have e : bkN n L (j + 1) = bkN n L j := by rw [hbn, hf]; rfl
      refine rT_sem blG_ok noLoopsS ((rT_go bl1_f ?_).trans ?_)
      · simp only [Int.toNat_natCast, Nat.zero_add]
        repeat' (first | exact AllT.nil | refine AllT.cons ?_ ?_)
        all_goals first | (with_reducible rfl) | (with_reducible assumption) | exact decide_eq_true (by omega)
      · rw [h3, e]
        rfl
theorem bl2_loop {k : Nat} {R : Nat → Gl} {n : Nat} {L : Nat → Gl} {lo hi br : Int} {ca cb cx cy : Nat} {Sa Sb Sx Sy : Nat → Sp} (hc : cy ≤ 200) (h : ∀ i, i < cy → (Sy i).w ≤ lo) :
    CodeSem blG 1 (.loop (bodyOf Try.f30 1)) (bl2S k R n L lo hi br ca cb cx cy Sa Sb Sx Sy 0) (.exit 2, bl2S k R n L lo hi br ca cb cx cy Sa Sb Sx Sy cy) := by
  refine loop_of (fun i => bl2S k R n L lo hi br ca cb cx cy Sa Sb Sx Sy (i : Int)) cy (by simp) ?_ fun j hj => ?_
  · exact rT_sem blG_ok noLoopsS (rT_go bl2_e ⟨by simp, trivial⟩)
  · have h3 := succ64 (j := j) (by omega)
    have hw := h j hj
    refine rT_sem blG_ok noLoopsS ((rT_go bl2_go ?_).trans ?_)
    · simp only [Int.toNat_natCast, Nat.zero_add]
      repeat' (first | exact AllT.nil | refine AllT.cons ?_ ?_)
      all_goals first | (with_reducible rfl) | exact decide_eq_true (by omega) | (simp; omega)
    · rw [h3]
      rfl
theorem bl24_b (x : Int) : 0 ≤ bl24 x ∧ bl24 x < 16777216 := by
  have e : bl24 x = x % 16777216 := u64_mod 24 (by decide) x _ rfl
  rw [e]; omega
theorem brkLeast_true (k : Nat) (R : Nat → Gl) (A B : Int) : ∃ keep tm d ℓ, LoopsSem (GT KBT keep 0 tm) [rowGo false k R].length ℓ ∧ (lfun (GT KBT keep 0 tm) ℓ d Try.f30 [.c (.sl 0 0 k), I64 A, I64 B] [rowGo false k R]).eval = some (Bo true, [rowGo false k R]) := by
  obtain ⟨hm1, hm2⟩ := m200_le k
  have hL : WOk (blD (blT k R)) := tmGL_ok _ _
  obtain ⟨A0, A1⟩ := bl24_b A
  obtain ⟨B0, B1⟩ := bl24_b B
  have hAB : w64 (bl24 A + bl24 B) = bl24 A + bl24 B := w64_id (by omega) (by omega)
  have hmono : blC k R (w64 (bl24 A + bl24 B)) ≤ blC k R (bl24 A) := lns_mono hL (by omega)
  have hlo : blP pSB k R ≤ blP brk k R := (lgS_le hL brk_pSB (m200 k)).1
  have hcy : blC k R (blP pSB k R) ≤ m200 k := (lnC_spec _ _ _).1
  have hbk := bkN_le (m200 k) (blT k R) (m200 k)
  have hyes : m200 k ≤ m200 k ∧ m200 k < 2 ^ 30 ∧ ((fun j => encG (blT k R j)) = fun j => encG (decG (encG (blT k R j)))) ∧ WOk (blD (blT k R)) := ⟨Nat.le_refl _, by omega, rfl, hL⟩
  have hloops := byReg_sem (r := 6) (tell_ok (bl1_loop (k := k) (R := R) (n := m200 k) (L := blT k R) (A := bl24 A) (B := bl24 B) (lo := blP pSB k R) (hi := blP brk k R) hm1))
    (tell_ok (bl2_loop (k := k) (R := R) (n := m200 k) (L := blT k R) (lo := blP pSB k R) (hi := blP brk k R) (br := (bkN (m200 k) (blT k R) (m200 k) : Int)) (ca := blC k R (bl24 A)) (cb := blC k R (w64 (bl24 A + bl24 B))) (cx := blC k R (blP brk k R)) (cy := blC k R (blP pSB k R))
      (Sa := blX k R (bl24 A)) (Sb := blX k R (w64 (bl24 A + bl24 B))) (Sx := blX k R (blP brk k R)) (Sy := blX k R (blP pSB k R)) (by omega) fun i hi => lns_least hL hi))
  have e1 : decide (blP pSB k R ≤ blP brk k R) = true := decide_eq_true hlo
  have e2 : decide (((blC k R (w64 (bl24 A + bl24 B)) : Nat) : Int) ≤ ((blC k R (bl24 A) : Nat) : Int)) = true := decide_eq_true (by omega)
  by_cases h0 : m200 k = 0
  · have e3 : (((m200 k : Nat) : Int) == 0) = true := by rw [h0]; rfl
    have e4 : (((blC k R (blP brk k R) : Nat) : Int) == 0) = true := by
      unfold blC
      rw [h0]
      rfl
    refine ⟨_, [], 60, _, hloops, (Tr.go_eval (bl_w0 (k := k) (R := R) (A := A) (B := B) (br := (bkN (m200 k) (blT k R) (m200 k) : Int))) ?_).trans ?_⟩
    · repeat' (first | exact AllT.nil | refine AllT.cons ?_ ?_)
      all_goals first
        | (with_reducible rfl)
        | exact e1
        | exact e2
        | exact e3
        | exact e4
        | exact yes_of ⟨by omega, rfl⟩
        | exact yes_of hyes
        | exact yes_of ⟨rfl, rfl⟩
    · rfl
  · have e3 : (!(((m200 k : Nat) : Int) == 0)) = true := by simp; omega
    have hcnt : blC k R (blP brk k R) = bkN (m200 k) (blT k R) (m200 k) + 1 := lns_count hL (by omega)
    have e4 : (((blC k R (blP brk k R) : Nat) : Int) == w64 ((bkN (m200 k) (blT k R) (m200 k) : Int) + 1)) = true := by
      rw [hcnt, w64_id (by omega) (by omega)]
      simp
    refine ⟨_, [], 60, _, hloops, (Tr.go_eval (bl_w (k := k) (R := R) (A := A) (B := B) (br := (bkN (m200 k) (blT k R) (m200 k) : Int))) ?_).trans ?_⟩
    · repeat' (first | exact AllT.nil | refine AllT.cons ?_ ?_)
      all_goals first
        | (with_reducible rfl)
        | exact e1
        | exact e2
        | exact e3
        | exact e4
        | exact yes_of ⟨by omega, rfl⟩
        | exact yes_of hyes
        | exact yes_of ⟨rfl, rfl⟩
    · rfl
def brkLeastS : List Shp := [.rows 87 [.int .i64, .int .i64, .int .i64, .int .i64], .one (.int .i64), .one (.int .i64)]
theorem brkLeast_core : ∀ is, InsOk brkLeastS is → ∃ keep tm d ℓ, LoopsSem (GT KBT keep 0 tm) (blksIn brkLeastS is).length ℓ ∧ (lfun (GT KBT keep 0 tm) ℓ d Try.f30 (avsIn 0 brkLeastS is) (blksIn brkLeastS is)).eval = some (Bo true, blksIn brkLeastS is) := by
  intro is0 h0
  obtain ⟨k1, v1', is2, rfl, h2, _⟩ := ins_glyphs h0
  obtain ⟨v3, is4, rfl, h4⟩ := ins_i64 h2
  obtain ⟨v5, is6, rfl, h6⟩ := ins_i64 h4
  obtain rfl := ins_nil h6
  exact brkLeast_true k1 v1' v3 v5
end Go.Proofs.Ytcpahifgdppkbaa.QAI
end
section
/- BrkWords: the walk. -/
set_option linter.unusedVariables false
set_option linter.unusedSimpArgs false
namespace Go.Proofs.Ytcpahifgdppkbaa.QAI
open Go Go.RowKit
set_option maxRecDepth 100000
abbrev wrK1 : List (Nat × Option TypeId) := [(0,none),(1,none),(2,none),(3,none),(9,none),(10,none)]
abbrev wrK2 : List (Nat × Option TypeId) := [(0,none),(1,none),(2,none),(9,none),(11,none),(12,none),(13,none),(14,none)]
noncomputable def wrG : Ctx2 := GT KBT (fun k => if k = 4 then wrK1 else if k = 15 then wrK2 else []) 0 []
theorem wrG_ok : XOk wrG := GT_ok KBT_ok _ _ _
def wr0 (n w s A : Int) : St := ⟨slots 131 [(0, I64 n), (1, I64 w), (2, I64 s), (3, I64 A), (9, .c (.v (.slice none 0 0))), (10, I64 0)], []⟩
def wr1 (n w s A : Int) (k : Nat) (L : Nat → Gl) (i : Int) : St := ⟨slots 131 [(0, I64 n), (1, I64 w), (2, I64 s), (3, I64 A), (9, .c (.sl 0 0 k)), (10, I64 i)], [rowGl k L]⟩
theorem wr_0 {n w s A : Int} : (rT wrG nol 0 53 (bodyOf Try.f26 0) wrK1 wrK1 (wr0 n w s A)).go [true, false] =
  some
    ([decide ((0 : Int) < n), true, true, true, true], Ex.normal,
      {
        sl :=
          slots 131
            [(0, I64 n), (1, I64 w), (2, I64 s), (3, I64 A),
              (9, AV.c (AC.sl 0 0 1)), (10, I64 (w64 ((0 : Int) + (1 : Int))))],
        h :=
          [some
              { t := 87, own := true,
                c :=
                  Cont.row 4 1 fun k =>
                    Decidable.rec
                      (fun h =>
                        [Value.int IntKind.i64 (0 : Int), Value.int IntKind.i64 (0 : Int),
                          Value.int IntKind.i64 (0 : Int), Value.int IntKind.i64 (0 : Int)])
                      (fun h =>
                        [Value.int IntKind.i64 (1 : Int), Value.int IntKind.i64 (0 : Int),
                          Value.int IntKind.i64 (0 : Int), Value.int IntKind.i64 w])
                      (instDecidableEqNat k 0) }] }) := by kernel_rfl
theorem wr_go {n w s A : Int} {k : Nat} {L : Nat → Gl} {i : Int} : (rT wrG nol 0 53 (bodyOf Try.f26 0) wrK1 wrK1 (wr1 n w s A k L i)).go [] =
  some
    ([decide (i < n), decide (i > (0 : Int)), decide (k = k), true, decide ((k + 1) * 32 ≤ maxCells),
        decide (k + 1 = k + 1), true, decide ((k + 1 + 1) * 32 ≤ maxCells)],
      Ex.normal,
      {
        sl :=
          slots 131
            [(0, I64 n), (1, I64 w), (2, I64 s), (3, I64 A),
              (9, AV.c (AC.sl 0 0 (k + 1 + 1))),
              (10, I64 (w64 (i + (1 : Int))))],
        h :=
          [some
              { t := 87, own := true,
                c :=
                  Cont.row 4 (k + 1 + 1) fun k_1 =>
                    Decidable.rec
                      (fun h =>
                        updL (fun j => encG (L j)) k
                          [[Value.int IntKind.i64 (2 : Int), Value.int IntKind.i64 (0 : Int),
                              Value.int IntKind.i64 (0 : Int), Value.int IntKind.i64 s]]
                          k_1)
                      (fun h =>
                        [Value.int IntKind.i64 (1 : Int), Value.int IntKind.i64 (0 : Int),
                          Value.int IntKind.i64 (0 : Int), Value.int IntKind.i64 w])
                      (instDecidableEqNat k_1 (k + 1)) }] }) := by kernel_rfl
theorem wr_e {n w s A : Int} {k : Nat} {L : Nat → Gl} {i : Int} : (rT wrG nol 0 53 (bodyOf Try.f26 0) wrK1 wrK1 (wr1 n w s A k L i)).go [false] =
  some
    ([!decide (i < n)], Ex.exit 0,
      {
        sl :=
          slots 131
            [(0, I64 n), (1, I64 w), (2, I64 s), (3, I64 A),
              (9, AV.c (AC.sl 0 0 k)), (10, I64 i)],
        h :=
          [some
              { t := 87, own := true,
                c :=
                  Cont.row 4 k fun j =>
                    [Value.int IntKind.i64 (L j).k, Value.int IntKind.i64 (L j).r, Value.int IntKind.i64 (L j).a,
                      Value.int IntKind.i64 (L j).w] }] }) := by kernel_rfl
def wr2 (n w s per left i : Int) (k : Nat) (L : Nat → Gl) (c : Nat) (S : Nat → Sp) : St := ⟨slots 131 [(0, I64 n), (1, I64 w), (2, I64 s), (9, .c (.sl 0 0 k)), (11, I64 per), (12, .c (.sl 1 0 c)), (13, I64 left), (14, I64 i)], [rowGl k L, rowSp c S]⟩
theorem wr2_go {n w s per left i : Int} {k : Nat} {L : Nat → Gl} {c : Nat} {S : Nat → Sp} : (rT wrG nol 0 48 (bodyOf Try.f26 1) wrK2 wrK2 (wr2 n w s per left i k L c S)).go [true, true, true, true, false, false, false, true, true, false, false, true, false, false, false, true, true, false, false, true, false, false, false, false, false, false, false] =
  some
    ([decide (i < ((c : Nat) : Int)), decide ((0 : Int) ≤ i), decide (i < ((c : Nat) : Int)), decide (0 + i.toNat < c),
        !(S (0 + i.toNat)).w != w64 (w64 (mnI left per * w) + w64 (w64 (mnI left per - (1 : Int)) * s)), true,
        true, decide ((0 : Int) ≤ i), decide (i < ((c : Nat) : Int)), true, true, decide (0 + i.toNat < c), true, true, true,
        decide ((0 : Int) ≤ i), decide (i < ((c : Nat) : Int)), true, true, decide (0 + i.toNat < c), true, true, true, true,
        true, true,
        !w64 ((S (0 + i.toNat)).t - (S (0 + i.toNat)).f) !=
            w64 (w64 ((2 : Int) * mnI left per) - (1 : Int))],
      Ex.normal,
      {
        sl :=
          slots 131
            [(0, I64 n), (1, I64 w), (2, I64 s),
              (9, AV.c (AC.sl 0 0 k)), (11, I64 per),
              (12, AV.c (AC.sl 1 0 c)), (13, I64 (w64 (left - mnI left per))),
              (14, I64 (w64 (i + (1 : Int))))],
        h :=
          [some
              { t := 87, own := true,
                c :=
                  Cont.row 4 k fun j =>
                    [Value.int IntKind.i64 (L j).k, Value.int IntKind.i64 (L j).r, Value.int IntKind.i64 (L j).a,
                      Value.int IntKind.i64 (L j).w] },
            some
              { t := 98, own := true,
                c :=
                  Cont.row 3 c fun j =>
                    [Value.int IntKind.i64 (S j).f, Value.int IntKind.i64 (S j).t, Value.int IntKind.i64 (S j).w] }] }) := by kernel_rfl
theorem wr2_e {n w s per left i : Int} {k : Nat} {L : Nat → Gl} {c : Nat} {S : Nat → Sp} : (rT wrG nol 0 48 (bodyOf Try.f26 1) wrK2 wrK2 (wr2 n w s per left i k L c S)).go [false] =
  some
    ([!decide (i < ((c : Nat) : Int))], Ex.exit 2,
      {
        sl :=
          slots 131
            [(0, I64 n), (1, I64 w), (2, I64 s),
              (9, AV.c (AC.sl 0 0 k)), (11, I64 per),
              (12, AV.c (AC.sl 1 0 c)), (13, I64 left), (14, I64 i)],
        h :=
          [some
              { t := 87, own := true,
                c :=
                  Cont.row 4 k fun j =>
                    [Value.int IntKind.i64 (L j).k, Value.int IntKind.i64 (L j).r, Value.int IntKind.i64 (L j).a,
                      Value.int IntKind.i64 (L j).w] },
            some
              { t := 98, own := true,
                c :=
                  Cont.row 3 c fun j =>
                    [Value.int IntKind.i64 (S j).f, Value.int IntKind.i64 (S j).t, Value.int IntKind.i64 (S j).w] }] }) := by kernel_rfl
def wN (n : Int) : Int := w64 (and64 n 63 + 1)
def wW (n : Int) : Int := w64 (and64 n 255 + 1)
def wB (n : Int) : Int := and64 n 63
def wA (n : Int) : Int := and64 n 4095
def wPer (w s A : Int) : Int := mxI 1 (w64 ((w64 (wA A + wB s)).tdiv (w64 (wW w + wB s))))
def wC (A : Int) (k : Nat) (L : Nat → Gl) : Nat := lnC k (fun j => decG (encG (L j))) (wA A)
def wX (A : Int) (k : Nat) (L : Nat → Gl) : Nat → Sp := spAt (lns k (fun j => decG (encG (L j))) (wA A))
noncomputable def wrV (n w s A : Int) (k : Nat) (L : Nat → Gl) (i left i2 : Int) : Loops :=
  byReg 4 (tell (bodyOf Try.f26 0) (wr0 (wN n) (wW w) (wB s) (wA A)) (.exit 0, wr1 (wN n) (wW w) (wB s) (wA A) k L i)) (tell (bodyOf Try.f26 1) (wr2 (wN n) (wW w) (wB s) (wPer w s A) (wN n) 0 k L (wC A k L) (wX A k L)) (.exit 2, wr2 (wN n) (wW w) (wB s) (wPer w s A) left i2 k L (wC A k L) (wX A k L)))
theorem wr_w {n w s A : Int} {k : Nat} {L : Nat → Gl} {i left i2 : Int} : (lfun wrG (wrV n w s A k L i left i2) 60 Try.f26 [I64 n, I64 w, I64 s, I64 A] []).go [true, true, true, true, false] =
  some
    ([yes (wasS (bodyOf Try.f26 0) (wr0 (wN n) (wW w) (wB s) (wA A))), decide (w64 (wW w + wB s) ≠ (0 : Int)),
        yes
          (k ≤ k ∧
            k < 2 ^ 30 ∧
              ((fun j => encG (L j)) = fun j => encG (decG (encG (L j)))) ∧ WOk fun j => decG (encG (L j))),
        decide (mxI (1 : Int) (w64 ((w64 (wA A + wB s)).tdiv (w64 (wW w + wB s)))) ≠ (0 : Int)),
        !((lnC k (fun j => decG (encG (L j))) (wA A) : Nat) : Int) !=
            w64
              ((w64 (w64 (wN n + mxI (1 : Int) (w64 ((w64 (wA A + wB s)).tdiv (w64 (wW w + wB s))))) - (1 : Int))).tdiv
                (mxI (1 : Int) (w64 ((w64 (wA A + wB s)).tdiv (w64 (wW w + wB s)))))),
        yes (wasS (bodyOf Try.f26 1) (wr2 (wN n) (wW w) (wB s) (wPer w s A) (wN n) 0 k L (wC A k L) (wX A k L))), left == (0 : Int), true,
        yes
          (k ≤ k ∧
            k < 2 ^ 30 ∧
              ((fun j => encG (L j)) = fun j => encG (decG (encG (L j)))) ∧ WOk fun j => decG (encG (L j))),
        true, true, true, (lgS pSB (fun j => decG (encG (L j))) k).fst == wW w, true,
        yes
          (k ≤ k ∧
            k < 2 ^ 30 ∧
              ((fun j => encG (L j)) = fun j => encG (decG (encG (L j)))) ∧ WOk fun j => decG (encG (L j))),
        true, true, true, true, true, true, true, true, true, true,
        (lgS brk (fun j => decG (encG (L j))) k).fst == w64 (w64 (wN n * wW w) + w64 (w64 (wN n - (1 : Int)) * wB s)),
        true],
      Bo true, []) := by kernel_rfl
end Go.Proofs.Ytcpahifgdppkbaa.QAI
end
