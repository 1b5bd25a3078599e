/- Boxes below each other: what 'Stack' computes, with and without wrapping; its bounds. -/
import Derived.Test.YtcpahifgdppkbaaFM
set_option linter.unusedVariables false
set_option linter.unusedSimpArgs false
namespace Go.Proofs.Ytcpahifgdppkbaa.QAI
open Go Go.RowKit

structure Bx where
  h : Int
  tp : Int
  tn : Int
  bp : Int
  bn : Int
  th : Bool
def encX (b : Bx) : List Value := [.int .i64 b.h, .int .i64 b.tp, .int .i64 b.tn, .int .i64 b.bp, .int .i64 b.bn, .bool b.th]
def decX : List Value → Bx
  | [.int _ a, .int _ b, .int _ c, .int _ d, .int _ e, .bool t] => ⟨a, b, c, d, e, t⟩
  | _ => ⟨0, 0, 0, 0, 0, false⟩
theorem decX_enc (b : Bx) : decX (encX b) = b := rfl
structure Sk where
  fp : Int
  fn : Int
  y : Int
  op : Int
  on : Int
  top : Bool
def Sk.mp (s : Sk) (b : Bx) : Int := jmax b.tp (jmax s.fp 0)
def Sk.mn (s : Sk) (b : Bx) : Int := jmin b.tn (jmin s.fn 0)
def Sk.at (s : Sk) (b : Bx) : Int := if s.top then 0 else w64 (s.y + w64 (s.mp b + s.mn b))
def Sk.step (s : Sk) (b : Bx) : Sk :=
  if b.th then { s with fp := jmax b.bp (jmax (s.mp b) 0), fn := jmin b.bn (jmin (s.mn b) 0) }
  else { fp := b.bp, fn := b.bn, y := w64 (s.at b + b.h), op := if s.top then s.mp b else s.op, on := if s.top then s.mn b else s.on, top := false }
def run (g : Nat → Bx) (top : Bool) : Nat → Sk
  | 0 => ⟨0, 0, 0, 0, 0, top⟩
  | i + 1 => (run g top i).step (g i)
def ats (g : Nat → Bx) (top : Bool) (i : Nat) : Int := (run g top i).at (g i)
def Sk.at0 (s : Sk) (b : Bx) : Int := if s.top then 0 else s.y + (s.mp b + s.mn b)
def Sk.step0 (s : Sk) (b : Bx) : Sk :=
  if b.th then { s with fp := jmax b.bp (jmax (s.mp b) 0), fn := jmin b.bn (jmin (s.mn b) 0) }
  else { fp := b.bp, fn := b.bn, y := s.at0 b + b.h, op := if s.top then s.mp b else s.op, on := if s.top then s.mn b else s.on, top := false }
def run0 (g : Nat → Bx) (top : Bool) : Nat → Sk
  | 0 => ⟨0, 0, 0, 0, 0, top⟩
  | i + 1 => (run0 g top i).step0 (g i)
def ats0 (g : Nat → Bx) (top : Bool) (i : Nat) : Int := (run0 g top i).at0 (g i)
structure Bx.ok (b : Bx) : Prop where
  h0 : 0 ≤ b.h
  h1 : b.h < 68719476736
  a0 : 0 ≤ b.tp
  a1 : b.tp < 4294967296
  b0 : b.tn ≤ 0
  b1 : -4294967296 < b.tn
  c0 : 0 ≤ b.bp
  c1 : b.bp < 4294967296
  d0 : b.bn ≤ 0
  d1 : -4294967296 < b.bn
  th : b.th = true → b.h = 0
structure Sk.ok (s : Sk) (i : Nat) : Prop where
  f0 : 0 ≤ s.fp
  f1 : s.fp < 4294967296
  g0 : s.fn ≤ 0
  g1 : -4294967296 < s.fn
  y0 : -(i * 137438953472 : Int) ≤ s.y
  y1 : s.y ≤ i * 137438953472
  o0 : 0 ≤ s.op
  o1 : s.op < 4294967296
  p0 : s.on ≤ 0
  p1 : -4294967296 < s.on
  top : s.top = true → s.y = 0 ∧ s.op = 0 ∧ s.on = 0
theorem Sk.m_b {s : Sk} {b : Bx} {i : Nat} (hs : s.ok i) (hb : b.ok) : 0 ≤ s.mp b ∧ s.mp b < 4294967296 ∧ s.mn b ≤ 0 ∧ -4294967296 < s.mn b := by
  have := hs.f0; have := hs.f1; have := hs.g0; have := hs.g1; have := hb.a0; have := hb.a1; have := hb.b0; have := hb.b1
  simp only [Sk.mp, Sk.mn, jmax, jmin]
  refine ⟨?_, ?_, ?_, ?_⟩ <;> (split <;> (try split) <;> omega)
theorem Sk.at_b {s : Sk} {b : Bx} {i : Nat} (hs : s.ok i) (hb : b.ok) : -(i * 137438953472 : Int) - 4294967296 ≤ s.at0 b ∧ s.at0 b ≤ i * 137438953472 + 4294967296 := by
  have hm := Sk.m_b hs hb
  have := hs.y0; have := hs.y1
  simp only [Sk.at0]
  split <;> omega
theorem Sk.at_eq {s : Sk} {b : Bx} {i : Nat} (hs : s.ok i) (hb : b.ok) (hi : i ≤ 1000) : s.at b = s.at0 b := by
  have hm := Sk.m_b hs hb
  have := hs.y0; have := hs.y1
  simp only [Sk.at0, Sk.at]
  split
  · rfl
  · rw [w64_id (x := s.mp b + s.mn b) (by omega) (by omega), w64_id (by omega) (by omega)]
theorem Sk.step_eq {s : Sk} {b : Bx} {i : Nat} (hs : s.ok i) (hb : b.ok) (hi : i ≤ 1000) : s.step b = s.step0 b := by
  have h1 := Sk.at_b hs hb
  have := hb.h0; have := hb.h1
  simp only [Sk.step, Sk.step0, Sk.at_eq hs hb hi]
  split
  · rfl
  · rw [w64_id (by omega) (by omega)]
theorem Sk.step_ok {s : Sk} {b : Bx} {i : Nat} (hs : s.ok i) (hb : b.ok) : (s.step0 b).ok (i + 1) := by
  have hm := Sk.m_b hs hb
  have h1 := Sk.at_b hs hb
  obtain ⟨f0, f1, g0, g1, y0, y1, o0, o1, p0, p1, top⟩ := hs
  obtain ⟨h0, h1', a0, a1, b0, b1, c0, c1, d0, d1, th⟩ := hb
  simp only [Sk.step0]
  split
  · refine ⟨?_, ?_, ?_, ?_, ?_, ?_, o0, o1, p0, p1, top⟩
    · simp only [jmax]; split <;> (try split) <;> omega
    · simp only [jmax]; split <;> (try split) <;> omega
    · simp only [jmin]; split <;> (try split) <;> omega
    · simp only [jmin]; split <;> (try split) <;> omega
    · simp only; omega
    · simp only; omega
  · refine ⟨c0, c1, d0, d1, ?_, ?_, ?_, ?_, ?_, ?_, fun h => by cases h⟩
    · simp only; omega
    · simp only; omega
    · simp only; split <;> omega
    · simp only; split <;> omega
    · simp only; split <;> omega
    · simp only; split <;> omega
theorem run0_ok {g : Nat → Bx} {top : Bool} : ∀ {n : Nat}, (∀ i, i < n → (g i).ok) → (run0 g top n).ok n
  | 0, _ => ⟨by simp [run0], by simp [run0], by simp [run0], by simp [run0], by simp [run0], by simp [run0], by simp [run0], by simp [run0], by simp [run0], by simp [run0], fun _ => ⟨rfl, rfl, rfl⟩⟩
  | n + 1, h => Sk.step_ok (run0_ok (n := n) fun i hi => h i (by omega)) (h n (by omega))
theorem run_eq {g : Nat → Bx} {top : Bool} : ∀ {n : Nat}, n ≤ 1000 → (∀ i, i < n → (g i).ok) → run g top n = run0 g top n
  | 0, _, _ => rfl
  | n + 1, hn, h => by
    have ih := run_eq (g := g) (top := top) (n := n) (by omega) fun i hi => h i (by omega)
    simp only [run, run0, ih]
    exact Sk.step_eq (run0_ok fun i hi => h i (by omega)) (h n (by omega)) (by omega)
theorem ats_eq {g : Nat → Bx} {top : Bool} {i n : Nat} (hi : i < n) (hn : n ≤ 1000) (h : ∀ i, i < n → (g i).ok) : ats g top i = ats0 g top i := by
  have hb : ∀ j, j < i → (g j).ok := fun j hj => h j (by omega)
  simp only [ats, ats0, run_eq (n := i) (by omega) hb]
  exact Sk.at_eq (run0_ok hb) (h i hi) (by omega)
/-- What all come to. -/
structure Sm where
  tp : Int
  tn : Int
  bp : Int
  bn : Int
  th : Bool
  h : Int
def Sk.fin (s : Sk) (bottom : Bool) : Sm :=
  if s.top then ⟨s.fp, s.fn, 0, 0, bottom, 0⟩
  else if bottom then ⟨s.op, s.on, s.fp, s.fn, false, jmax 0 s.y⟩
  else ⟨s.op, s.on, 0, 0, false, jmax 0 (w64 (s.y + w64 (s.fp + s.fn)))⟩
def Sk.fin0 (s : Sk) (bottom : Bool) : Sm :=
  if s.top then ⟨s.fp, s.fn, 0, 0, bottom, 0⟩
  else if bottom then ⟨s.op, s.on, s.fp, s.fn, false, jmax 0 s.y⟩
  else ⟨s.op, s.on, 0, 0, false, jmax 0 (s.y + (s.fp + s.fn))⟩
theorem Sk.fin_eq {s : Sk} {i : Nat} (hs : s.ok i) (hi : i ≤ 1000) (bottom : Bool) : s.fin bottom = s.fin0 bottom := by
  obtain ⟨f0, f1, g0, g1, y0, y1, o0, o1, p0, p1, top⟩ := hs
  simp only [Sk.fin, Sk.fin0]
  split
  · rfl
  · split
    · rfl
    · rw [w64_id (x := s.fp + s.fn) (by omega) (by omega), w64_id (by omega) (by omega)]
end Go.Proofs.Ytcpahifgdppkbaa.QAI
