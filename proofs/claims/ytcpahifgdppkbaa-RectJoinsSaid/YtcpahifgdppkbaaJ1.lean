/- Rectangles of a row, joined. -/
import Derived.Test.YtcpahifgdppkbaaR2
import Derived.Test.YtcpahifgdppkbaaR4
set_option linter.unusedVariables false
set_option linter.unusedSimpArgs false
namespace Go.Proofs.Ytcpahifgdppkbaa.QAI
open Go Go.RowKit
set_option maxRecDepth 100000
structure Rc where
  x : Int
  y : Int
  w : Int
  h : Int
def encR (r : Rc) : List Value := [.int .i64 r.x, .int .i64 r.y, .int .i64 r.w, .int .i64 r.h]
def decR : List Value → Rc
  | [.int _ a, .int _ b, .int _ c, .int _ d] => ⟨a, b, c, d⟩
  | _ => ⟨0, 0, 0, 0⟩
def rowR (own : Bool) (n : Nat) (g : Nat → Rc) : Option ABlk := some ⟨44, own, .row 4 n fun i => encR (g i)⟩
def jrS (own : Bool) (o k n : Nat) (g : Nat → Rc) (a b c d i : Int) : St :=
  ⟨slots 78 [(2, .c (.ptr 1 0 0)), (3, I64 a), (4, I64 b), (5, I64 c), (6, I64 d), (40, .c (.sl 0 o k)), (41, I64 k), (42, I64 i)], [rowR own n g, some ⟨44, true, .one (qd 0 0 0 0)⟩]⟩
noncomputable def jrR (L : Nat) (S : St) : Tr (Ex × St) := roundT (arun (jnG L) 1 53 (bodyOf Try.f56 0)) (canon (jnG L).T 1 ((jnG L).keep 5)) S
theorem jr_go {L : Nat} {own : Bool} {o k n : Nat} {g : Nat → Rc} {a b c d i : Int} : (jrR L (jrS own o k n g a b c d i)).go [] =
  some
    ([decide (i < ↑k), decide ((0 : Int) ≤ i), decide (i < ↑k), decide (o + i.toNat < n)], Ex.normal,
      {
        sl :=
          slots 78
            [(2, AV.c (AC.ptr 1 0 0)), (3, I64 (mnI (g (o + i.toNat)).x a)),
              (4, I64 (mnI (g (o + i.toNat)).y b)),
              (5, I64 (mxI (w64 ((g (o + i.toNat)).x + (g (o + i.toNat)).w)) c)),
              (6, I64 (mxI (w64 ((g (o + i.toNat)).y + (g (o + i.toNat)).h)) d)),
              (40, AV.c (AC.sl 0 o k)), (41, I64 ↑k), (42, I64 (w64 (i + (1 : Int))))],
        h :=
          [some
              { t := 44, own := own,
                c :=
                  Cont.row 4 n fun i =>
                    [Value.int IntKind.i64 (g i).x, Value.int IntKind.i64 (g i).y, Value.int IntKind.i64 (g i).w,
                      Value.int IntKind.i64 (g i).h] },
            some
              { t := 44, own := true,
                c := Cont.one [i64 (0 : Int), i64 (0 : Int), i64 (0 : Int), i64 (0 : Int)] }] }) := by kernel_rfl
def jr_endr (own : Bool) (o : Nat) (k : Nat) (n : Nat) (g : Nat → Rc) (a : Int) (b : Int) (c : Int) (d : Int) (i : Int) : Ex × St := (Ex.exit 0,
      {
        sl :=
          slots 78
            [(2, AV.c (AC.ptr 1 0 0)), (3, I64 a), (4, I64 b),
              (5, I64 c), (6, I64 d), (40, AV.c (AC.sl 0 o k)), (41, I64 ↑k),
              (42, I64 i), (43, Bo false)],
        h :=
          [some
              { t := 44, own := own,
                c :=
                  Cont.row 4 n fun i =>
                    [Value.int IntKind.i64 (g i).x, Value.int IntKind.i64 (g i).y, Value.int IntKind.i64 (g i).w,
                      Value.int IntKind.i64 (g i).h] },
            some
              { t := 44, own := true,
                c := Cont.one [i64 (0 : Int), i64 (0 : Int), i64 (0 : Int), i64 (0 : Int)] }] })
theorem jr_end {L : Nat} {own : Bool} {o k n : Nat} {g : Nat → Rc} {a b c d i : Int} : (jrR L (jrS own o k n g a b c d i)).go [false] =
  some
    ([!decide (i < ↑k)], jr_endr own o k n g a b c d i) := by kernel_rfl
def mnO (x : Nat → Int) (o : Nat) : Nat → Int
  | 0 => x o
  | i + 1 => mnI (x (o + 1 + i)) (mnO x o i)
def mxO (x : Nat → Int) (o : Nat) : Nat → Int
  | 0 => x o
  | i + 1 => mxI (x (o + 1 + i)) (mxO x o i)
def rX (g : Nat → Rc) (i : Nat) : Int := (g i).x
def rY (g : Nat → Rc) (i : Nat) : Int := (g i).y
def rX2 (g : Nat → Rc) (i : Nat) : Int := w64 ((g i).x + (g i).w)
def rY2 (g : Nat → Rc) (i : Nat) : Int := w64 ((g i).y + (g i).h)
def jrI (own : Bool) (o k n : Nat) (g : Nat → Rc) (i : Nat) : St := jrS own (o + 1) (k - 1) n g (mnO (rX g) o i) (mnO (rY g) o i) (mxO (rX2 g) o i) (mxO (rY2 g) o i) i
theorem jr_loop {L : Nat} {own : Bool} {o k n : Nat} {g : Nat → Rc} (h0 : 0 < k) (hn : o + k ≤ n) (hk : k < 2 ^ 60) (hL : k < L) :
    (iter (arun (jnG L) 1 53 (bodyOf Try.f56 0)) (canon (jnG L).T 1 ((jnG L).keep 5)) L (jrI own o k n g 0)).eval = some (jr_endr own (o + 1) (k - 1) n g (mnO (rX g) o (k - 1)) (mnO (rY g) o (k - 1)) (mxO (rX2 g) o (k - 1)) (mxO (rY2 g) o (k - 1)) ((k - 1 : Nat) : Int)) := by
  refine iter_upto (fun i => jrI own o k n g i) (N := k - 1) (by simp) ?_ L 0 (Nat.zero_le _) (by omega) ?_
  · refine (round_go jr_end ⟨?_, trivial⟩)
    simp
  · intro j _ hj
    have h3 : w64 ((j : Int) + 1) = ((j + 1 : Nat) : Int) := by rw [w64_in (by omega)]; omega
    refine (round_go jr_go ⟨?_, ?_, ?_, ?_, trivial⟩).trans ?_
    · exact decide_eq_true (by omega)
    · exact decide_eq_true (by omega)
    · exact decide_eq_true (by omega)
    · exact decide_eq_true (by rw [Int.toNat_natCast]; omega)
    · rw [h3, Int.toNat_natCast]
      rfl
/-- What the k rows from o on have together: its edges. -/
def bX (f : Nat → List Value) (o k : Nat) : Int := mnO (rX fun i => decR (f i)) o (k - 1)
def bY (f : Nat → List Value) (o k : Nat) : Int := mnO (rY fun i => decR (f i)) o (k - 1)
def bX2 (f : Nat → List Value) (o k : Nat) : Int := mxO (rX2 fun i => decR (f i)) o (k - 1)
def bY2 (f : Nat → List Value) (o k : Nat) : Int := mxO (rY2 fun i => decR (f i)) o (k - 1)
def rowOk (f : Nat → List Value) (o k n : Nat) : Prop := 0 < k ∧ o + k ≤ n ∧ k < 2 ^ 60 ∧ f = fun i => encR (decR (f i))
noncomputable def jrF (D : Spec) : Spec := fun args hp => match args, hp with
  | [.c (.sl 0 o k)], [some ⟨44, own, .row 4 n f⟩] =>
    .need (yes (rowOk f o k n)) (.ret (Rv (bX f o k) (bY f o k) (w64 (bX2 f o k - bX f o k)) (w64 (bY2 f o k - bY f o k)), [some ⟨44, own, .row 4 n f⟩]))
  | args, hp => D args hp
theorem jr_w2 {L : Nat} {own : Bool} {o k n : Nat} {g : Nat → Rc} {a b c d : Int} : (lfun (jnG L) (told 53 (bodyOf Try.f56 0) (jrI own o k n g 0) (jr_endr own (o + 1) (k - 1) n g a b c d ((k - 1 : Nat) : Int))) 60 Try.f56 [.c (.sl 0 o k)] [rowR own n g]).go [false] =
  some
    ([!↑k == (0 : Int), true, decide ((0 : Int) < ↑k), decide (o < n), true, decide ((0 : Int) < ↑k), decide (o < n),
        true, decide ((0 : Int) < ↑k), decide (o < n), true, decide ((0 : Int) < ↑k), decide (o < n), true,
        decide ((0 : Int) < ↑k), decide (o < n), true, decide ((0 : Int) < ↑k), decide (o < n), decInt (1 : Int) (↑k) k,
        yes (was 53 (bodyOf Try.f56 0) (jrI own o k n g 0))],
      AV.agg [i64 a, i64 b, i64 (w64 (c - a)), i64 (w64 (d - b))],
      [some
          { t := 44, own := own,
            c :=
              Cont.row 4 n fun i =>
                [Value.int IntKind.i64 (g i).x, Value.int IntKind.i64 (g i).y, Value.int IntKind.i64 (g i).w,
                  Value.int IntKind.i64 (g i).h] }]) := by kernel_rfl
theorem jnF_all : ∀ args h r, (jnF sJn args h).eval = some r → ∃ keep L d, (afun (GK [] keep L) d Try.f56 args h).eval = some r := by
  intro args h r he
  unfold jnF at he
  split at he
  · obtain ⟨rfl, he⟩ := Tr.eval_ask.1 he
    cases he; exact ⟨_, _, _, jn1_eq⟩
  · obtain ⟨rfl, he⟩ := Tr.eval_ask.1 he
    cases he; exact ⟨_, _, _, jn2_eq⟩
  · obtain ⟨rfl, he⟩ := Tr.eval_ask.1 he
    cases he; exact ⟨_, _, _, jn3_eq⟩
  · exact ⟨_, _, _, he⟩
theorem jrF_ok : SpecOk Try.prog 56 (jrF (jnF sJn)) := by
  refine known' rKnil Try.func56 fun args h r he => ?_
  unfold jrF at he
  split at he
  · rename_i o k own n f
    obtain ⟨⟨h0, h1, h2, h3⟩, he⟩ := Tr.eval_ask.1 he
    cases he
    have hl : LoopsOk (jnG (k + 1)) 1 _ := told_ok (jr_loop (own := own) (g := fun i => decR (f i)) h0 h1 h2 (Nat.lt_succ_self _))
    have e : [some ⟨44, own, .row 4 n f⟩] = [rowR own n fun i => decR (f i)] := by
      unfold rowR
      rw [← h3]
    rw [e]
    refine ⟨_, k + 1, 60, lfun_go hl jr_w2 ?_⟩
    repeat' (first | exact AllT.nil | refine AllT.cons ?_ ?_)
    all_goals first | with_reducible rfl | exact yes_of ⟨rfl, rfl, rfl⟩ | exact decide_eq_true (by omega) | (simp; omega) | (simp [decInt]; omega)
  · exact jnF_all _ _ _ he
end Go.Proofs.Ytcpahifgdppkbaa.QAI
