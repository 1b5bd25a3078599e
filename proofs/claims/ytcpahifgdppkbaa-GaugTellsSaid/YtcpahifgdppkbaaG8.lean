/- GaugTells: what is called. -/
import Derived.Test.YtcpahifgdppkbaaG2
import Derived.Test.YtcpahifgdppkbaaG5
set_option linter.unusedVariables false
set_option linter.unusedSimpArgs false
namespace Go.Proofs.Ytcpahifgdppkbaa.QAI
open Go Go.RowKit
set_option maxRecDepth 100000
noncomputable def okG (L : Nat) : Ctx2 := GK [] (fun k => if k = 2 then [(6,none),(7,none)] else []) L
noncomputable def mkG (L : Nat) : Ctx2 := GK [] (fun k => if k = 2 then [(1,none),(3,none)] else []) L
noncomputable def KG4 : Known := [(150, afun (GK [] (fun _ => []) 0) 60 Try.f150)]
noncomputable def KG3 : Known := [(115, afun (GK KG4 (fun _ => []) 0) 60 Try.f115)]
theorem KG4_ok : KnownOk KG4 := gKcons (known0 gKnil 60 Try.func150) (by kernel_rfl) gKnil
theorem KG3_ok : KnownOk KG3 := gKcons (known0 KG4_ok 60 Try.func115) (by kernel_rfl) gKnil
noncomputable def rwG (L : Nat) : Ctx2 := GK KG3 (fun k => if k = 3 then [(1,none),(2,none),(5,none),(6,none)] else []) L
def okS (a : Nat → Int) (i : Int) : St := ⟨slots 17 [(6, aA a), (7, I64 i)], []⟩
def mkS (a : Nat → Int) (i : Int) : St := ⟨slots 20 [(1, .c (.ptr 0 0 0)), (3, I64 i)], [rowA a]⟩
def rwS (a : Nat → Int) (s : ByteArray) (n i : Int) : St := ⟨slots 21 [(1, Str s), (2, .c (.ptr 0 0 0)), (5, I64 n), (6, I64 i)], [rowA a]⟩
noncomputable def okR (L : Nat) (S : St) : Tr (Ex × St) := roundT (arun (okG L) 0 55 (bodyOf Try.f48 0)) (canon (okG L).T 0 ((okG L).keep 2)) S
noncomputable def mkR (L : Nat) (S : St) : Tr (Ex × St) := roundT (arun (mkG L) 0 55 (bodyOf Try.f49 0)) (canon (mkG L).T 0 ((mkG L).keep 2)) S
noncomputable def rwR (L : Nat) (S : St) : Tr (Ex × St) := roundT (arun (rwG L) 0 54 (bodyOf Try.f50 0)) (canon (rwG L).T 0 ((rwG L).keep 3)) S
noncomputable def tsR (L : Nat) (S : St) : Tr (Ex × St) := roundT (arun (tmG L) 0 55 (bodyOf Try.f46 0)) (canon (tmG L).T 0 ((tmG L).keep 2)) S
def ok_lor (a : Nat → Int) (i : Int) : Ex × St := (Ex.ret,
      {
        sl :=
          slots 17
            [(2, Bo false), (4, I64 (a i.toNat)),
              (6, AV.arr 256 fun k => Value.int IntKind.i64 (a k)), (7, I64 i),
              (8, Bo true), (9, I64 (a i.toNat)), (10, I64 (a i.toNat)),
              (11, Bo (decide (a i.toNat < (0 : Int)))), (12, Bo true),
              (13, AV.c (AC.v (Value.tuple { toList := [] }))),
              (14, AV.c (AC.v (Value.tuple { toList := [] }))), (15, Bo true)],
        h := [] })
theorem ok_lo {L : Nat} {a : Nat → Int} {i : Int} : (okR L (okS a i)).go [] =
  some
    ([decide (i < (256 : Int)), decide ((0 : Int) ≤ i), decide (i < ↑(256 : Nat)), decide (a i.toNat < (0 : Int)), true,
        true, true], ok_lor a i) := by kernel_rfl
def ok_hir (a : Nat → Int) (i : Int) : Ex × St := (Ex.ret,
      {
        sl :=
          slots 17
            [(2, Bo false), (4, I64 (a i.toNat)),
              (6, AV.arr 256 fun k => Value.int IntKind.i64 (a k)), (7, I64 i),
              (8, Bo true), (9, I64 (a i.toNat)), (10, I64 (a i.toNat)),
              (11, Bo (decide (a i.toNat < (0 : Int)))), (12, Bo false), (13, I64 (a i.toNat)),
              (14, Bo (decide (a i.toNat > (65536 : Int)))), (15, Bo true)],
        h := [] })
theorem ok_hi {L : Nat} {a : Nat → Int} {i : Int} : (okR L (okS a i)).go [true, true, true, false, false, false] =
  some
    ([decide (i < (256 : Int)), decide ((0 : Int) ≤ i), decide (i < ↑(256 : Nat)), !decide (a i.toNat < (0 : Int)),
        true, true, decide (a i.toNat > (65536 : Int))], ok_hir a i) := by kernel_rfl
theorem ok_go {L : Nat} {a : Nat → Int} {i : Int} : (okR L (okS a i)).go [true, true, true, false, false, false, false] =
  some
    ([decide (i < (256 : Int)), decide ((0 : Int) ≤ i), decide (i < ↑(256 : Nat)), !decide (a i.toNat < (0 : Int)),
        true, true, !decide (a i.toNat > (65536 : Int))],
      Ex.normal,
      {
        sl :=
          slots 17
            [(6, AV.arr 256 fun k => Value.int IntKind.i64 (a k)),
              (7, I64 (w64 (i + (1 : Int))))],
        h := [] }) := by kernel_rfl
def ok_endr (a : Nat → Int) (i : Int) : Ex × St := (Ex.exit 0,
      {
        sl :=
          slots 17
            [(6, AV.arr 256 fun k => Value.int IntKind.i64 (a k)), (7, I64 i),
              (8, Bo false)],
        h := [] })
theorem ok_end {L : Nat} {a : Nat → Int} {i : Int} : (okR L (okS a i)).go [false] =
  some
    ([!decide (i < (256 : Int))], ok_endr a i) := by kernel_rfl
def mk_lor (a : Nat → Int) (i : Int) : Ex × St := (Ex.ret,
      {
        sl :=
          slots 20
            [(1, AV.c (AC.ptr 0 0 0)), (2, Bo false), (3, I64 i),
              (4, I64 i), (5, Bo true), (8, I64 i),
              (9, AV.c (AC.ptr 0 0 0)),
              (10, AV.c (AC.ptr 0 i.toNat 0)), (11, I64 (a i.toNat)),
              (12, Bo (decide (a i.toNat < (0 : Int)))), (13, Bo true),
              (14, AV.c (AC.v (Value.tuple { toList := [] }))),
              (15, AV.c (AC.v (Value.tuple { toList := [] }))),
              (16, AV.c (AC.v (Value.tuple { toList := [] }))),
              (17, AV.c (AC.v (Value.tuple { toList := [] }))),
              (18, AV.c (AC.v (Value.tuple { toList := [] }))), (19, Bo true)],
        h :=
          [some
              { t := 35, own := true,
                c := Cont.row 1 256 fun k => [Value.int IntKind.i64 (a k)] }] })
theorem mk_lo {L : Nat} {a : Nat → Int} {i : Int} : (mkR L (mkS a i)).go [] =
  some
    ([decide (i < (256 : Int)), decide ((0 : Int) ≤ i), decide (i < ↑(256 : Nat)), decide (i.toNat < 256),
        decide (a i.toNat < (0 : Int)), true, true, true, true, true, true], mk_lor a i) := by kernel_rfl
def mk_hir (a : Nat → Int) (i : Int) : Ex × St := (Ex.ret,
      {
        sl :=
          slots 20
            [(1, AV.c (AC.ptr 0 0 0)), (2, Bo false), (3, I64 i),
              (4, I64 i), (5, Bo true), (8, I64 i),
              (9, AV.c (AC.ptr 0 0 0)),
              (10, AV.c (AC.ptr 0 i.toNat 0)), (11, I64 (a i.toNat)),
              (12, Bo (decide (a i.toNat < (0 : Int)))), (13, Bo false), (14, I64 i),
              (15, AV.c (AC.ptr 0 0 0)),
              (16, AV.c (AC.ptr 0 i.toNat 0)), (17, I64 (a i.toNat)),
              (18, Bo (decide (a i.toNat > (65536 : Int)))), (19, Bo true)],
        h :=
          [some
              { t := 35, own := true,
                c := Cont.row 1 256 fun k => [Value.int IntKind.i64 (a k)] }] })
theorem mk_hi {L : Nat} {a : Nat → Int} {i : Int} : (mkR L (mkS a i)).go [true, true, true, true, false, false, false, true, true, false, true, false, false] =
  some
    ([decide (i < (256 : Int)), decide ((0 : Int) ≤ i), decide (i < ↑(256 : Nat)), decide (i.toNat < 256),
        !decide (a i.toNat < (0 : Int)), true, true, decide ((0 : Int) ≤ i), decide (i < ↑(256 : Nat)), true,
        decide (i.toNat < 256), true, true, decide (a i.toNat > (65536 : Int))], mk_hir a i) := by kernel_rfl
theorem mk_go {L : Nat} {a : Nat → Int} {i : Int} : (mkR L (mkS a i)).go [true, true, true, true, false, false, false, true, true, false, true, false, false, false] =
  some
    ([decide (i < (256 : Int)), decide ((0 : Int) ≤ i), decide (i < ↑(256 : Nat)), decide (i.toNat < 256),
        !decide (a i.toNat < (0 : Int)), true, true, decide ((0 : Int) ≤ i), decide (i < ↑(256 : Nat)), true,
        decide (i.toNat < 256), true, true, !decide (a i.toNat > (65536 : Int))],
      Ex.normal,
      {
        sl :=
          slots 20
            [(1, AV.c (AC.ptr 0 0 0)), (3, I64 (w64 (i + (1 : Int))))],
        h :=
          [some
              { t := 35, own := true,
                c := Cont.row 1 256 fun k => [Value.int IntKind.i64 (a k)] }] }) := by kernel_rfl
def mk_endr (a : Nat → Int) (i : Int) : Ex × St := (Ex.exit 0,
      {
        sl :=
          slots 20
            [(1, AV.c (AC.ptr 0 0 0)), (3, I64 i), (4, I64 i),
              (5, Bo false)],
        h :=
          [some
              { t := 35, own := true,
                c := Cont.row 1 256 fun k => [Value.int IntKind.i64 (a k)] }] })
theorem mk_end {L : Nat} {a : Nat → Int} {i : Int} : (mkR L (mkS a i)).go [false] =
  some
    ([!decide (i < (256 : Int))], mk_endr a i) := by kernel_rfl
theorem rw_go {L : Nat} {a : Nat → Int} {s : ByteArray} {n i : Int} : (rwR L (rwS a s n i)).go [] =
  some
    ([decide (i < ↑s.size), true, decide ((0 : Int) ≤ i), decide (i < ↑s.size), true, decide (bt s i < ↑(256 : Nat)),
        decide ((bt s i).toNat < 256)],
      Ex.normal,
      {
        sl :=
          slots 21
            [(1, AV.c (AC.v (Value.string s))), (2, AV.c (AC.ptr 0 0 0)),
              (5, I64 (w64 (n + mnI (65536 : Int) (mxI (0 : Int) (a (bt s i).toNat))))),
              (6, I64 (w64 (i + (1 : Int))))],
        h :=
          [some
              { t := 35, own := true,
                c := Cont.row 1 256 fun k => [Value.int IntKind.i64 (a k)] }] }) := by kernel_rfl
def rw_endr (a : Nat → Int) (s : ByteArray) (n : Int) (i : Int) : Ex × St := (Ex.exit 0,
      {
        sl :=
          slots 21
            [(1, AV.c (AC.v (Value.string s))), (2, AV.c (AC.ptr 0 0 0)),
              (5, I64 n), (6, I64 i), (7, I64 i), (8, AV.c (AC.v (Value.string s))),
              (9, I64 ↑s.size), (10, Bo false)],
        h :=
          [some
              { t := 35, own := true,
                c := Cont.row 1 256 fun k => [Value.int IntKind.i64 (a k)] }] })
theorem rw_end {L : Nat} {a : Nat → Int} {s : ByteArray} {n i : Int} : (rwR L (rwS a s n i)).go [false] =
  some
    ([!decide (i < ↑s.size)], rw_endr a s n i) := by kernel_rfl
theorem ts_go {L : Nat} {a : Nat → Int} {i : Int} : (tsR L (tmS a true i)).go [] =
  some
    ([decide (i < (256 : Int)), decide ((0 : Int) ≤ i), decide (i < ↑(256 : Nat)), decide (i.toNat < 256), true,
        decide ((0 : Int) ≤ i), decide (i < ↑(256 : Nat)), decide (i.toNat < 256), true, decide ((0 : Int) ≤ i),
        decide (i < ↑(256 : Nat)), decide (i.toNat < 256), decide ((0 : Int) ≤ i), decide (i < ↑(256 : Nat)),
        decide (i.toNat < 256)],
      Ex.normal,
      {
        sl :=
          slots 55
            [(1, Bo true), (2, AV.c (AC.ptr 0 0 0)),
              (4, AV.c (AC.ptr 1 0 0)), (5, I64 (w64 (i + (1 : Int))))],
        h :=
          [some
              { t := 35, own := true,
                c :=
                  Cont.row 1 256 fun k =>
                    [Value.int IntKind.i64
                        (bif decide (k = i.toNat) then
                          and64
                            (bif decide (i.toNat = i.toNat) then w64 ((u64 (a i.toNat)).tmod (65537 : Int))
                            else a i.toNat)
                            (15 : Int)
                        else bif decide (k = i.toNat) then w64 ((u64 (a i.toNat)).tmod (65537 : Int)) else a k)] },
            some
              { t := 35, own := true,
                c := Cont.row 1 256 fun k => [Value.int IntKind.i64 (0 : Int)] }] }) := by kernel_rfl
def ts_endr (a : Nat → Int) (i : Int) : Ex × St := (Ex.exit 0,
      {
        sl :=
          slots 55
            [(1, Bo true), (2, AV.c (AC.ptr 0 0 0)),
              (4, AV.c (AC.ptr 1 0 0)), (5, I64 i), (6, I64 i),
              (7, Bo false)],
        h :=
          [some
              { t := 35, own := true,
                c := Cont.row 1 256 fun k => [Value.int IntKind.i64 (a k)] },
            some
              { t := 35, own := true,
                c := Cont.row 1 256 fun k => [Value.int IntKind.i64 (0 : Int)] }] })
theorem ts_end {L : Nat} {a : Nat → Int} {i : Int} : (tsR L (tmS a true i)).go [false] =
  some
    ([!decide (i < (256 : Int))], ts_endr a i) := by kernel_rfl
theorem first_bad (p : Nat → Bool) : ∀ n, (∀ k, k < n → p k = true) ∨ ∃ N, N < n ∧ p N = false ∧ ∀ k, k < N → p k = true
  | 0 => .inl fun k hk => by omega
  | n + 1 => by
    rcases first_bad p n with h | ⟨N, h1, h2, h3⟩
    · cases hp : p n with
      | true =>
        refine .inl fun k hk => ?_
        by_cases e : k = n
        · rw [e, hp]
        · exact h k (by omega)
      | false => exact .inr ⟨n, by omega, hp, h⟩
    · exact .inr ⟨N, by omega, h2, h3⟩
def inR (x : Int) : Bool := decide (0 ≤ x) && decide (x ≤ 65536)
def okB (a : Nat → Int) : Bool := allB 256 fun k => inR (a k)
theorem okB_true {a : Nat → Int} (h : ∀ k, k < 256 → inR (a k) = true) : okB a = true := by
  simp only [okB, allB, List.all_eq_true, List.mem_range]
  exact h
theorem okB_false {a : Nat → Int} {N : Nat} (h : N < 256) (hb : inR (a N) = false) : okB a = false := by
  cases e : okB a with
  | false => rfl
  | true =>
    simp only [okB, allB, List.all_eq_true, List.mem_range] at e
    rw [e N h] at hb
    cases hb
theorem inR_iff (x : Int) : inR x = true ↔ 0 ≤ x ∧ x ≤ 65536 := by simp [inR]
theorem ok_upto {L : Nat} {a : Nat → Int} {N : Nat} {r : Ex × St} (hL : 256 < L) (hN : N ≤ 256) (hr : r.1 ≠ .normal) (h : round (arun (okG L) 0 55 (bodyOf Try.f48 0)) (canon (okG L).T 0 ((okG L).keep 2)) (okS a N) = some r) (hb : ∀ k, k < N → inR (a k) = true) :
    (iter (arun (okG L) 0 55 (bodyOf Try.f48 0)) (canon (okG L).T 0 ((okG L).keep 2)) L (okS a 0)).eval = some r := by
  refine iter_upto (fun i => okS a i) (N := N) (e := r.1) hr h L 0 (Nat.zero_le _) (by omega) fun j _ hj => ?_
  have hx := (inR_iff _).1 (hb j hj)
  have h3 : w64 ((j : Int) + 1) = ((j + 1 : Nat) : Int) := by rw [w64_id (by omega) (by omega)]; omega
  have hg := ok_go (L := L) (a := a) (i := j)
  rw [h3] at hg
  simp only [Int.toNat_natCast] at hg
  refine round_go hg ?_
  repeat' (first | exact AllT.nil | refine AllT.cons ?_ ?_)
  all_goals first | rfl | exact decide_eq_true (by omega) | (simp; done) | (simp; omega)
theorem mk_upto {L : Nat} {a : Nat → Int} {N : Nat} {r : Ex × St} (hL : 256 < L) (hN : N ≤ 256) (hr : r.1 ≠ .normal) (h : round (arun (mkG L) 0 55 (bodyOf Try.f49 0)) (canon (mkG L).T 0 ((mkG L).keep 2)) (mkS a N) = some r) (hb : ∀ k, k < N → inR (a k) = true) :
    (iter (arun (mkG L) 0 55 (bodyOf Try.f49 0)) (canon (mkG L).T 0 ((mkG L).keep 2)) L (mkS a 0)).eval = some r := by
  refine iter_upto (fun i => mkS a i) (N := N) (e := r.1) hr h L 0 (Nat.zero_le _) (by omega) fun j _ hj => ?_
  have hx := (inR_iff _).1 (hb j hj)
  have h3 : w64 ((j : Int) + 1) = ((j + 1 : Nat) : Int) := by rw [w64_id (by omega) (by omega)]; omega
  have hg := mk_go (L := L) (a := a) (i := j)
  rw [h3] at hg
  simp only [Int.toNat_natCast] at hg
  refine round_go hg ?_
  repeat' (first | exact AllT.nil | refine AllT.cons ?_ ?_)
  all_goals first | rfl | exact decide_eq_true (by omega) | (simp; done) | (simp; omega)
theorem ok_w1 {L : Nat} {a : Nat → Int} {i : Int} : (lfun (okG L) (told 55 (bodyOf Try.f48 0) (okS a 0) (ok_lor a i)) 60 Try.f48 [aA a] []).go [] =
  some ([true, yes (was 55 (bodyOf Try.f48 0) (okS a 0))], Bo false, []) := by kernel_rfl
theorem ok_w2 {L : Nat} {a : Nat → Int} {i : Int} : (lfun (okG L) (told 55 (bodyOf Try.f48 0) (okS a 0) (ok_hir a i)) 60 Try.f48 [aA a] []).go [] =
  some ([true, yes (was 55 (bodyOf Try.f48 0) (okS a 0))], Bo false, []) := by kernel_rfl
theorem ok_w3 {L : Nat} {a : Nat → Int} {i : Int} : (lfun (okG L) (told 55 (bodyOf Try.f48 0) (okS a 0) (ok_endr a i)) 60 Try.f48 [aA a] []).go [] =
  some ([true, yes (was 55 (bodyOf Try.f48 0) (okS a 0))], Bo true, []) := by kernel_rfl
theorem mk_w1 {L : Nat} {a : Nat → Int} {i : Int} : (lfun (mkG L) (told 55 (bodyOf Try.f49 0) (mkS a 0) (mk_lor a i)) 60 Try.f49 [aA a] []).go [] =
  some ([yes (was 55 (bodyOf Try.f49 0) (mkS a 0))], Bo false, []) := by kernel_rfl
theorem mk_w2 {L : Nat} {a : Nat → Int} {i : Int} : (lfun (mkG L) (told 55 (bodyOf Try.f49 0) (mkS a 0) (mk_hir a i)) 60 Try.f49 [aA a] []).go [] =
  some ([yes (was 55 (bodyOf Try.f49 0) (mkS a 0))], Bo false, []) := by kernel_rfl
theorem mk_w3 {L : Nat} {a : Nat → Int} {i : Int} : (lfun (mkG L) (told 55 (bodyOf Try.f49 0) (mkS a 0) (mk_endr a i)) 60 Try.f49 [aA a] []).go [] =
  some ([yes (was 55 (bodyOf Try.f49 0) (mkS a 0))], Bo true, []) := by kernel_rfl
noncomputable def okF : Spec := fun args h => match args, h with
  | [.arr 256 f], [] => .need (yes (f = fun k => .int .i64 (dv (f k)))) (.ret (Bo (okB fun k => dv (f k)), []))
  | _, _ => .fail
theorem okF_ok : SpecOk Try.prog 48 okF := by
  refine known' gKnil Try.func48 fun args h r he => ?_
  unfold okF at he
  split at he
  · rename_i f
    obtain ⟨h1, he⟩ := Tr.eval_ask.1 he
    cases he
    have key : (afun (okG 257) 60 Try.f48 [aA fun k => dv (f k)] []).eval = some (Bo (okB fun k => dv (f k)), []) := by
      rcases first_bad (fun k => inR (dv (f k))) 256 with h | ⟨N, h2, h3, h4⟩
      · rw [okB_true h]
        exact lfun_go (h := []) (told_ok (ok_upto (L := 257) (N := 256) (by decide) (Nat.le_refl _) (by simp [ok_endr]) (round_go ok_end ⟨by simp, trivial⟩) h)) ok_w3 ⟨rfl, yes_of ⟨rfl, rfl, rfl⟩, trivial⟩
      · rw [okB_false h2 h3]
        have h5 : ¬ (0 ≤ dv (f N) ∧ dv (f N) ≤ 65536) := fun e => by rw [(inR_iff _).2 e] at h3; cases h3
        by_cases h6 : dv (f N) < 0
        · refine lfun_go (h := []) (told_ok (ok_upto (L := 257) (N := N) (by decide) (by omega) (by simp [ok_lor]) (round_go (ok_lo (i := N)) ?_) h4)) ok_w1 ⟨rfl, yes_of ⟨rfl, rfl, rfl⟩, trivial⟩
          simp only [Int.toNat_natCast]
          repeat' (first | exact AllT.nil | refine AllT.cons ?_ ?_)
          all_goals first | rfl | exact decide_eq_true (by omega) | (simp; done) | (simp; omega)
        · refine lfun_go (h := []) (told_ok (ok_upto (L := 257) (N := N) (by decide) (by omega) (by simp [ok_hir]) (round_go (ok_hi (i := N)) ?_) h4)) ok_w2 ⟨rfl, yes_of ⟨rfl, rfl, rfl⟩, trivial⟩
          simp only [Int.toNat_natCast]
          repeat' (first | exact AllT.nil | refine AllT.cons ?_ ?_)
          all_goals first | rfl | exact decide_eq_true (by omega) | (simp; done) | (simp; omega)
    rw [aA, ← h1] at key
    exact ⟨_, _, _, key⟩
  · cases he
theorem mkF_ok : SpecOk Try.prog 49 okF := by
  refine known' gKnil Try.func49 fun args h r he => ?_
  unfold okF at he
  split at he
  · rename_i f
    obtain ⟨h1, he⟩ := Tr.eval_ask.1 he
    cases he
    have key : (afun (mkG 257) 60 Try.f49 [aA fun k => dv (f k)] []).eval = some (Bo (okB fun k => dv (f k)), []) := by
      rcases first_bad (fun k => inR (dv (f k))) 256 with h | ⟨N, h2, h3, h4⟩
      · rw [okB_true h]
        exact lfun_go (h := []) (told_ok (mk_upto (L := 257) (N := 256) (by decide) (Nat.le_refl _) (by simp [mk_endr]) (round_go mk_end ⟨by simp, trivial⟩) h)) mk_w3 ⟨yes_of ⟨rfl, rfl, rfl⟩, trivial⟩
      · rw [okB_false h2 h3]
        have h5 : ¬ (0 ≤ dv (f N) ∧ dv (f N) ≤ 65536) := fun e => by rw [(inR_iff _).2 e] at h3; cases h3
        by_cases h6 : dv (f N) < 0
        · refine lfun_go (h := []) (told_ok (mk_upto (L := 257) (N := N) (by decide) (by omega) (by simp [mk_lor]) (round_go (mk_lo (i := N)) ?_) h4)) mk_w1 ⟨yes_of ⟨rfl, rfl, rfl⟩, trivial⟩
          simp only [Int.toNat_natCast]
          repeat' (first | exact AllT.nil | refine AllT.cons ?_ ?_)
          all_goals first | rfl | exact decide_eq_true (by omega) | (simp; done) | (simp; omega)
        · refine lfun_go (h := []) (told_ok (mk_upto (L := 257) (N := N) (by decide) (by omega) (by simp [mk_hir]) (round_go (mk_hi (i := N)) ?_) h4)) mk_w2 ⟨yes_of ⟨rfl, rfl, rfl⟩, trivial⟩
          simp only [Int.toNat_natCast]
          repeat' (first | exact AllT.nil | refine AllT.cons ?_ ?_)
          all_goals first | rfl | exact decide_eq_true (by omega) | (simp; done) | (simp; omega)
    rw [aA, ← h1] at key
    exact ⟨_, _, _, key⟩
  · cases he
theorem rw_loop {L : Nat} {a : Nat → Int} {s : ByteArray} (hs : s.size ≤ 2 ^ 40) (hL : s.size < L) :
    (iter (arun (rwG L) 0 54 (bodyOf Try.f50 0)) (canon (rwG L).T 0 ((rwG L).keep 3)) L (rwS a s 0 0)).eval = some (rw_endr a s (cs a s.data.toList) s.size) := by
  refine iter_upto (fun i => rwS a s (cs a (s.data.toList.take i)) i) (N := s.size) (e := .exit 0) (by simp) ?_ L 0 (Nat.zero_le _) (by omega) ?_
  · have e : s.data.toList.take s.size = s.data.toList := by rw [← size_len, List.take_length]
    simp only [e]
    exact round_go rw_end ⟨by simp, trivial⟩
  · intro j _ hj
    have hjl : j < s.data.toList.length := by rw [size_len]; exact hj
    have h3 : w64 ((j : Int) + 1) = ((j + 1 : Nat) : Int) := by rw [w64_id (by omega) (by omega)]; omega
    have hb := bt_at s hjl
    have hlt : s.data.toList[j].toNat < 256 := UInt8.toNat_lt _
    have h8 : w64 (cs a (s.data.toList.take j) + cl (a (bt s j).toNat)) = cs a (s.data.toList.take (j + 1)) := by
      have hc := cs_b a (s.data.toList.take j)
      have hcl := cl_b (a (bt s j).toNat)
      have hlen : (s.data.toList.take j).length ≤ j := by simp; omega
      rw [List.take_add_one, List.getElem?_eq_getElem hjl, Option.toList_some, cs_append, cs_one]
      have e : (bt s j).toNat = s.data.toList[j].toNat := by rw [hb]; omega
      rw [e] at hcl ⊢
      exact w64_id (by omega) (by omega)
    have hg := rw_go (L := L) (a := a) (s := s) (n := cs a (s.data.toList.take j)) (i := j)
    rw [h3, show mnI 65536 (mxI 0 (a (bt s j).toNat)) = cl (a (bt s j).toNat) from rfl, h8] at hg
    refine round_go hg ?_
    repeat' (first | exact AllT.nil | refine AllT.cons ?_ ?_)
    all_goals first | rfl | exact decide_eq_true (by omega) | (simp; done) | (simp; omega)
theorem rw_w {L : Nat} {a : Nat → Int} {s : ByteArray} {n : Int} : (lfun (rwG L) (told 54 (bodyOf Try.f50 0) (rwS a s 0 0) (rw_endr a s n s.size)) 60 Try.f50 [aA a, Str s] []).go [] =
  some ([yes (was 54 (bodyOf Try.f50 0) (rwS a s 0 0))], I64 n, []) := by kernel_rfl
theorem rwF_ok : SpecOk Try.prog 50 (wdF fun _ _ => .fail) := by
  refine known' KG3_ok Try.func50 fun args h r he => ?_
  unfold wdF at he
  split at he
  · rename_i f s
    obtain ⟨⟨h0, h1⟩, he⟩ := Tr.eval_ask.1 he
    cases he
    have key : (afun (rwG (s.size + 1)) 60 Try.f50 [aA fun k => dv (f k), Str s] []).eval = some (I64 (cs (fun k => dv (f k)) s.data.toList), []) := by
      refine lfun_go (h := []) (told_ok (rw_loop h0 (Nat.lt_succ_self _))) rw_w ?_
      repeat' (first | exact AllT.nil | refine AllT.cons ?_ ?_)
      all_goals first | rfl | exact yes_of ⟨rfl, rfl, rfl⟩
    rw [aA, ← h1] at key
    exact ⟨_, _, _, key⟩
  · cases he
/- Brought near, small. -/
def tsm (a : Nat → Int) (i : Nat) : Nat → Int := fun j => if j < i then and64 (tu (a j)) 15 else a j
theorem ts_loop {L : Nat} {a : Nat → Int} (hL : 256 < L) :
    (iter (arun (tmG L) 0 55 (bodyOf Try.f46 0)) (canon (tmG L).T 0 ((tmG L).keep 2)) L (tmS (tsm a 0) true 0)).eval = some (ts_endr (tsm a 256) 256) := by
  refine iter_upto (fun i => tmS (tsm a i) true i) (N := 256) (e := .exit 0) (by simp) ?_ L 0 (Nat.zero_le _) (by omega) ?_
  · exact round_go ts_end ⟨by simp, trivial⟩
  · intro j _ hj
    have h3 : w64 ((j : Int) + 1) = ((j + 1 : Nat) : Int) := by rw [w64_id (by omega) (by omega)]; omega
    have hg := ts_go (L := L) (a := tsm a j) (i := j)
    rw [h3, Int.toNat_natCast] at hg
    have e : (fun k => [Value.int IntKind.i64 (bif decide (k = j) then and64 (bif decide (j = j) then w64 ((u64 (tsm a j j)).tmod 65537) else tsm a j j) 15 else bif decide (k = j) then w64 ((u64 (tsm a j j)).tmod 65537) else tsm a j k)]) = fun k => v1 (tsm a (j + 1) k) := by
      funext k
      by_cases h : k = j
      · subst h
        simp [tsm, v1, tu]
      · by_cases h2 : k < j
        · have : k < j + 1 := by omega
          simp [h, tsm, v1, h2, this]
        · have : ¬ k < j + 1 := by omega
          simp [h, tsm, v1, h2, this]
    rw [e] at hg
    refine round_go hg ?_
    repeat' (first | exact AllT.nil | refine AllT.cons ?_ ?_)
    all_goals first | rfl | exact decide_eq_true (by omega) | (simp; done) | (simp; omega)
def ts_wr (a : Nat → Int) : AV × AHeap := (AV.arr 256 fun k =>
        Value.int IntKind.i64
          (bif decide (k = Int.toNat (32 : Int)) then w64 (tsm a 256 (Int.toNat (32 : Int)) + (32 : Int))
          else
            bif decide (k = Int.toNat (99 : Int)) then w64 (tsm a 256 (Int.toNat (99 : Int)) + (640 : Int))
            else
              bif decide (k = Int.toNat (98 : Int)) then w64 (tsm a 256 (Int.toNat (98 : Int)) + (100 : Int))
              else
                bif decide (k = Int.toNat (97 : Int)) then w64 (tsm a 256 (Int.toNat (97 : Int)) + (64 : Int))
                else tsm a 256 k),
      [])
theorem ts_w {L : Nat} {a : Nat → Int} : (lfun (tmG L) (told 55 (bodyOf Try.f46 0) (tmS (tsm a 0) true 0) (ts_endr (tsm a 256) 256)) 60 Try.f46 [aA a, Bo true] []).go [] =
  some
    ([yes (was 55 (bodyOf Try.f46 0) (tmS (tsm a 0) true 0)), true, true, true, true, true, true, true, true, true, true, true, true, true, true, true, true, true,
        true, true, true, true, true, true, true, true, true, true], ts_wr a) := by kernel_rfl
def tz (a : Nat → Int) : Nat → Int := fun k =>
  if k = 32 then w64 (tsm a 256 32 + 32) else if k = 99 then w64 (tsm a 256 99 + 640) else if k = 98 then w64 (tsm a 256 98 + 100) else if k = 97 then w64 (tsm a 256 97 + 64) else tsm a 256 k
theorem ts_wr_eq (a : Nat → Int) : ts_wr a = (aA (tz a), []) := by
  unfold ts_wr aA tz
  congr 2
  funext k
  congr 1
  by_cases h1 : k = 32
  · subst h1; rfl
  by_cases h2 : k = 99
  · subst h2; rfl
  by_cases h3 : k = 98
  · subst h3; rfl
  by_cases h4 : k = 97
  · subst h4; rfl
  have e1 : ¬ k = Int.toNat 32 := h1
  have e2 : ¬ k = Int.toNat 99 := h2
  have e3 : ¬ k = Int.toNat 98 := h3
  have e4 : ¬ k = Int.toNat 97 := h4
  simp only [e1, e2, e3, e4, h1, h2, h3, h4, decide_false, cond_false, if_false]
theorem tsm_b (a : Nat → Int) {k : Nat} (hk : k < 256) : 0 ≤ tsm a 256 k ∧ tsm a 256 k ≤ 15 := by
  unfold tsm
  simp only [hk, if_true]
  rw [and_mask 4 (by decide) _ 15 rfl]
  omega
theorem tz_b (a : Nat → Int) {k : Nat} (hk : k < 256) : 0 ≤ tz a k ∧ tz a k ≤ 655 := by
  have h1 := tsm_b a (k := 32) (by decide)
  have h2 := tsm_b a (k := 99) (by decide)
  have h3 := tsm_b a (k := 98) (by decide)
  have h4 := tsm_b a (k := 97) (by decide)
  have h5 := tsm_b a hk
  unfold tz
  rw [w64_id (by omega) (by omega), w64_id (by omega) (by omega), w64_id (by omega) (by omega), w64_id (by omega) (by omega)]
  split
  · omega
  · split
    · omega
    · split
      · omega
      · split <;> omega
noncomputable def tmF2 : Spec := fun args h => match args, h with
  | [.arr 256 f, .c (.v (.bool false))], [] => .need (yes (f = fun k => .int .i64 (dv (f k)))) (.ret (aA (ta (fun k => dv (f k)) 256), []))
  | [.arr 256 f, .c (.v (.bool true))], [] => .need (yes (f = fun k => .int .i64 (dv (f k)))) (.ret (aA (tz fun k => dv (f k)), []))
  | _, _ => .fail
theorem tmF2_ok : SpecOk Try.prog 46 tmF2 := by
  refine known' gKnil Try.func46 fun args h r he => ?_
  unfold tmF2 at he
  split at he
  · rename_i f
    obtain ⟨h1, he⟩ := Tr.eval_ask.1 he
    cases he
    have hl : LoopsOk (tmG 257) 0 _ := told_ok (tm_loop (L := 257) (a := fun k => dv (f k)) (by decide))
    have hw := tm_whole (L := 257) (a := fun k => dv (f k))
    rw [yes_of ⟨rfl, rfl, rfl⟩] at hw
    have hf := lfun_ok (h := []) hl hw
    rw [aA, ← h1] at hf
    exact ⟨_, _, _, hf⟩
  · rename_i f
    obtain ⟨h1, he⟩ := Tr.eval_ask.1 he
    cases he
    have key : (afun (tmG 257) 60 Try.f46 [aA fun k => dv (f k), Bo true] []).eval = some (aA (tz fun k => dv (f k)), []) := by
      rw [← ts_wr_eq]
      refine lfun_go (h := []) (told_ok (ts_loop (L := 257) (by decide))) ts_w ?_
      repeat' (first | exact AllT.nil | refine AllT.cons ?_ ?_)
      all_goals first | rfl | exact yes_of ⟨rfl, rfl, rfl⟩
    rw [aA, ← h1] at key
    exact ⟨_, _, _, key⟩
  · cases he
noncomputable def KGT : Known := [(45, sAwakeG), (46, tmF2), (47, wdF fun _ _ => .fail), (48, okF), (49, okF), (50, wdF fun _ _ => .fail), (51, afun (GK [] (fun _ => []) 0) 60 Try.f51), (52, afun (GK [] (fun _ => []) 0) 60 Try.f52)]
theorem KGT_ok : KnownOk KGT := gKcons awakeG_ok (by kernel_rfl) (gKcons tmF2_ok (by kernel_rfl) (gKcons wdF_ok (by kernel_rfl) (gKcons okF_ok (by kernel_rfl) (gKcons mkF_ok (by kernel_rfl) (gKcons rwF_ok (by kernel_rfl) (gKcons (known0 gKnil 60 Try.func51) (by kernel_rfl) (gKcons (known0 gKnil 60 Try.func52) (by kernel_rfl) gKnil)))))))
end Go.Proofs.Ytcpahifgdppkbaa.QAI
