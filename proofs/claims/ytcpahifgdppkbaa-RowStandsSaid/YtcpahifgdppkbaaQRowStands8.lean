/- Where lines end: what the program's line comes to. -/
import Derived.Test.YtcpahifgdppkbaaQRowStands7
section
set_option linter.unusedVariables false
set_option linter.unusedSimpArgs false
namespace Go.Proofs.Ytcpahifgdppkbaa.QAI
open Go Go.RowKit
set_option maxRecDepth 100000
theorem ln_round {own : Bool} {k n : Nat} {L : Nat → Gl} {A : Int} {o c : Nat} (hk : k ≤ n) (hk2 : k < 2 ^ 30) (hL : WOk L) (hc : o + c ≤ k) :
    (lnT own k n L A o (lnU k L A o c).1 (lnU k L A o c).2 (sw L o c) ((o + c : Nat) : Int)).eval =
      if doneP k L A o c = true then some (.ret, lnZ own n L o (lnU k L A o (c + 1)).1 (lnU k L A o (c + 1)).2)
      else some (.normal, lnS own k n L A o (lnU k L A o (c + 1)).1 (lnU k L A o (c + 1)).2 (sw L o (c + 1)) ((o + (c + 1) : Nat) : Int)) := by
  have hsb := sw_b hL o c
  have hwb := hL (o + c)
  have h3 : w64 (((o + c : Nat) : Int) + 1) = ((o + (c + 1) : Nat) : Int) := by rw [w64_id (by omega) (by omega)]; omega
  have h4 : w64 (sw L o c + (L (o + c)).w) = sw L o (c + 1) := by rw [w64_id (by omega) (by omega)]; rfl
  have hd0 : doneP k L A o c = (stopA k L (o + c) || (decide (0 ≤ (lnU k L A o (c + 1)).1) && decide (A < sw L o c))) := rfl
  have hu0 : lnU k L A o (c + 1) = bif partA k L (o + c) && (decide ((lnU k L A o c).1 < 0) || decide (sw L o c ≤ A)) then (((o + c : Nat) : Int), sw L o c) else lnU k L A o c := rfl
  have hst : stopA k L (o + c) = (decide (o + c = k) || brk (L (o + c))) := rfl
  have hpa : partA k L (o + c) = (stopA k L (o + c) || spc (L (o + c))) := rfl
  generalize lnU k L A o c = u at *
  generalize lnU k L A o (c + 1) = u' at *
  obtain ⟨t, ow⟩ := u
  simp only at hu0 ⊢
  by_cases hE : o + c = k
  · by_cases ht : t < 0
    · have hu : u' = (((o + c : Nat) : Int), sw L o c) := by rw [hu0, hpa, hst]; simp [hE, ht]
      have hd : doneP k L A o c = true := by rw [hd0, hst, hu]; simp [hE, ht]
      rw [hd, hu]
      refine (rT_go ln_Et ?_).trans ?_
      · try simp only [Int.toNat_natCast, Nat.zero_add]
        repeat' (first | exact AllT.nil | refine AllT.cons ?_ ?_)
        all_goals first | (with_reducible rfl) | (with_reducible assumption) | exact decide_eq_true (by omega) | exact beq_iff_eq.2 (by omega) | (simp; done) | (simp; omega)
      · rfl
    · by_cases hA : sw L o c ≤ A
      · have hu : u' = (((o + c : Nat) : Int), sw L o c) := by rw [hu0, hpa, hst]; simp [hE, ht, hA]
        have hd : doneP k L A o c = true := by rw [hd0, hst, hu]; simp [hE, ht, hA]
        rw [hd, hu]
        refine (rT_go ln_Eft ?_).trans ?_
        · try simp only [Int.toNat_natCast, Nat.zero_add]
          repeat' (first | exact AllT.nil | refine AllT.cons ?_ ?_)
          all_goals first | (with_reducible rfl) | (with_reducible assumption) | exact decide_eq_true (by omega) | exact beq_iff_eq.2 (by omega) | (simp; done) | (simp; omega)
        · rfl
      · have hu : u' = (t, ow) := by rw [hu0, hpa, hst]; simp [hE, ht, hA]
        have hd : doneP k L A o c = true := by rw [hd0, hst, hu]; simp [hE, ht, hA]
        rw [hd, hu]
        refine (rT_go ln_Eff ?_).trans ?_
        · try simp only [Int.toNat_natCast, Nat.zero_add]
          repeat' (first | exact AllT.nil | refine AllT.cons ?_ ?_)
          all_goals first | (with_reducible rfl) | (with_reducible assumption) | exact decide_eq_true (by omega) | exact beq_iff_eq.2 (by omega) | (simp; done) | (simp; omega)
        · rfl
  · by_cases hb : brk (L (o + c)) = true
    · have hb' : ((L (o + c)).k == 4) = true := hb
      by_cases ht : t < 0
      · have hu : u' = (((o + c : Nat) : Int), sw L o c) := by rw [hu0, hpa, hst]; simp [hE, hb, ht]
        have hd : doneP k L A o c = true := by rw [hd0, hst, hu]; simp [hE, hb, ht]
        rw [hd, hu]
        refine (rT_go ln_Bt ?_).trans ?_
        · try simp only [Int.toNat_natCast, Nat.zero_add]
          repeat' (first | exact AllT.nil | refine AllT.cons ?_ ?_)
          all_goals first | (with_reducible rfl) | (with_reducible assumption) | exact decide_eq_true (by omega) | exact beq_iff_eq.2 (by omega) | (simp; done) | (simp; omega)
        · rfl
      · by_cases hA : sw L o c ≤ A
        · have hu : u' = (((o + c : Nat) : Int), sw L o c) := by rw [hu0, hpa, hst]; simp [hE, hb, ht, hA]
          have hd : doneP k L A o c = true := by rw [hd0, hst, hu]; simp [hE, hb, ht, hA]
          rw [hd, hu]
          refine (rT_go ln_Bft ?_).trans ?_
          · try simp only [Int.toNat_natCast, Nat.zero_add]
            repeat' (first | exact AllT.nil | refine AllT.cons ?_ ?_)
            all_goals first | (with_reducible rfl) | (with_reducible assumption) | exact decide_eq_true (by omega) | exact beq_iff_eq.2 (by omega) | (simp; done) | (simp; omega)
          · rfl
        · have hu : u' = (t, ow) := by rw [hu0, hpa, hst]; simp [hE, hb, ht, hA]
          have hd : doneP k L A o c = true := by rw [hd0, hst, hu]; simp [hE, hb, ht, hA]
          rw [hd, hu]
          refine (rT_go ln_Bff ?_).trans ?_
          · try simp only [Int.toNat_natCast, Nat.zero_add]
            repeat' (first | exact AllT.nil | refine AllT.cons ?_ ?_)
            all_goals first | (with_reducible rfl) | (with_reducible assumption) | exact decide_eq_true (by omega) | exact beq_iff_eq.2 (by omega) | (simp; done) | (simp; omega)
          · rfl
    · have hbf : brk (L (o + c)) = false := by simpa using hb
      have hb' : (!((L (o + c)).k == 4)) = true := by have h : ((L (o + c)).k == 4) = false := hbf; rw [h]; rfl
      by_cases hs : spc (L (o + c)) = true
      · have hs' : ((L (o + c)).k == 2) = true := hs
        by_cases ht : t < 0
        · by_cases hA : A < sw L o c
          · have hu : u' = (((o + c : Nat) : Int), sw L o c) := by rw [hu0, hpa, hst]; simp [hE, hbf, hs, ht, hA]
            have hd : doneP k L A o c = true := by rw [hd0, hst, hu]; simp [hE, hbf, hs, ht, hA] <;> omega
            rw [hd, hu]
            refine (rT_go ln_Stt ?_).trans ?_
            · try simp only [Int.toNat_natCast, Nat.zero_add]
              repeat' (first | exact AllT.nil | refine AllT.cons ?_ ?_)
              all_goals first | (with_reducible rfl) | (with_reducible assumption) | exact decide_eq_true (by omega) | exact beq_iff_eq.2 (by omega) | (simp; done) | (simp; omega)
            · rfl
          · have hu : u' = (((o + c : Nat) : Int), sw L o c) := by rw [hu0, hpa, hst]; simp [hE, hbf, hs, ht, hA]
            have hd : doneP k L A o c = false := by rw [hd0, hst, hu]; simp [hE, hbf, hs, ht, hA] <;> omega
            rw [hd, hu]
            refine (rT_go ln_Stf ?_).trans ?_
            · try simp only [Int.toNat_natCast, Nat.zero_add]
              repeat' (first | exact AllT.nil | refine AllT.cons ?_ ?_)
              all_goals first | (with_reducible rfl) | (with_reducible assumption) | exact decide_eq_true (by omega) | exact beq_iff_eq.2 (by omega) | (simp; done) | (simp; omega)
            · simp only [Int.toNat_natCast, Nat.zero_add, h3, h4]
              rfl
        · by_cases hA : A < sw L o c
          · have hA2 : ¬ sw L o c ≤ A := by omega
            have hu : u' = (t, ow) := by rw [hu0, hpa, hst]; simp [hE, hbf, hs, ht, hA, hA2]
            have hd : doneP k L A o c = true := by rw [hd0, hst, hu]; simp [hE, hbf, hs, ht, hA, hA2] <;> omega
            rw [hd, hu]
            refine (rT_go ln_Sff ?_).trans ?_
            · try simp only [Int.toNat_natCast, Nat.zero_add]
              repeat' (first | exact AllT.nil | refine AllT.cons ?_ ?_)
              all_goals first | (with_reducible rfl) | (with_reducible assumption) | exact decide_eq_true (by omega) | exact beq_iff_eq.2 (by omega) | (simp; done) | (simp; omega)
            · rfl
          · have hA2 : sw L o c ≤ A := by omega
            have hu : u' = (((o + c : Nat) : Int), sw L o c) := by rw [hu0, hpa, hst]; simp [hE, hbf, hs, ht, hA, hA2]
            have hd : doneP k L A o c = false := by rw [hd0, hst, hu]; simp [hE, hbf, hs, ht, hA, hA2] <;> omega
            rw [hd, hu]
            refine (rT_go ln_Sft ?_).trans ?_
            · try simp only [Int.toNat_natCast, Nat.zero_add]
              repeat' (first | exact AllT.nil | refine AllT.cons ?_ ?_)
              all_goals first | (with_reducible rfl) | (with_reducible assumption) | exact decide_eq_true (by omega) | exact beq_iff_eq.2 (by omega) | (simp; done) | (simp; omega)
            · simp only [Int.toNat_natCast, Nat.zero_add, h3, h4]
              rfl
      · have hsf : spc (L (o + c)) = false := by simpa using hs
        have hs' : (!((L (o + c)).k == 2)) = true := by have h : ((L (o + c)).k == 2) = false := hsf; rw [h]; rfl
        by_cases ht : 0 ≤ t
        · by_cases hA : A < sw L o c
          · have hu : u' = (t, ow) := by rw [hu0, hpa, hst]; simp [hE, hbf, hsf, ht, hA]
            have hd : doneP k L A o c = true := by rw [hd0, hst, hu]; simp [hE, hbf, hsf, ht, hA] <;> omega
            rw [hd, hu]
            refine (rT_go ln_Ntt ?_).trans ?_
            · try simp only [Int.toNat_natCast, Nat.zero_add]
              repeat' (first | exact AllT.nil | refine AllT.cons ?_ ?_)
              all_goals first | (with_reducible rfl) | (with_reducible assumption) | exact decide_eq_true (by omega) | exact beq_iff_eq.2 (by omega) | (simp; done) | (simp; omega)
            · rfl
          · have hu : u' = (t, ow) := by rw [hu0, hpa, hst]; simp [hE, hbf, hsf, ht, hA]
            have hd : doneP k L A o c = false := by rw [hd0, hst, hu]; simp [hE, hbf, hsf, ht, hA] <;> omega
            rw [hd, hu]
            refine (rT_go ln_Ntf ?_).trans ?_
            · try simp only [Int.toNat_natCast, Nat.zero_add]
              repeat' (first | exact AllT.nil | refine AllT.cons ?_ ?_)
              all_goals first | (with_reducible rfl) | (with_reducible assumption) | exact decide_eq_true (by omega) | exact beq_iff_eq.2 (by omega) | (simp; done) | (simp; omega)
            · simp only [Int.toNat_natCast, Nat.zero_add, h3, h4]
              rfl
        · have hu : u' = (t, ow) := by rw [hu0, hpa, hst]; simp [hE, hbf, hsf, ht]
          have hd : doneP k L A o c = false := by rw [hd0, hst, hu]; simp [hE, hbf, hsf, ht]
          rw [hd, hu]
          refine (rT_go ln_Nf ?_).trans ?_
          · try simp only [Int.toNat_natCast, Nat.zero_add]
            repeat' (first | exact AllT.nil | refine AllT.cons ?_ ?_)
            all_goals first | (with_reducible rfl) | (with_reducible assumption) | exact decide_eq_true (by omega) | exact beq_iff_eq.2 (by omega) | (simp; done) | (simp; omega)
          · simp only [Int.toNat_natCast, Nat.zero_add, h3, h4]
            rfl
theorem ln_loop {own : Bool} {k n : Nat} {L : Nat → Gl} {A : Int} {o : Nat} (hk : k ≤ n) (hk2 : k < 2 ^ 30) (hL : WOk L) (ho : o ≤ k) :
    CodeSem lnG 1 (.loop (bodyOf Try.f129 0)) (lnS own k n L A o (-1) 0 0 o) (.ret, lnZ own n L o (lineR k L A o).1 (lineR k L A o).2) := by
  obtain ⟨c, h1, h2, h3⟩ := doneP_first (n := k) (L := L) (A := A) ho
  have he := doneP_line hL ho h2 h3
  refine loop_of (fun i => lnS own k n L A o (lnU k L A o i).1 (lnU k L A o i).2 (sw L o i) ((o + i : Nat) : Int)) c (by simp) ?_ fun j hj => ?_
  · rw [← he]
    refine rT_sem lnG_ok noLoopsS ((ln_round hk hk2 hL (by omega)).trans ?_)
    rw [if_pos h2]
  · refine rT_sem lnG_ok noLoopsS ((ln_round hk hk2 hL (by omega)).trans ?_)
    rw [if_neg (by rw [h3 j hj]; simp)]
noncomputable def lineF : Spec := fun args h => match args, h with
  | [.c (.sl 0 0 k), .c (.v (.int .i64 fr)), .c (.v (.int .i64 A)), .c (.v (.bool true))], [some ⟨87, own, .row 4 n q⟩] =>
    .need (yes (k ≤ n ∧ k < 2 ^ 30 ∧ 0 ≤ fr ∧ fr ≤ k ∧ (q = fun j => encG (decG (q j))) ∧ WOk fun j => decG (q j)))
      (.ret (.agg [i64 fr, i64 (lineR k (fun j => decG (q j)) A fr.toNat).1, i64 (lineR k (fun j => decG (q j)) A fr.toNat).2], [some ⟨87, own, .row 4 n q⟩]))
  | _, _ => .fail
theorem lineF_ok : SpecOk Try.prog 129 lineF := by
  refine knownS nilK Try.func129 fun args h r he => ?_
  unfold lineF at he
  split at he
  · rename_i k fr A own n q
    obtain ⟨⟨h1, h2, h3, h4, h5, h6⟩, he⟩ := Tr.eval_ask.1 he
    cases he
    obtain ⟨o, rfl⟩ := Int.eq_ofNat_of_zero_le h3
    have hl := ln_loop (own := own) (A := A) h1 h2 h6 (show o ≤ k by omega)
    refine ⟨_, [], 60, _, tell_ok hl, ?_⟩
    have e1 : some ⟨87, own, .row 4 n q⟩ = rowGo own n fun j => decG (q j) := by rw [rowGo, ← h5]
    rw [e1]
    exact Tr.go_eval ln_w ⟨yes_of ⟨rfl, rfl⟩, trivial⟩
  · cases he
end Go.Proofs.Ytcpahifgdppkbaa.QAI
end
section
/- Lines: the walks. -/
set_option linter.unusedVariables false
set_option linter.unusedSimpArgs false
namespace Go.Proofs.Ytcpahifgdppkbaa.QAI
open Go Go.RowKit
set_option maxRecDepth 100000
def rowSp (n : Nat) (S : Nat → Sp) : Option ABlk := some ⟨98, true, .row 3 n fun j => encP (S j)⟩
def spAt (l : List Sp) : Nat → Sp := fun j => l.getD j zSp
noncomputable def KB3 : Known := [(127, cfF), (129, lineF)]
theorem KB3_ok : KnownOk KB3 := consK cfF_ok (by kernel_rfl) (consK lineF_ok (by kernel_rfl) nilK)
abbrev liK : List (Nat × Option TypeId) := [(0,none),(1,none),(5,some 98),(6,none),(7,none)]
noncomputable def liG : Ctx2 := GT KB3 (fun k => if k = 4 then liK else []) 0 []
theorem liG_ok : XOk liG := GT_ok KB3_ok _ _ _
def liS (own : Bool) (k n : Nat) (L : Nat → Gl) (A : Int) (na : Nat) (S : Nat → Sp) (i : Int) : St :=
  ⟨slots 29 [(0, .c (.sl 0 0 k)), (1, I64 A), (5, .c (.sl 1 0 na)), (6, Bo true), (7, I64 i)], [rowGo own n L, rowSp na S]⟩
theorem li_go {own : Bool} {k n : Nat} {L : Nat → Gl} {A : Int} {na : Nat} {S : Nat → Sp} {i : Int} : (rT liG nol 1 53 (bodyOf Try.f87 0) liK liK (liS own k n L A na S i)).go [] =
  some
    ([decide (i < ((k : Nat) : Int)),
        yes
          (k ≤ n ∧
            k < 2 ^ 30 ∧
              (0 : Int) ≤ i ∧
                i ≤ ((k : Nat) : Int) ∧ ((fun j => encG (L j)) = fun j => encG (decG (encG (L j)))) ∧ WOk fun j => decG (encG (L j))),
        decide (na = na), true, decide ((na + 1) * 24 ≤ maxCells)],
      Ex.normal,
      {
        sl :=
          slots 29
            [(0, AV.c (AC.sl 0 0 k)), (1, I64 A),
              (5, AV.c (AC.sl 1 0 (na + 1))), (6, Bo true),
              (7, I64 (w64 ((lineR k (fun j => decG (encG (L j))) A i.toNat).fst + (1 : Int))))],
        h :=
          [some
              { t := 87, own := own,
                c :=
                  Cont.row 4 n fun j =>
                    [Value.int IntKind.i64 (L j).k, Value.int IntKind.i64 (L j).r, Value.int IntKind.i64 (L j).a,
                      Value.int IntKind.i64 (L j).w] },
            some
              { t := 98, own := true,
                c :=
                  Cont.row 3 (na + 1) fun k_1 =>
                    [Value.int IntKind.i64 (bif decide (k_1 = na) then i else (S k_1).f),
                      Value.int IntKind.i64
                        (bif decide (k_1 = na) then (lineR k (fun j => decG (encG (L j))) A i.toNat).fst
                        else (S k_1).t),
                      Value.int IntKind.i64
                        (bif decide (k_1 = na) then (lineR k (fun j => decG (encG (L j))) A i.toNat).snd
                        else (S k_1).w)] }] }) := by kernel_rfl
theorem li_ex {own : Bool} {k n : Nat} {L : Nat → Gl} {A : Int} {na : Nat} {S : Nat → Sp} {i : Int} : (rT liG nol 1 53 (bodyOf Try.f87 0) liK liK (liS own k n L A na S i)).go [false] =
  some
    ([!decide (i < ((k : Nat) : Int))], Ex.exit 0,
      {
        sl :=
          slots 29
            [(0, AV.c (AC.sl 0 0 k)), (1, I64 A),
              (5, AV.c (AC.sl 1 0 na)), (6, Bo true), (7, I64 i)],
        h :=
          [some
              { t := 87, own := own,
                c :=
                  Cont.row 4 n fun j =>
                    [Value.int IntKind.i64 (L j).k, Value.int IntKind.i64 (L j).r, Value.int IntKind.i64 (L j).a,
                      Value.int IntKind.i64 (L j).w] },
            some
              { t := 98, own := true,
                c :=
                  Cont.row 3 na fun j =>
                    [Value.int IntKind.i64 (S j).f, Value.int IntKind.i64 (S j).t, Value.int IntKind.i64 (S j).w] }] }) := by kernel_rfl
theorem li_w {own : Bool} {k n : Nat} {L : Nat → Gl} {A : Int} {na : Nat} {S : Nat → Sp} {i : Int} : (lfun liG (tell (bodyOf Try.f87 0) (liS own k n L A 0 (fun _ => zSp) 0) (.exit 0, liS own k n L A na S i)) 60 Try.f87 [.c (.sl 0 0 k), I64 A] [rowGo own n L]).go [] =
  some
    ([yes
          (0 + k ≤ n ∧
            k < 2 ^ 40 ∧
              ((fun j => encG (L j)) = fun j => encG (decG (encG (L j)))) ∧
                ∀ (i : Nat), i < k → (0 : Int) ≤ (decG (encG (L (0 + i)))).w),
        yes (wasS (bodyOf Try.f87 0) (liS own k n L A 0 (fun _ => zSp) 0))],
      AV.c (AC.sl 1 0 na),
      [some
          { t := 87, own := own,
            c :=
              Cont.row 4 n fun j =>
                [Value.int IntKind.i64 (L j).k, Value.int IntKind.i64 (L j).r, Value.int IntKind.i64 (L j).a,
                  Value.int IntKind.i64 (L j).w] },
        some
          { t := 98, own := true,
            c :=
              Cont.row 3 na fun j =>
                [Value.int IntKind.i64 (S j).f, Value.int IntKind.i64 (S j).t, Value.int IntKind.i64 (S j).w] }]) := by kernel_rfl
abbrev rlK : List (Nat × Option TypeId) := [(0,none),(1,none),(5,some 98),(6,none)]
abbrev rlKi : List (Nat × Option TypeId) := [(0,none),(1,none),(5,some 98),(6,none),(7,none),(8,none),(9,none),(10,none)]
abbrev rlKa : List (Nat × Option TypeId) := [(0,none),(1,none),(5,some 98),(6,none),(7,none),(9,none)]
noncomputable def rlG : Ctx2 := GT [] (fun k => if k = 3 then rlK else if k = 7 then rlKi else []) 0 []
theorem rlG_ok : XOk rlG := GT_ok nilK _ _ _
def rlI (own : Bool) (k n : Nat) (L : Nat → Gl) (A : Int) (na : Nat) (S : Nat → Sp) (o last w at' kk : Int) : St :=
  ⟨slots 76 [(0, .c (.sl 0 0 k)), (1, I64 A), (5, .c (.sl 1 0 na)), (6, I64 o), (7, I64 last), (8, I64 w), (9, I64 at'), (10, I64 kk)], [rowGo own n L, rowSp na S]⟩
def rlZ (own : Bool) (k n : Nat) (L : Nat → Gl) (A : Int) (na : Nat) (S : Nat → Sp) (o last at' : Int) : St :=
  ⟨slots 76 [(0, .c (.sl 0 0 k)), (1, I64 A), (5, .c (.sl 1 0 na)), (6, I64 o), (7, I64 last), (9, I64 at')], [rowGo own n L, rowSp na S]⟩
def rlO (own : Bool) (k n : Nat) (L : Nat → Gl) (A : Int) (na : Nat) (S : Nat → Sp) (o : Int) : St :=
  ⟨slots 76 [(0, .c (.sl 0 0 k)), (1, I64 A), (5, .c (.sl 1 0 na)), (6, I64 o)], [rowGo own n L, rowSp na S]⟩
noncomputable def rlT (own : Bool) (k n : Nat) (L : Nat → Gl) (A : Int) (na : Nat) (S : Nat → Sp) (o last w at' kk : Int) : Tr (Ex × St) := rT rlG nol 1 46 (bodyOf Try.f93 1) rlKi rlKa (rlI own k n L A na S o last w at' kk)
theorem rl_Et {own : Bool} {k n : Nat} {L : Nat → Gl} {A : Int} {na : Nat} {S : Nat → Sp} {o last w at' kk : Int} : (rlT own k n L A na S o last w at' kk).go [] =
  some
    ([kk == ((k : Nat) : Int), true, true, true, true, true, true, true, true, true, true, true, true, true, true,
        decide (last < (0 : Int)), true, true, true, true, kk == ((k : Nat) : Int), true, true, true, true, true, true, true],
      Ex.exit 2,
      {
        sl :=
          slots 76
            [(0, AV.c (AC.sl 0 0 k)), (1, I64 A),
              (5, AV.c (AC.sl 1 0 na)), (6, I64 o), (7, I64 kk),
              (9, I64 w)],
        h :=
          [some
              { t := 87, own := own,
                c :=
                  Cont.row 4 n fun j =>
                    [Value.int IntKind.i64 (L j).k, Value.int IntKind.i64 (L j).r, Value.int IntKind.i64 (L j).a,
                      Value.int IntKind.i64 (L j).w] },
            some
              { t := 98, own := true,
                c :=
                  Cont.row 3 na fun j =>
                    [Value.int IntKind.i64 (S j).f, Value.int IntKind.i64 (S j).t, Value.int IntKind.i64 (S j).w] }] }) := by kernel_rfl
theorem rl_Eft {own : Bool} {k n : Nat} {L : Nat → Gl} {A : Int} {na : Nat} {S : Nat → Sp} {o last w at' kk : Int} : (rlT own k n L A na S o last w at' kk).go [true, true, true, true, true, true, true, true, true, true, true, true, true, true, true, false, false, false, false] =
  some
    ([kk == ((k : Nat) : Int), true, true, true, true, true, true, true, true, true, true, true, true, true, true,
        !decide (last < (0 : Int)), true, true, true, decide (w ≤ A), kk == ((k : Nat) : Int), true, true, true, true, true, true,
        true],
      Ex.exit 2,
      {
        sl :=
          slots 76
            [(0, AV.c (AC.sl 0 0 k)), (1, I64 A),
              (5, AV.c (AC.sl 1 0 na)), (6, I64 o), (7, I64 kk),
              (9, I64 w)],
        h :=
          [some
              { t := 87, own := own,
                c :=
                  Cont.row 4 n fun j =>
                    [Value.int IntKind.i64 (L j).k, Value.int IntKind.i64 (L j).r, Value.int IntKind.i64 (L j).a,
                      Value.int IntKind.i64 (L j).w] },
            some
              { t := 98, own := true,
                c :=
                  Cont.row 3 na fun j =>
                    [Value.int IntKind.i64 (S j).f, Value.int IntKind.i64 (S j).t, Value.int IntKind.i64 (S j).w] }] }) := by kernel_rfl
theorem rl_Eff {own : Bool} {k n : Nat} {L : Nat → Gl} {A : Int} {na : Nat} {S : Nat → Sp} {o last w at' kk : Int} : (rlT own k n L A na S o last w at' kk).go [true, true, true, true, true, true, true, true, true, true, true, true, true, true, true, false, false, false, false, false] =
  some
    ([kk == ((k : Nat) : Int), true, true, true, true, true, true, true, true, true, true, true, true, true, true,
        !decide (last < (0 : Int)), true, true, true, !decide (w ≤ A), kk == ((k : Nat) : Int), true, true, true, true, true, true,
        true],
      Ex.exit 2,
      {
        sl :=
          slots 76
            [(0, AV.c (AC.sl 0 0 k)), (1, I64 A),
              (5, AV.c (AC.sl 1 0 na)), (6, I64 o), (7, I64 last),
              (9, I64 at')],
        h :=
          [some
              { t := 87, own := own,
                c :=
                  Cont.row 4 n fun j =>
                    [Value.int IntKind.i64 (L j).k, Value.int IntKind.i64 (L j).r, Value.int IntKind.i64 (L j).a,
                      Value.int IntKind.i64 (L j).w] },
            some
              { t := 98, own := true,
                c :=
                  Cont.row 3 na fun j =>
                    [Value.int IntKind.i64 (S j).f, Value.int IntKind.i64 (S j).t, Value.int IntKind.i64 (S j).w] }] }) := by kernel_rfl
theorem rl_St {own : Bool} {k n : Nat} {L : Nat → Gl} {A : Int} {na : Nat} {S : Nat → Sp} {o last w at' kk : Int} : (rlT own k n L A na S o last w at' kk).go [false, false, false, true, true, false, false, true, false, false, true, true, true, true, true, true, true, true, true, true, true, true, true, false, false, false, true, true, false, false, true, false, false, false] =
  some
    ([!kk == ((k : Nat) : Int), true, true, decide ((0 : Int) ≤ kk), decide (kk < ((k : Nat) : Int)), true, true, decide (0 + kk.toNat < n),
        true, true, (L (0 + kk.toNat)).k == (2 : Int), true, true, true, true, true, true, true,
        decide (last < (0 : Int)), true, true, true, true, !kk == ((k : Nat) : Int), true, true, decide ((0 : Int) ≤ kk),
        decide (kk < ((k : Nat) : Int)), true, true, decide (0 + kk.toNat < n), true, true,
        !(L (0 + kk.toNat)).k == (4 : Int), decide ((0 : Int) ≤ kk), decide (kk < ((k : Nat) : Int)),
        decide (0 + kk.toNat < n)],
      Ex.normal,
      {
        sl :=
          slots 76
            [(0, AV.c (AC.sl 0 0 k)), (1, I64 A),
              (5, AV.c (AC.sl 1 0 na)), (6, I64 o), (7, I64 kk),
              (8, I64 (w64 (w + (L (0 + kk.toNat)).w))), (9, I64 w),
              (10, I64 (w64 (kk + (1 : Int))))],
        h :=
          [some
              { t := 87, own := own,
                c :=
                  Cont.row 4 n fun j =>
                    [Value.int IntKind.i64 (L j).k, Value.int IntKind.i64 (L j).r, Value.int IntKind.i64 (L j).a,
                      Value.int IntKind.i64 (L j).w] },
            some
              { t := 98, own := true,
                c :=
                  Cont.row 3 na fun j =>
                    [Value.int IntKind.i64 (S j).f, Value.int IntKind.i64 (S j).t, Value.int IntKind.i64 (S j).w] }] }) := by kernel_rfl
theorem rl_Bt {own : Bool} {k n : Nat} {L : Nat → Gl} {A : Int} {na : Nat} {S : Nat → Sp} {o last w at' kk : Int} : (rlT own k n L A na S o last w at' kk).go [false, false, false, true, true, false, false, true, false, false, false, false, false, true, true, false, false, true, false, false, true, true, true, true, true, true, false, false, false, true, true, false, false, true, false, false] =
  some
    ([!kk == ((k : Nat) : Int), true, true, decide ((0 : Int) ≤ kk), decide (kk < ((k : Nat) : Int)), true, true, decide (0 + kk.toNat < n),
        true, true, !(L (0 + kk.toNat)).k == (2 : Int), true, true, decide ((0 : Int) ≤ kk), decide (kk < ((k : Nat) : Int)),
        true, true, decide (0 + kk.toNat < n), true, true, (L (0 + kk.toNat)).k == (4 : Int),
        decide (last < (0 : Int)), true, true, true, true, !kk == ((k : Nat) : Int), true, true, decide ((0 : Int) ≤ kk),
        decide (kk < ((k : Nat) : Int)), true, true, decide (0 + kk.toNat < n), true, true,
        (L (0 + kk.toNat)).k == (4 : Int)],
      Ex.exit 2,
      {
        sl :=
          slots 76
            [(0, AV.c (AC.sl 0 0 k)), (1, I64 A),
              (5, AV.c (AC.sl 1 0 na)), (6, I64 o), (7, I64 kk),
              (9, I64 w)],
        h :=
          [some
              { t := 87, own := own,
                c :=
                  Cont.row 4 n fun j =>
                    [Value.int IntKind.i64 (L j).k, Value.int IntKind.i64 (L j).r, Value.int IntKind.i64 (L j).a,
                      Value.int IntKind.i64 (L j).w] },
            some
              { t := 98, own := true,
                c :=
                  Cont.row 3 na fun j =>
                    [Value.int IntKind.i64 (S j).f, Value.int IntKind.i64 (S j).t, Value.int IntKind.i64 (S j).w] }] }) := by kernel_rfl
theorem rl_Sft {own : Bool} {k n : Nat} {L : Nat → Gl} {A : Int} {na : Nat} {S : Nat → Sp} {o last w at' kk : Int} : (rlT own k n L A na S o last w at' kk).go [false, false, false, true, true, false, false, true, false, false, true, true, true, true, true, true, true, true, false, false, false, false, true, false, false, false, true, true, false, false, true, false, false, false] =
  some
    ([!kk == ((k : Nat) : Int), true, true, decide ((0 : Int) ≤ kk), decide (kk < ((k : Nat) : Int)), true, true, decide (0 + kk.toNat < n),
        true, true, (L (0 + kk.toNat)).k == (2 : Int), true, true, true, true, true, true, true,
        !decide (last < (0 : Int)), true, true, true, decide (w ≤ A), !kk == ((k : Nat) : Int), true, true, decide ((0 : Int) ≤ kk),
        decide (kk < ((k : Nat) : Int)), true, true, decide (0 + kk.toNat < n), true, true,
        !(L (0 + kk.toNat)).k == (4 : Int), decide ((0 : Int) ≤ kk), decide (kk < ((k : Nat) : Int)),
        decide (0 + kk.toNat < n)],
      Ex.normal,
      {
        sl :=
          slots 76
            [(0, AV.c (AC.sl 0 0 k)), (1, I64 A),
              (5, AV.c (AC.sl 1 0 na)), (6, I64 o), (7, I64 kk),
              (8, I64 (w64 (w + (L (0 + kk.toNat)).w))), (9, I64 w),
              (10, I64 (w64 (kk + (1 : Int))))],
        h :=
          [some
              { t := 87, own := own,
                c :=
                  Cont.row 4 n fun j =>
                    [Value.int IntKind.i64 (L j).k, Value.int IntKind.i64 (L j).r, Value.int IntKind.i64 (L j).a,
                      Value.int IntKind.i64 (L j).w] },
            some
              { t := 98, own := true,
                c :=
                  Cont.row 3 na fun j =>
                    [Value.int IntKind.i64 (S j).f, Value.int IntKind.i64 (S j).t, Value.int IntKind.i64 (S j).w] }] }) := by kernel_rfl
theorem rl_Bft {own : Bool} {k n : Nat} {L : Nat → Gl} {A : Int} {na : Nat} {S : Nat → Sp} {o last w at' kk : Int} : (rlT own k n L A na S o last w at' kk).go [false, false, false, true, true, false, false, true, false, false, false, false, false, true, true, false, false, true, false, false, true, false, false, false, false, true, false, false, false, true, true, false, false, true, false, false] =
  some
    ([!kk == ((k : Nat) : Int), true, true, decide ((0 : Int) ≤ kk), decide (kk < ((k : Nat) : Int)), true, true, decide (0 + kk.toNat < n),
        true, true, !(L (0 + kk.toNat)).k == (2 : Int), true, true, decide ((0 : Int) ≤ kk), decide (kk < ((k : Nat) : Int)),
        true, true, decide (0 + kk.toNat < n), true, true, (L (0 + kk.toNat)).k == (4 : Int),
        !decide (last < (0 : Int)), true, true, true, decide (w ≤ A), !kk == ((k : Nat) : Int), true, true, decide ((0 : Int) ≤ kk),
        decide (kk < ((k : Nat) : Int)), true, true, decide (0 + kk.toNat < n), true, true,
        (L (0 + kk.toNat)).k == (4 : Int)],
      Ex.exit 2,
      {
        sl :=
          slots 76
            [(0, AV.c (AC.sl 0 0 k)), (1, I64 A),
              (5, AV.c (AC.sl 1 0 na)), (6, I64 o), (7, I64 kk),
              (9, I64 w)],
        h :=
          [some
              { t := 87, own := own,
                c :=
                  Cont.row 4 n fun j =>
                    [Value.int IntKind.i64 (L j).k, Value.int IntKind.i64 (L j).r, Value.int IntKind.i64 (L j).a,
                      Value.int IntKind.i64 (L j).w] },
            some
              { t := 98, own := true,
                c :=
                  Cont.row 3 na fun j =>
                    [Value.int IntKind.i64 (S j).f, Value.int IntKind.i64 (S j).t, Value.int IntKind.i64 (S j).w] }] }) := by kernel_rfl
theorem rl_Sff {own : Bool} {k n : Nat} {L : Nat → Gl} {A : Int} {na : Nat} {S : Nat → Sp} {o last w at' kk : Int} : (rlT own k n L A na S o last w at' kk).go [false, false, false, true, true, false, false, true, false, false, true, true, true, true, true, true, true, true, false, false, false, false, false, false, false, false, true, true, false, false, true, false, false, false] =
  some
    ([!kk == ((k : Nat) : Int), true, true, decide ((0 : Int) ≤ kk), decide (kk < ((k : Nat) : Int)), true, true, decide (0 + kk.toNat < n),
        true, true, (L (0 + kk.toNat)).k == (2 : Int), true, true, true, true, true, true, true,
        !decide (last < (0 : Int)), true, true, true, !decide (w ≤ A), !kk == ((k : Nat) : Int), true, true, decide ((0 : Int) ≤ kk),
        decide (kk < ((k : Nat) : Int)), true, true, decide (0 + kk.toNat < n), true, true,
        !(L (0 + kk.toNat)).k == (4 : Int), decide ((0 : Int) ≤ kk), decide (kk < ((k : Nat) : Int)),
        decide (0 + kk.toNat < n)],
      Ex.normal,
      {
        sl :=
          slots 76
            [(0, AV.c (AC.sl 0 0 k)), (1, I64 A),
              (5, AV.c (AC.sl 1 0 na)), (6, I64 o), (7, I64 last),
              (8, I64 (w64 (w + (L (0 + kk.toNat)).w))), (9, I64 at'),
              (10, I64 (w64 (kk + (1 : Int))))],
        h :=
          [some
              { t := 87, own := own,
                c :=
                  Cont.row 4 n fun j =>
                    [Value.int IntKind.i64 (L j).k, Value.int IntKind.i64 (L j).r, Value.int IntKind.i64 (L j).a,
                      Value.int IntKind.i64 (L j).w] },
            some
              { t := 98, own := true,
                c :=
                  Cont.row 3 na fun j =>
                    [Value.int IntKind.i64 (S j).f, Value.int IntKind.i64 (S j).t, Value.int IntKind.i64 (S j).w] }] }) := by kernel_rfl
theorem rl_Bff {own : Bool} {k n : Nat} {L : Nat → Gl} {A : Int} {na : Nat} {S : Nat → Sp} {o last w at' kk : Int} : (rlT own k n L A na S o last w at' kk).go [false, false, false, true, true, false, false, true, false, false, false, false, false, true, true, false, false, true, false, false, true, false, false, false, false, false, false, false, false, true, true, false, false, true, false, false] =
  some
    ([!kk == ((k : Nat) : Int), true, true, decide ((0 : Int) ≤ kk), decide (kk < ((k : Nat) : Int)), true, true, decide (0 + kk.toNat < n),
        true, true, !(L (0 + kk.toNat)).k == (2 : Int), true, true, decide ((0 : Int) ≤ kk), decide (kk < ((k : Nat) : Int)),
        true, true, decide (0 + kk.toNat < n), true, true, (L (0 + kk.toNat)).k == (4 : Int),
        !decide (last < (0 : Int)), true, true, true, !decide (w ≤ A), !kk == ((k : Nat) : Int), true, true, decide ((0 : Int) ≤ kk),
        decide (kk < ((k : Nat) : Int)), true, true, decide (0 + kk.toNat < n), true, true,
        (L (0 + kk.toNat)).k == (4 : Int)],
      Ex.exit 2,
      {
        sl :=
          slots 76
            [(0, AV.c (AC.sl 0 0 k)), (1, I64 A),
              (5, AV.c (AC.sl 1 0 na)), (6, I64 o), (7, I64 last),
              (9, I64 at')],
        h :=
          [some
              { t := 87, own := own,
                c :=
                  Cont.row 4 n fun j =>
                    [Value.int IntKind.i64 (L j).k, Value.int IntKind.i64 (L j).r, Value.int IntKind.i64 (L j).a,
                      Value.int IntKind.i64 (L j).w] },
            some
              { t := 98, own := true,
                c :=
                  Cont.row 3 na fun j =>
                    [Value.int IntKind.i64 (S j).f, Value.int IntKind.i64 (S j).t, Value.int IntKind.i64 (S j).w] }] }) := by kernel_rfl
theorem rl_N {own : Bool} {k n : Nat} {L : Nat → Gl} {A : Int} {na : Nat} {S : Nat → Sp} {o last w at' kk : Int} : (rlT own k n L A na S o last w at' kk).go [false, false, false, true, true, false, false, true, false, false, false, false, false, true, true, false, false, true, false, false, false, false, false, false, true, true, false, false, true, false, false, false] =
  some
    ([!kk == ((k : Nat) : Int), true, true, decide ((0 : Int) ≤ kk), decide (kk < ((k : Nat) : Int)), true, true, decide (0 + kk.toNat < n),
        true, true, !(L (0 + kk.toNat)).k == (2 : Int), true, true, decide ((0 : Int) ≤ kk), decide (kk < ((k : Nat) : Int)),
        true, true, decide (0 + kk.toNat < n), true, true, !(L (0 + kk.toNat)).k == (4 : Int),
        !kk == ((k : Nat) : Int), true, true, decide ((0 : Int) ≤ kk), decide (kk < ((k : Nat) : Int)), true, true, decide (0 + kk.toNat < n),
        true, true, !(L (0 + kk.toNat)).k == (4 : Int), decide ((0 : Int) ≤ kk), decide (kk < ((k : Nat) : Int)),
        decide (0 + kk.toNat < n)],
      Ex.normal,
      {
        sl :=
          slots 76
            [(0, AV.c (AC.sl 0 0 k)), (1, I64 A),
              (5, AV.c (AC.sl 1 0 na)), (6, I64 o), (7, I64 last),
              (8, I64 (w64 (w + (L (0 + kk.toNat)).w))), (9, I64 at'),
              (10, I64 (w64 (kk + (1 : Int))))],
        h :=
          [some
              { t := 87, own := own,
                c :=
                  Cont.row 4 n fun j =>
                    [Value.int IntKind.i64 (L j).k, Value.int IntKind.i64 (L j).r, Value.int IntKind.i64 (L j).a,
                      Value.int IntKind.i64 (L j).w] },
            some
              { t := 98, own := true,
                c :=
                  Cont.row 3 na fun j =>
                    [Value.int IntKind.i64 (S j).f, Value.int IntKind.i64 (S j).t, Value.int IntKind.i64 (S j).w] }] }) := by kernel_rfl
noncomputable def rloT (own : Bool) (k n : Nat) (L : Nat → Gl) (A : Int) (na : Nat) (S : Nat → Sp) (o last at' : Int) : Tr (Ex × St) :=
  rT rlG (tell (bodyOf Try.f93 1) (rlI own k n L A na S o (-1) 0 0 o) (.exit 2, rlZ own k n L A na S o last at')) 1 54 (bodyOf Try.f93 0) rlK rlK (rlO own k n L A na S o)
theorem rlo_go {own : Bool} {k n : Nat} {L : Nat → Gl} {A : Int} {na : Nat} {S : Nat → Sp} {o last at' : Int} : (rloT own k n L A na S o last at').go [] =
  some
    ([decide (o < ((k : Nat) : Int)), yes (wasS (bodyOf Try.f93 1) (rlI own k n L A na S o (-1) 0 0 o)), decide (na = na), true, decide ((na + 1) * 24 ≤ maxCells)], Ex.normal,
      {
        sl :=
          slots 76
            [(0, AV.c (AC.sl 0 0 k)), (1, I64 A),
              (5, AV.c (AC.sl 1 0 (na + 1))),
              (6, I64 (w64 (last + (1 : Int))))],
        h :=
          [some
              { t := 87, own := own,
                c :=
                  Cont.row 4 n fun j =>
                    [Value.int IntKind.i64 (L j).k, Value.int IntKind.i64 (L j).r, Value.int IntKind.i64 (L j).a,
                      Value.int IntKind.i64 (L j).w] },
            some
              { t := 98, own := true,
                c :=
                  Cont.row 3 (na + 1) fun k =>
                    [Value.int IntKind.i64 (bif decide (k = na) then o else (S k).f),
                      Value.int IntKind.i64 (bif decide (k = na) then last else (S k).t),
                      Value.int IntKind.i64 (bif decide (k = na) then at' else (S k).w)] }] }) := by kernel_rfl
theorem rlo_ex {own : Bool} {k n : Nat} {L : Nat → Gl} {A : Int} {na : Nat} {S : Nat → Sp} {o : Int} : (rT rlG nol 1 54 (bodyOf Try.f93 0) rlK rlK (rlO own k n L A na S o)).go [false] =
  some
    ([!decide (o < ((k : Nat) : Int))], Ex.exit 0,
      {
        sl :=
          slots 76
            [(0, AV.c (AC.sl 0 0 k)), (1, I64 A),
              (5, AV.c (AC.sl 1 0 na)), (6, I64 o)],
        h :=
          [some
              { t := 87, own := own,
                c :=
                  Cont.row 4 n fun j =>
                    [Value.int IntKind.i64 (L j).k, Value.int IntKind.i64 (L j).r, Value.int IntKind.i64 (L j).a,
                      Value.int IntKind.i64 (L j).w] },
            some
              { t := 98, own := true,
                c :=
                  Cont.row 3 na fun j =>
                    [Value.int IntKind.i64 (S j).f, Value.int IntKind.i64 (S j).t, Value.int IntKind.i64 (S j).w] }] }) := by kernel_rfl
theorem rl_w {own : Bool} {k n : Nat} {L : Nat → Gl} {A : Int} {na : Nat} {S : Nat → Sp} {o : Int} : (lfun rlG (tell (bodyOf Try.f93 0) (rlO own k n L A 0 (fun _ => zSp) 0) (.exit 0, rlO own k n L A na S o)) 60 Try.f93 [.c (.sl 0 0 k), I64 A] [rowGo own n L]).go [] =
  some
    ([yes (wasS (bodyOf Try.f93 0) (rlO own k n L A 0 (fun _ => zSp) 0))], AV.c (AC.sl 1 0 na),
      [some
          { t := 87, own := own,
            c :=
              Cont.row 4 n fun j =>
                [Value.int IntKind.i64 (L j).k, Value.int IntKind.i64 (L j).r, Value.int IntKind.i64 (L j).a,
                  Value.int IntKind.i64 (L j).w] },
        some
          { t := 98, own := true,
            c :=
              Cont.row 3 na fun j =>
                [Value.int IntKind.i64 (S j).f, Value.int IntKind.i64 (S j).t, Value.int IntKind.i64 (S j).w] }]) := by kernel_rfl
end Go.Proofs.Ytcpahifgdppkbaa.QAI
end
section
/- Lines: what the walks come to. -/
set_option linter.unusedVariables false
set_option linter.unusedSimpArgs false
namespace Go.Proofs.Ytcpahifgdppkbaa.QAI
open Go Go.RowKit
set_option maxRecDepth 100000
theorem upd_sp (l : List Sp) (x : Sp) : upd (fun j => encP (spAt l j)) l.length (encP x) = fun j => encP (spAt (l ++ [x]) j) := upd_lrow encP zSp l x
theorem li_loop {own : Bool} {k n : Nat} {L : Nat → Gl} {A : Int} (hk : k ≤ n) (hk2 : k < 2 ^ 30) (hL : WOk L) :
    CodeSem liG 1 (.loop (bodyOf Try.f87 0)) (liS own k n L A 0 (fun _ => zSp) 0) (.exit 0, liS own k n L A (lnC k L A) (spAt (lns k L A)) (lnAt k L A (lnC k L A))) := by
  obtain ⟨h1, h2, h3⟩ := lnC_spec k L A
  refine loop_of (fun i => liS own k n L A i (spAt (lnsN k L A i)) (lnAt k L A i : Int)) (lnC k L A) (by simp) ?_ fun j hj => ?_
  · exact rT_sem liG_ok noLoopsS (rT_go li_ex ⟨by simp; omega, trivial⟩)
  · have hj1 := h2 j hj
    obtain ⟨b1, b2⟩ := lineR_b (n := k) (L := L) (A := A) (o := lnAt k L A j) (by omega)
    have e1 : w64 ((lineR k L A (lnAt k L A j)).1 + 1) = (lnAt k L A (j + 1) : Int) := by
      rw [w64_id (by omega) (by omega), lnAt]
      omega
    have hc : decide ((j + 1) * 24 ≤ maxCells) = true := decide_eq_true (by unfold maxCells; omega)
    refine rT_sem liG_ok noLoopsS ((rT_go li_go ?_).trans ?_)
    · repeat' (first | exact AllT.nil | refine AllT.cons ?_ ?_)
      all_goals first | (with_reducible rfl) | (with_reducible assumption) | exact decide_eq_true (by omega) | exact decide_eq_true rfl | exact yes_of ⟨hk, hk2, by omega, by omega, rfl, hL⟩
    · have e2 : ((lnAt k L A j : Nat) : Int).toNat = lnAt k L A j := Int.toNat_natCast _
      refine Eq.trans (b := some (Ex.normal, (⟨slots 29 [(0, .c (.sl 0 0 k)), (1, I64 A), (5, .c (.sl 1 0 (j + 1))), (6, Bo true), (7, I64 (w64 ((lineR k L A (lnAt k L A j)).1 + 1)))], [rowGo own n L, some ⟨98, true, .row 3 (j + 1) (upd (fun q => encP (spAt (lnsN k L A j) q)) j (encP (spOf k L A (lnAt k L A j))))⟩]⟩ : St))) rfl ?_
      have e3 := upd_sp (lnsN k L A j) (spOf k L A (lnAt k L A j))
      rw [lnsN_len] at e3
      rw [e1, e3, ← lnsN_succ]
      rfl
noncomputable def linesF : Spec := fun args h => match args, h with
  | [.c (.sl 0 0 k), .c (.v (.int .i64 A))], [some ⟨87, own, .row 4 n q⟩] =>
    .need (yes (k ≤ n ∧ k < 2 ^ 30 ∧ (q = fun j => encG (decG (q j))) ∧ WOk fun j => decG (q j)))
      (.ret (.c (.sl 1 0 (lnC k (fun j => decG (q j)) A)), [some ⟨87, own, .row 4 n q⟩, rowSp (lnC k (fun j => decG (q j)) A) (spAt (lns k (fun j => decG (q j)) A))]))
  | _, _ => .fail
theorem linesF_ok : SpecOk Try.prog 87 linesF := by
  refine knownS KB3_ok Try.func87 fun args h r he => ?_
  unfold linesF at he
  split at he
  · rename_i k A own n q
    obtain ⟨⟨h1, h2, h5, h6⟩, he⟩ := Tr.eval_ask.1 he
    cases he
    refine ⟨_, [], 60, _, tell_ok (li_loop (own := own) (A := A) h1 h2 h6), ?_⟩
    have e1 : some ⟨87, own, .row 4 n q⟩ = rowGo own n fun j => decG (q j) := by rw [rowGo, ← h5]
    rw [e1]
    refine Tr.go_eval li_w ?_
    repeat' (first | exact AllT.nil | refine AllT.cons ?_ ?_)
    all_goals first | exact yes_of ⟨rfl, rfl⟩ | exact yes_of ⟨by omega, by omega, rfl, fun i hi => (h6 _).1⟩
  · cases he
/- The document's. -/
theorem rl_round {own : Bool} {k n : Nat} {L : Nat → Gl} {A : Int} {na : Nat} {S : Nat → Sp} {o c : Nat} (hk : k ≤ n) (hk2 : k < 2 ^ 30) (hL : WOk L) (hc : o + c ≤ k) :
    (rlT own k n L A na S o (lnU k L A o c).1 (sw L o c) (lnU k L A o c).2 ((o + c : Nat) : Int)).eval =
      if stopA k L (o + c) = true then some (.exit 2, rlZ own k n L A na S o (lnU k L A o (c + 1)).1 (lnU k L A o (c + 1)).2)
      else some (.normal, rlI own k n L A na S o (lnU k L A o (c + 1)).1 (sw L o (c + 1)) (lnU k L A o (c + 1)).2 ((o + (c + 1) : Nat) : Int)) := by
  have hsb := sw_b hL o c
  have hwb := hL (o + c)
  have h3 : w64 (((o + c : Nat) : Int) + 1) = ((o + (c + 1) : Nat) : Int) := by rw [w64_id (by omega) (by omega)]; omega
  have h4 : w64 (sw L o c + (L (o + c)).w) = sw L o (c + 1) := by rw [w64_id (by omega) (by omega)]; rfl
  have hu0 : lnU k L A o (c + 1) = bif partA k L (o + c) && (decide ((lnU k L A o c).1 < 0) || decide (sw L o c ≤ A)) then (((o + c : Nat) : Int), sw L o c) else lnU k L A o c := rfl
  have hst : stopA k L (o + c) = (decide (o + c = k) || brk (L (o + c))) := rfl
  have hpa : partA k L (o + c) = (stopA k L (o + c) || spc (L (o + c))) := rfl
  generalize lnU k L A o c = u at *
  generalize lnU k L A o (c + 1) = u' at *
  obtain ⟨t, ow⟩ := u
  simp only at hu0 ⊢
  by_cases hE : o + c = k
  · by_cases ht : t < 0
    · have hu : u' = (((o + c : Nat) : Int), sw L o c) := by rw [hu0, hpa, hst]; simp [hE, ht]
      have hd : stopA k L (o + c) = true := by rw [hst]; simp [hE, ht]
      rw [hd, hu]
      refine (rT_go rl_Et ?_).trans ?_
      · try simp only [Int.toNat_natCast, Nat.zero_add]
        repeat' (first | exact AllT.nil | refine AllT.cons ?_ ?_)
        all_goals first | (with_reducible rfl) | (with_reducible assumption) | exact decide_eq_true (by omega) | exact beq_iff_eq.2 (by omega) | (simp; done) | (simp; omega)
      · rfl
    · by_cases hA : sw L o c ≤ A
      · have hu : u' = (((o + c : Nat) : Int), sw L o c) := by rw [hu0, hpa, hst]; simp [hE, ht, hA]
        have hd : stopA k L (o + c) = true := by rw [hst]; simp [hE, ht, hA]
        rw [hd, hu]
        refine (rT_go rl_Eft ?_).trans ?_
        · try simp only [Int.toNat_natCast, Nat.zero_add]
          repeat' (first | exact AllT.nil | refine AllT.cons ?_ ?_)
          all_goals first | (with_reducible rfl) | (with_reducible assumption) | exact decide_eq_true (by omega) | exact beq_iff_eq.2 (by omega) | (simp; done) | (simp; omega)
        · rfl
      · have hu : u' = (t, ow) := by rw [hu0, hpa, hst]; simp [hE, ht, hA]
        have hd : stopA k L (o + c) = true := by rw [hst]; simp [hE, ht, hA]
        rw [hd, hu]
        refine (rT_go rl_Eff ?_).trans ?_
        · try simp only [Int.toNat_natCast, Nat.zero_add]
          repeat' (first | exact AllT.nil | refine AllT.cons ?_ ?_)
          all_goals first | (with_reducible rfl) | (with_reducible assumption) | exact decide_eq_true (by omega) | exact beq_iff_eq.2 (by omega) | (simp; done) | (simp; omega)
        · rfl
  · by_cases hb : brk (L (o + c)) = true
    · have hb' : ((L (o + c)).k == 4) = true := hb
      have hs' : (!((L (o + c)).k == 2)) = true := by
        have : (L (o + c)).k = 4 := by simpa using hb'
        rw [this]; rfl
      by_cases ht : t < 0
      · have hu : u' = (((o + c : Nat) : Int), sw L o c) := by rw [hu0, hpa, hst]; simp [hE, hb, ht]
        have hd : stopA k L (o + c) = true := by rw [hst]; simp [hE, hb, ht]
        rw [hd, hu]
        refine (rT_go rl_Bt ?_).trans ?_
        · try simp only [Int.toNat_natCast, Nat.zero_add]
          repeat' (first | exact AllT.nil | refine AllT.cons ?_ ?_)
          all_goals first | (with_reducible rfl) | (with_reducible assumption) | exact decide_eq_true (by omega) | exact beq_iff_eq.2 (by omega) | (simp; done) | (simp; omega)
        · rfl
      · by_cases hA : sw L o c ≤ A
        · have hu : u' = (((o + c : Nat) : Int), sw L o c) := by rw [hu0, hpa, hst]; simp [hE, hb, ht, hA]
          have hd : stopA k L (o + c) = true := by rw [hst]; simp [hE, hb, ht, hA]
          rw [hd, hu]
          refine (rT_go rl_Bft ?_).trans ?_
          · try simp only [Int.toNat_natCast, Nat.zero_add]
            repeat' (first | exact AllT.nil | refine AllT.cons ?_ ?_)
            all_goals first | (with_reducible rfl) | (with_reducible assumption) | exact decide_eq_true (by omega) | exact beq_iff_eq.2 (by omega) | (simp; done) | (simp; omega)
          · rfl
        · have hu : u' = (t, ow) := by rw [hu0, hpa, hst]; simp [hE, hb, ht, hA]
          have hd : stopA k L (o + c) = true := by rw [hst]; simp [hE, hb, ht, hA]
          rw [hd, hu]
          refine (rT_go rl_Bff ?_).trans ?_
          · try simp only [Int.toNat_natCast, Nat.zero_add]
            repeat' (first | exact AllT.nil | refine AllT.cons ?_ ?_)
            all_goals first | (with_reducible rfl) | (with_reducible assumption) | exact decide_eq_true (by omega) | exact beq_iff_eq.2 (by omega) | (simp; done) | (simp; omega)
          · rfl
    · have hbf : brk (L (o + c)) = false := by simpa using hb
      have hb' : (!((L (o + c)).k == 4)) = true := by have h : ((L (o + c)).k == 4) = false := hbf; rw [h]; rfl
      by_cases hs : spc (L (o + c)) = true
      · have hs' : ((L (o + c)).k == 2) = true := hs
        by_cases ht : t < 0
        · have hu : u' = (((o + c : Nat) : Int), sw L o c) := by rw [hu0, hpa, hst]; simp [hE, hbf, hs, ht]
          have hd : stopA k L (o + c) = false := by rw [hst]; simp [hE, hbf, hs, ht]
          rw [hd, hu]
          refine (rT_go rl_St ?_).trans ?_
          · try simp only [Int.toNat_natCast, Nat.zero_add]
            repeat' (first | exact AllT.nil | refine AllT.cons ?_ ?_)
            all_goals first | (with_reducible rfl) | (with_reducible assumption) | exact decide_eq_true (by omega) | exact beq_iff_eq.2 (by omega) | (simp; done) | (simp; omega)
          · simp only [Int.toNat_natCast, Nat.zero_add, h3, h4]
            rfl
        · by_cases hA : sw L o c ≤ A
          · have hu : u' = (((o + c : Nat) : Int), sw L o c) := by rw [hu0, hpa, hst]; simp [hE, hbf, hs, ht, hA]
            have hd : stopA k L (o + c) = false := by rw [hst]; simp [hE, hbf, hs, ht, hA]
            rw [hd, hu]
            refine (rT_go rl_Sft ?_).trans ?_
            · try simp only [Int.toNat_natCast, Nat.zero_add]
              repeat' (first | exact AllT.nil | refine AllT.cons ?_ ?_)
              all_goals first | (with_reducible rfl) | (with_reducible assumption) | exact decide_eq_true (by omega) | exact beq_iff_eq.2 (by omega) | (simp; done) | (simp; omega)
            · simp only [Int.toNat_natCast, Nat.zero_add, h3, h4]
              rfl
          · have hu : u' = (t, ow) := by rw [hu0, hpa, hst]; simp [hE, hbf, hs, ht, hA]
            have hd : stopA k L (o + c) = false := by rw [hst]; simp [hE, hbf, hs, ht, hA]
            rw [hd, hu]
            refine (rT_go rl_Sff ?_).trans ?_
            · try simp only [Int.toNat_natCast, Nat.zero_add]
              repeat' (first | exact AllT.nil | refine AllT.cons ?_ ?_)
              all_goals first | (with_reducible rfl) | (with_reducible assumption) | exact decide_eq_true (by omega) | exact beq_iff_eq.2 (by omega) | (simp; done) | (simp; omega)
            · simp only [Int.toNat_natCast, Nat.zero_add, h3, h4]
              rfl
      · have hsf : spc (L (o + c)) = false := by simpa using hs
        have hs' : (!((L (o + c)).k == 2)) = true := by have h : ((L (o + c)).k == 2) = false := hsf; rw [h]; rfl
        have hu : u' = (t, ow) := by rw [hu0, hpa, hst]; simp [hE, hbf, hsf]
        have hd : stopA k L (o + c) = false := by rw [hst]; simp [hE, hbf, hsf]
        rw [hd, hu]
        refine (rT_go rl_N ?_).trans ?_
        · try simp only [Int.toNat_natCast, Nat.zero_add]
          repeat' (first | exact AllT.nil | refine AllT.cons ?_ ?_)
          all_goals first | (with_reducible rfl) | (with_reducible assumption) | exact decide_eq_true (by omega) | exact beq_iff_eq.2 (by omega) | (simp; done) | (simp; omega)
        · simp only [Int.toNat_natCast, Nat.zero_add, h3, h4]
          rfl
theorem rl_loop {own : Bool} {k n : Nat} {L : Nat → Gl} {A : Int} {na : Nat} {S : Nat → Sp} {o : Nat} (hk : k ≤ n) (hk2 : k < 2 ^ 30) (hL : WOk L) (ho : o ≤ k) :
    CodeSem rlG 1 (.loop (bodyOf Try.f93 1)) (rlI own k n L A na S o (-1) 0 0 o) (.exit 2, rlZ own k n L A na S o (lineR k L A o).1 (lineR k L A o).2) := by
  obtain ⟨h1, h2, h3⟩ := stopC_spec (n := k) (L := L) (k - o) o (by omega)
  refine loop_of (fun i => rlI own k n L A na S o (lnU k L A o i).1 (sw L o i) (lnU k L A o i).2 ((o + i : Nat) : Int)) (stopC k L o (k - o)) (by simp) ?_ fun j hj => ?_
  · refine rT_sem rlG_ok noLoopsS ((rl_round hk hk2 hL (by omega)).trans ?_)
    rw [if_pos h2]
    rfl
  · refine rT_sem rlG_ok noLoopsS ((rl_round hk hk2 hL (by omega)).trans ?_)
    rw [if_neg (by rw [h3 j hj]; simp)]
theorem rlo_loop {own : Bool} {k n : Nat} {L : Nat → Gl} {A : Int} (hk : k ≤ n) (hk2 : k < 2 ^ 30) (hL : WOk L) :
    CodeSem rlG 1 (.loop (bodyOf Try.f93 0)) (rlO own k n L A 0 (fun _ => zSp) 0) (.exit 0, rlO own k n L A (lnC k L A) (spAt (lns k L A)) (lnAt k L A (lnC k L A))) := by
  obtain ⟨h1, h2, h3⟩ := lnC_spec k L A
  refine loop_of (fun i => rlO own k n L A i (spAt (lnsN k L A i)) (lnAt k L A i : Int)) (lnC k L A) (by simp) ?_ fun j hj => ?_
  · exact rT_sem rlG_ok noLoopsS (rT_go rlo_ex ⟨by simp; omega, trivial⟩)
  · have hj1 := h2 j hj
    obtain ⟨b1, b2⟩ := lineR_b (n := k) (L := L) (A := A) (o := lnAt k L A j) (by omega)
    have hin := rl_loop (own := own) (A := A) (na := j) (S := spAt (lnsN k L A j)) (o := lnAt k L A j) hk hk2 hL (by omega)
    have e1 : w64 ((lineR k L A (lnAt k L A j)).1 + 1) = (lnAt k L A (j + 1) : Int) := by
      rw [w64_id (by omega) (by omega), lnAt]
      omega
    have hc : decide ((j + 1) * 24 ≤ maxCells) = true := decide_eq_true (by unfold maxCells; omega)
    refine rT_sem rlG_ok (tell_ok hin) ((rT_go rlo_go ?_).trans ?_)
    · repeat' (first | exact AllT.nil | refine AllT.cons ?_ ?_)
      all_goals first | (with_reducible rfl) | (with_reducible assumption) | exact decide_eq_true (by omega) | exact decide_eq_true rfl | exact yes_of ⟨rfl, rfl⟩
    · refine Eq.trans (b := some (Ex.normal, (⟨slots 76 [(0, .c (.sl 0 0 k)), (1, I64 A), (5, .c (.sl 1 0 (j + 1))), (6, I64 (w64 ((lineR k L A (lnAt k L A j)).1 + 1)))], [rowGo own n L, some ⟨98, true, .row 3 (j + 1) (upd (fun q => encP (spAt (lnsN k L A j) q)) j (encP (spOf k L A (lnAt k L A j))))⟩]⟩ : St))) rfl ?_
      have e3 := upd_sp (lnsN k L A j) (spOf k L A (lnAt k L A j))
      rw [lnsN_len] at e3
      rw [e1, e3, ← lnsN_succ]
      rfl
theorem rlinesF_ok : SpecOk Try.prog 93 linesF := by
  refine knownS nilK Try.func93 fun args h r he => ?_
  unfold linesF at he
  split at he
  · rename_i k A own n q
    obtain ⟨⟨h1, h2, h5, h6⟩, he⟩ := Tr.eval_ask.1 he
    cases he
    refine ⟨_, [], 60, _, tell_ok (rlo_loop (own := own) (A := A) h1 h2 h6), ?_⟩
    have e1 : some ⟨87, own, .row 4 n q⟩ = rowGo own n fun j => decG (q j) := by rw [rowGo, ← h5]
    rw [e1]
    refine Tr.go_eval rl_w ?_
    repeat' (first | exact AllT.nil | refine AllT.cons ?_ ?_)
    all_goals first | exact yes_of ⟨rfl, rfl⟩
  · cases he
end Go.Proofs.Ytcpahifgdppkbaa.QAI
end
section
/- Lines: how much they need; glyphs brought near; two rows of lines the same. -/
set_option linter.unusedVariables false
set_option linter.unusedSimpArgs false
namespace Go.Proofs.Ytcpahifgdppkbaa.QAI
open Go Go.RowKit
set_option maxRecDepth 100000
theorem pt1_nf {k : Int} : (lfun niG nol 60 Try.f131 [I64 k] []).eval =
  bif k == (2 : Int) then some (Bo true, []) else some (Bo (k == (4 : Int)), []) := by kernel_rfl
theorem pt2_nf {k : Int} : (lfun niG nol 60 Try.f132 [I64 k] []).eval =
  some (Bo (k == (4 : Int)), []) := by kernel_rfl
noncomputable def pt1F : Spec := fun args h => match args, h with
  | [.c (.v (.int .i64 k))], [] => .ret (Bo (k == 2 || k == 4), [])
  | _, _ => .fail
noncomputable def pt2F : Spec := fun args h => match args, h with
  | [.c (.v (.int .i64 k))], [] => .ret (Bo (k == 4), [])
  | _, _ => .fail
theorem pt1F_ok : SpecOk Try.prog 131 pt1F := by
  refine knownS nilK Try.func131 fun args h r he => ?_
  unfold pt1F at he
  split at he
  · cases he
    refine ⟨fun _ => [], [], 60, nol, noLoopsS, pt1_nf.trans ?_⟩
    rename_i k
    cases (k == 2) <;> rfl
  · cases he
theorem pt2F_ok : SpecOk Try.prog 132 pt2F := by
  refine knownS nilK Try.func132 fun args h r he => ?_
  unfold pt2F at he
  split at he
  · cases he
    exact ⟨fun _ => [], [], 60, nol, noLoopsS, pt2_nf⟩
  · cases he
noncomputable def KB6 : Known := [(131, pt1F), (132, pt2F)]
theorem KB6_ok : KnownOk KB6 := consK pt1F_ok (by kernel_rfl) (consK pt2F_ok (by kernel_rfl) nilK)
abbrev rowsK : List (Nat × Option TypeId) := [(1,none),(5,none),(6,none),(9,none),(10,none),(11,none)]
noncomputable def rowsG : Ctx2 := GT KB6 (fun k => if k = 3 then rowsK else []) 0 []
theorem rowsG_ok : XOk rowsG := GT_ok KB6_ok _ _ _
def rwS1 (own : Bool) (k n : Nat) (L : Nat → Gl) (most w i : Int) : St := ⟨slots 28 [(1, Fn 131), (5, I64 most), (6, I64 w), (9, .c (.sl 0 0 k)), (10, I64 k), (11, I64 i)], [rowGo own n L]⟩
def rwS2 (own : Bool) (k n : Nat) (L : Nat → Gl) (most w i : Int) : St := ⟨slots 28 [(1, Fn 132), (5, I64 most), (6, I64 w), (9, .c (.sl 0 0 k)), (10, I64 k), (11, I64 i)], [rowGo own n L]⟩
theorem rw1_t {own : Bool} {k n : Nat} {L : Nat → Gl} {most w i : Int} : (rT rowsG nol 1 54 (bodyOf Try.f130 0) rowsK rowsK (rwS1 own k n L most w i)).go [] =
  some
    ([decide (i < ((k : Nat) : Int)), decide ((0 : Int) ≤ i), decide (i < ((k : Nat) : Int)), decide (0 + i.toNat < n),
        (L (0 + i.toNat)).k == (2 : Int) || (L (0 + i.toNat)).k == (4 : Int)],
      Ex.normal,
      {
        sl :=
          slots 28
            [(1, AV.c (AC.v (Value.func (Fn.func 131) { toList := [] } { toList := [] }))),
              (5, I64 most), (6, I64 (0 : Int)), (9, AV.c (AC.sl 0 0 k)),
              (10, I64 ((k : Nat) : Int)), (11, I64 (w64 (i + (1 : Int))))],
        h :=
          [some
              { t := 87, own := own,
                c :=
                  Cont.row 4 n fun j =>
                    [Value.int IntKind.i64 (L j).k, Value.int IntKind.i64 (L j).r, Value.int IntKind.i64 (L j).a,
                      Value.int IntKind.i64 (L j).w] }] }) := by kernel_rfl
theorem rw1_f {own : Bool} {k n : Nat} {L : Nat → Gl} {most w i : Int} : (rT rowsG nol 1 54 (bodyOf Try.f130 0) rowsK rowsK (rwS1 own k n L most w i)).go [true, true, true, true, false] =
  some
    ([decide (i < ((k : Nat) : Int)), decide ((0 : Int) ≤ i), decide (i < ((k : Nat) : Int)), decide (0 + i.toNat < n),
        !((L (0 + i.toNat)).k == (2 : Int) || (L (0 + i.toNat)).k == (4 : Int))],
      Ex.normal,
      {
        sl :=
          slots 28
            [(1, AV.c (AC.v (Value.func (Fn.func 131) { toList := [] } { toList := [] }))),
              (5, I64 (mxI (w64 (w + (L (0 + i.toNat)).w)) most)),
              (6, I64 (w64 (w + (L (0 + i.toNat)).w))), (9, AV.c (AC.sl 0 0 k)),
              (10, I64 ((k : Nat) : Int)), (11, I64 (w64 (i + (1 : Int))))],
        h :=
          [some
              { t := 87, own := own,
                c :=
                  Cont.row 4 n fun j =>
                    [Value.int IntKind.i64 (L j).k, Value.int IntKind.i64 (L j).r, Value.int IntKind.i64 (L j).a,
                      Value.int IntKind.i64 (L j).w] }] }) := by kernel_rfl
theorem rw1_e {own : Bool} {k n : Nat} {L : Nat → Gl} {most w i : Int} : (rT rowsG nol 1 54 (bodyOf Try.f130 0) rowsK rowsK (rwS1 own k n L most w i)).go [false] =
  some
    ([!decide (i < ((k : Nat) : Int))], Ex.exit 0,
      {
        sl :=
          slots 28
            [(1, AV.c (AC.v (Value.func (Fn.func 131) { toList := [] } { toList := [] }))),
              (5, I64 most), (6, I64 w), (9, AV.c (AC.sl 0 0 k)),
              (10, I64 ((k : Nat) : Int)), (11, I64 i)],
        h :=
          [some
              { t := 87, own := own,
                c :=
                  Cont.row 4 n fun j =>
                    [Value.int IntKind.i64 (L j).k, Value.int IntKind.i64 (L j).r, Value.int IntKind.i64 (L j).a,
                      Value.int IntKind.i64 (L j).w] }] }) := by kernel_rfl
theorem rw2_t {own : Bool} {k n : Nat} {L : Nat → Gl} {most w i : Int} : (rT rowsG nol 1 54 (bodyOf Try.f130 0) rowsK rowsK (rwS2 own k n L most w i)).go [] =
  some
    ([decide (i < ((k : Nat) : Int)), decide ((0 : Int) ≤ i), decide (i < ((k : Nat) : Int)), decide (0 + i.toNat < n),
        (L (0 + i.toNat)).k == (4 : Int)],
      Ex.normal,
      {
        sl :=
          slots 28
            [(1, AV.c (AC.v (Value.func (Fn.func 132) { toList := [] } { toList := [] }))),
              (5, I64 most), (6, I64 (0 : Int)), (9, AV.c (AC.sl 0 0 k)),
              (10, I64 ((k : Nat) : Int)), (11, I64 (w64 (i + (1 : Int))))],
        h :=
          [some
              { t := 87, own := own,
                c :=
                  Cont.row 4 n fun j =>
                    [Value.int IntKind.i64 (L j).k, Value.int IntKind.i64 (L j).r, Value.int IntKind.i64 (L j).a,
                      Value.int IntKind.i64 (L j).w] }] }) := by kernel_rfl
theorem rw2_f {own : Bool} {k n : Nat} {L : Nat → Gl} {most w i : Int} : (rT rowsG nol 1 54 (bodyOf Try.f130 0) rowsK rowsK (rwS2 own k n L most w i)).go [true, true, true, true, false] =
  some
    ([decide (i < ((k : Nat) : Int)), decide ((0 : Int) ≤ i), decide (i < ((k : Nat) : Int)), decide (0 + i.toNat < n),
        !(L (0 + i.toNat)).k == (4 : Int)],
      Ex.normal,
      {
        sl :=
          slots 28
            [(1, AV.c (AC.v (Value.func (Fn.func 132) { toList := [] } { toList := [] }))),
              (5, I64 (mxI (w64 (w + (L (0 + i.toNat)).w)) most)),
              (6, I64 (w64 (w + (L (0 + i.toNat)).w))), (9, AV.c (AC.sl 0 0 k)),
              (10, I64 ((k : Nat) : Int)), (11, I64 (w64 (i + (1 : Int))))],
        h :=
          [some
              { t := 87, own := own,
                c :=
                  Cont.row 4 n fun j =>
                    [Value.int IntKind.i64 (L j).k, Value.int IntKind.i64 (L j).r, Value.int IntKind.i64 (L j).a,
                      Value.int IntKind.i64 (L j).w] }] }) := by kernel_rfl
theorem rw2_e {own : Bool} {k n : Nat} {L : Nat → Gl} {most w i : Int} : (rT rowsG nol 1 54 (bodyOf Try.f130 0) rowsK rowsK (rwS2 own k n L most w i)).go [false] =
  some
    ([!decide (i < ((k : Nat) : Int))], Ex.exit 0,
      {
        sl :=
          slots 28
            [(1, AV.c (AC.v (Value.func (Fn.func 132) { toList := [] } { toList := [] }))),
              (5, I64 most), (6, I64 w), (9, AV.c (AC.sl 0 0 k)),
              (10, I64 ((k : Nat) : Int)), (11, I64 i)],
        h :=
          [some
              { t := 87, own := own,
                c :=
                  Cont.row 4 n fun j =>
                    [Value.int IntKind.i64 (L j).k, Value.int IntKind.i64 (L j).r, Value.int IntKind.i64 (L j).a,
                      Value.int IntKind.i64 (L j).w] }] }) := by kernel_rfl
theorem rw1_w {own : Bool} {k n : Nat} {L : Nat → Gl} {most w i : Int} : (lfun rowsG (tell (bodyOf Try.f130 0) (rwS1 own k n L 0 0 0) (.exit 0, rwS1 own k n L most w i)) 60 Try.f130 [.c (.sl 0 0 k), Fn 131] [rowGo own n L]).go [] =
  some
    ([yes (wasS (bodyOf Try.f130 0) (rwS1 own k n L 0 0 0))], I64 most,
      [some
          { t := 87, own := own,
            c :=
              Cont.row 4 n fun j =>
                [Value.int IntKind.i64 (L j).k, Value.int IntKind.i64 (L j).r, Value.int IntKind.i64 (L j).a,
                  Value.int IntKind.i64 (L j).w] }]) := by kernel_rfl
theorem rw2_w {own : Bool} {k n : Nat} {L : Nat → Gl} {most w i : Int} : (lfun rowsG (tell (bodyOf Try.f130 0) (rwS2 own k n L 0 0 0) (.exit 0, rwS2 own k n L most w i)) 60 Try.f130 [.c (.sl 0 0 k), Fn 132] [rowGo own n L]).go [] =
  some
    ([yes (wasS (bodyOf Try.f130 0) (rwS2 own k n L 0 0 0))], I64 most,
      [some
          { t := 87, own := own,
            c :=
              Cont.row 4 n fun j =>
                [Value.int IntKind.i64 (L j).k, Value.int IntKind.i64 (L j).r, Value.int IntKind.i64 (L j).a,
                  Value.int IntKind.i64 (L j).w] }]) := by kernel_rfl
abbrev lonK : List (Nat × Option TypeId) := [(0,none),(1,none),(5,none),(6,none),(7,none)]
noncomputable def lonG : Ctx2 := GT [] (fun k => if k = 3 then lonK else []) 0 []
theorem lonG_ok : XOk lonG := GT_ok nilK _ _ _
def lgSt (own : Bool) (k n : Nat) (L : Nat → Gl) (sp : Bool) (most w i : Int) : St := ⟨slots 42 [(0, .c (.sl 0 0 k)), (1, Bo sp), (5, I64 most), (6, I64 w), (7, I64 i)], [rowGo own n L]⟩
theorem lg1_b {own : Bool} {k n : Nat} {L : Nat → Gl} {most w i : Int} : (rT lonG nol 1 54 (bodyOf Try.f133 0) lonK lonK (lgSt own k n L true most w i)).go [] =
  some
    ([decide (i < ((k : Nat) : Int)), decide ((0 : Int) ≤ i), decide (i < ((k : Nat) : Int)), decide (0 + i.toNat < n),
        decide ((0 : Int) ≤ i), decide (i < ((k : Nat) : Int)), decide (0 + i.toNat < n),
        (L (0 + i.toNat)).k == (4 : Int), true, true, true, true],
      Ex.normal,
      {
        sl :=
          slots 42
            [(0, AV.c (AC.sl 0 0 k)), (1, Bo true),
              (5, I64 (mxI (0 : Int) most)), (6, I64 (0 : Int)),
              (7, I64 (w64 (i + (1 : Int))))],
        h :=
          [some
              { t := 87, own := own,
                c :=
                  Cont.row 4 n fun j =>
                    [Value.int IntKind.i64 (L j).k, Value.int IntKind.i64 (L j).r, Value.int IntKind.i64 (L j).a,
                      Value.int IntKind.i64 (L j).w] }] }) := by kernel_rfl
theorem lg1_s {own : Bool} {k n : Nat} {L : Nat → Gl} {most w i : Int} : (rT lonG nol 1 54 (bodyOf Try.f133 0) lonK lonK (lgSt own k n L true most w i)).go [true, true, true, true, true, true, true, false, false, true, true, true, true, true, true, true, true, true, false, true, false] =
  some
    ([decide (i < ((k : Nat) : Int)), decide ((0 : Int) ≤ i), decide (i < ((k : Nat) : Int)), decide (0 + i.toNat < n),
        decide ((0 : Int) ≤ i), decide (i < ((k : Nat) : Int)), decide (0 + i.toNat < n),
        !(L (0 + i.toNat)).k == (4 : Int), true, true, true, true, decide ((0 : Int) ≤ i), decide (i < ((k : Nat) : Int)),
        true, true, decide (0 + i.toNat < n), true, true, true, true, (L (0 + i.toNat)).k == (2 : Int)],
      Ex.normal,
      {
        sl :=
          slots 42
            [(0, AV.c (AC.sl 0 0 k)), (1, Bo true),
              (5, I64 (mxI (0 : Int) most)), (6, I64 (0 : Int)),
              (7, I64 (w64 (i + (1 : Int))))],
        h :=
          [some
              { t := 87, own := own,
                c :=
                  Cont.row 4 n fun j =>
                    [Value.int IntKind.i64 (L j).k, Value.int IntKind.i64 (L j).r, Value.int IntKind.i64 (L j).a,
                      Value.int IntKind.i64 (L j).w] }] }) := by kernel_rfl
theorem lg1_n {own : Bool} {k n : Nat} {L : Nat → Gl} {most w i : Int} : (rT lonG nol 1 54 (bodyOf Try.f133 0) lonK lonK (lgSt own k n L true most w i)).go [true, true, true, true, true, true, true, false, false, true, true, true, true, true, true, true, true, true, false, true, false, false] =
  some
    ([decide (i < ((k : Nat) : Int)), decide ((0 : Int) ≤ i), decide (i < ((k : Nat) : Int)), decide (0 + i.toNat < n),
        decide ((0 : Int) ≤ i), decide (i < ((k : Nat) : Int)), decide (0 + i.toNat < n),
        !(L (0 + i.toNat)).k == (4 : Int), true, true, true, true, decide ((0 : Int) ≤ i), decide (i < ((k : Nat) : Int)),
        true, true, decide (0 + i.toNat < n), true, true, true, true,
        !(L (0 + i.toNat)).k == (2 : Int)],
      Ex.normal,
      {
        sl :=
          slots 42
            [(0, AV.c (AC.sl 0 0 k)), (1, Bo true),
              (5, I64 (mxI (w64 (w + (L (0 + i.toNat)).w)) most)),
              (6, I64 (w64 (w + (L (0 + i.toNat)).w))), (7, I64 (w64 (i + (1 : Int))))],
        h :=
          [some
              { t := 87, own := own,
                c :=
                  Cont.row 4 n fun j =>
                    [Value.int IntKind.i64 (L j).k, Value.int IntKind.i64 (L j).r, Value.int IntKind.i64 (L j).a,
                      Value.int IntKind.i64 (L j).w] }] }) := by kernel_rfl
theorem lg1_e {own : Bool} {k n : Nat} {L : Nat → Gl} {most w i : Int} : (rT lonG nol 1 54 (bodyOf Try.f133 0) lonK lonK (lgSt own k n L true most w i)).go [false] =
  some
    ([!decide (i < ((k : Nat) : Int))], Ex.exit 0,
      {
        sl :=
          slots 42
            [(0, AV.c (AC.sl 0 0 k)), (1, Bo true), (5, I64 most),
              (6, I64 w), (7, I64 i)],
        h :=
          [some
              { t := 87, own := own,
                c :=
                  Cont.row 4 n fun j =>
                    [Value.int IntKind.i64 (L j).k, Value.int IntKind.i64 (L j).r, Value.int IntKind.i64 (L j).a,
                      Value.int IntKind.i64 (L j).w] }] }) := by kernel_rfl
theorem lg0_b {own : Bool} {k n : Nat} {L : Nat → Gl} {most w i : Int} : (rT lonG nol 1 54 (bodyOf Try.f133 0) lonK lonK (lgSt own k n L false most w i)).go [] =
  some
    ([decide (i < ((k : Nat) : Int)), decide ((0 : Int) ≤ i), decide (i < ((k : Nat) : Int)), decide (0 + i.toNat < n),
        decide ((0 : Int) ≤ i), decide (i < ((k : Nat) : Int)), decide (0 + i.toNat < n),
        (L (0 + i.toNat)).k == (4 : Int), true, true, true, true],
      Ex.normal,
      {
        sl :=
          slots 42
            [(0, AV.c (AC.sl 0 0 k)), (1, Bo false),
              (5, I64 (mxI (0 : Int) most)), (6, I64 (0 : Int)),
              (7, I64 (w64 (i + (1 : Int))))],
        h :=
          [some
              { t := 87, own := own,
                c :=
                  Cont.row 4 n fun j =>
                    [Value.int IntKind.i64 (L j).k, Value.int IntKind.i64 (L j).r, Value.int IntKind.i64 (L j).a,
                      Value.int IntKind.i64 (L j).w] }] }) := by kernel_rfl
theorem lg0_n {own : Bool} {k n : Nat} {L : Nat → Gl} {most w i : Int} : (rT lonG nol 1 54 (bodyOf Try.f133 0) lonK lonK (lgSt own k n L false most w i)).go [true, true, true, true, true, true, true, false, false, false, false, false, false, false, false, false, false, false, false] =
  some
    ([decide (i < ((k : Nat) : Int)), decide ((0 : Int) ≤ i), decide (i < ((k : Nat) : Int)), decide (0 + i.toNat < n),
        decide ((0 : Int) ≤ i), decide (i < ((k : Nat) : Int)), decide (0 + i.toNat < n),
        !(L (0 + i.toNat)).k == (4 : Int), true, true, true, true, true, true, true, true, true, true, true],
      Ex.normal,
      {
        sl :=
          slots 42
            [(0, AV.c (AC.sl 0 0 k)), (1, Bo false),
              (5, I64 (mxI (w64 (w + (L (0 + i.toNat)).w)) most)),
              (6, I64 (w64 (w + (L (0 + i.toNat)).w))), (7, I64 (w64 (i + (1 : Int))))],
        h :=
          [some
              { t := 87, own := own,
                c :=
                  Cont.row 4 n fun j =>
                    [Value.int IntKind.i64 (L j).k, Value.int IntKind.i64 (L j).r, Value.int IntKind.i64 (L j).a,
                      Value.int IntKind.i64 (L j).w] }] }) := by kernel_rfl
theorem lg0_e {own : Bool} {k n : Nat} {L : Nat → Gl} {most w i : Int} : (rT lonG nol 1 54 (bodyOf Try.f133 0) lonK lonK (lgSt own k n L false most w i)).go [false] =
  some
    ([!decide (i < ((k : Nat) : Int))], Ex.exit 0,
      {
        sl :=
          slots 42
            [(0, AV.c (AC.sl 0 0 k)), (1, Bo false), (5, I64 most),
              (6, I64 w), (7, I64 i)],
        h :=
          [some
              { t := 87, own := own,
                c :=
                  Cont.row 4 n fun j =>
                    [Value.int IntKind.i64 (L j).k, Value.int IntKind.i64 (L j).r, Value.int IntKind.i64 (L j).a,
                      Value.int IntKind.i64 (L j).w] }] }) := by kernel_rfl
theorem lg1_w {own : Bool} {k n : Nat} {L : Nat → Gl} {most w i : Int} : (lfun lonG (tell (bodyOf Try.f133 0) (lgSt own k n L true 0 0 0) (.exit 0, lgSt own k n L true most w i)) 60 Try.f133 [.c (.sl 0 0 k), Bo true] [rowGo own n L]).go [] =
  some
    ([yes (wasS (bodyOf Try.f133 0) (lgSt own k n L true 0 0 0))], I64 most,
      [some
          { t := 87, own := own,
            c :=
              Cont.row 4 n fun j =>
                [Value.int IntKind.i64 (L j).k, Value.int IntKind.i64 (L j).r, Value.int IntKind.i64 (L j).a,
                  Value.int IntKind.i64 (L j).w] }]) := by kernel_rfl
theorem lg0_w {own : Bool} {k n : Nat} {L : Nat → Gl} {most w i : Int} : (lfun lonG (tell (bodyOf Try.f133 0) (lgSt own k n L false 0 0 0) (.exit 0, lgSt own k n L false most w i)) 60 Try.f133 [.c (.sl 0 0 k), Bo false] [rowGo own n L]).go [] =
  some
    ([yes (wasS (bodyOf Try.f133 0) (lgSt own k n L false 0 0 0))], I64 most,
      [some
          { t := 87, own := own,
            c :=
              Cont.row 4 n fun j =>
                [Value.int IntKind.i64 (L j).k, Value.int IntKind.i64 (L j).r, Value.int IntKind.i64 (L j).a,
                  Value.int IntKind.i64 (L j).w] }]) := by kernel_rfl
abbrev tgmK : List (Nat × Option TypeId) := [(0,none),(3,some 87),(4,none)]
noncomputable def tgmG : Ctx2 := GT [] (fun k => if k = 3 then tgmK else []) 0 []
theorem tgmG_ok : XOk tgmG := GT_ok nilK _ _ _
def tgS (own : Bool) (o k n : Nat) (L : Nat → Gl) (na : Nat) (T : Nat → Gl) (i : Int) : St := ⟨slots 36 [(0, .c (.sl 0 o k)), (3, .c (.sl 1 0 na)), (4, I64 i)], [rowGo own n L, rowGl na T]⟩
theorem tg_go {own : Bool} {o k n : Nat} {L : Nat → Gl} {na : Nat} {T : Nat → Gl} {i : Int} : (rT tgmG nol 1 54 (bodyOf Try.f91 0) tgmK tgmK (tgS own o k n L na T i)).go [] =
  some
    ([decide (i < ((k : Nat) : Int)), true, true, decide (i < (200 : Int)), decide ((0 : Int) ≤ i), decide (i < ((k : Nat) : Int)),
        decide (o + i.toNat < n), true, decide (na = na), true, decide ((na + 1) * 32 ≤ maxCells)],
      Ex.normal,
      {
        sl :=
          slots 36
            [(0, AV.c (AC.sl 0 o k)), (3, AV.c (AC.sl 1 0 (na + 1))),
              (4, I64 (w64 (i + (1 : Int))))],
        h :=
          [some
              { t := 87, own := own,
                c :=
                  Cont.row 4 n fun j =>
                    [Value.int IntKind.i64 (L j).k, Value.int IntKind.i64 (L j).r, Value.int IntKind.i64 (L j).a,
                      Value.int IntKind.i64 (L j).w] },
            some
              { t := 87, own := true,
                c :=
                  Cont.row 4 (na + 1) fun k =>
                    [Value.int IntKind.i64
                        (bif decide (k = na) then w64 (and64 (L (o + i.toNat)).k (3 : Int) + (1 : Int)) else (T k).k),
                      Value.int IntKind.i64 (bif decide (k = na) then (L (o + i.toNat)).r else (T k).r),
                      Value.int IntKind.i64 (bif decide (k = na) then (L (o + i.toNat)).a else (T k).a),
                      Value.int IntKind.i64
                        (bif decide (k = na) then w64 ((u64 (L (o + i.toNat)).w).tmod (1048576 : Int))
                        else (T k).w)] }] }) := by kernel_rfl
theorem tg_e1 {own : Bool} {o k n : Nat} {L : Nat → Gl} {na : Nat} {T : Nat → Gl} {i : Int} : (rT tgmG nol 1 54 (bodyOf Try.f91 0) tgmK tgmK (tgS own o k n L na T i)).go [false, false, false, false] =
  some
    ([!decide (i < ((k : Nat) : Int)), true, true, true], Ex.exit 0,
      {
        sl :=
          slots 36
            [(0, AV.c (AC.sl 0 o k)), (3, AV.c (AC.sl 1 0 na)),
              (4, I64 i)],
        h :=
          [some
              { t := 87, own := own,
                c :=
                  Cont.row 4 n fun j =>
                    [Value.int IntKind.i64 (L j).k, Value.int IntKind.i64 (L j).r, Value.int IntKind.i64 (L j).a,
                      Value.int IntKind.i64 (L j).w] },
            some
              { t := 87, own := true,
                c :=
                  Cont.row 4 na fun j =>
                    [Value.int IntKind.i64 (T j).k, Value.int IntKind.i64 (T j).r, Value.int IntKind.i64 (T j).a,
                      Value.int IntKind.i64 (T j).w] }] }) := by kernel_rfl
theorem tg_e2 {own : Bool} {o k n : Nat} {L : Nat → Gl} {na : Nat} {T : Nat → Gl} {i : Int} : (rT tgmG nol 1 54 (bodyOf Try.f91 0) tgmK tgmK (tgS own o k n L na T i)).go [true, true, true, false] =
  some
    ([decide (i < ((k : Nat) : Int)), true, true, !decide (i < (200 : Int))], Ex.exit 0,
      {
        sl :=
          slots 36
            [(0, AV.c (AC.sl 0 o k)), (3, AV.c (AC.sl 1 0 na)),
              (4, I64 i)],
        h :=
          [some
              { t := 87, own := own,
                c :=
                  Cont.row 4 n fun j =>
                    [Value.int IntKind.i64 (L j).k, Value.int IntKind.i64 (L j).r, Value.int IntKind.i64 (L j).a,
                      Value.int IntKind.i64 (L j).w] },
            some
              { t := 87, own := true,
                c :=
                  Cont.row 4 na fun j =>
                    [Value.int IntKind.i64 (T j).k, Value.int IntKind.i64 (T j).r, Value.int IntKind.i64 (T j).a,
                      Value.int IntKind.i64 (T j).w] }] }) := by kernel_rfl
theorem tg_w {own : Bool} {o k n : Nat} {L : Nat → Gl} {na : Nat} {T : Nat → Gl} {i : Int} : (lfun tgmG (tell (bodyOf Try.f91 0) (tgS own o k n L 0 (fun _ => zGl) 0) (.exit 0, tgS own o k n L na T i)) 60 Try.f91 [.c (.sl 0 o k)] [rowGo own n L]).go [] =
  some
    ([yes (wasS (bodyOf Try.f91 0) (tgS own o k n L 0 (fun _ => zGl) 0))], AV.c (AC.sl 1 0 na),
      [some
          { t := 87, own := own,
            c :=
              Cont.row 4 n fun j =>
                [Value.int IntKind.i64 (L j).k, Value.int IntKind.i64 (L j).r, Value.int IntKind.i64 (L j).a,
                  Value.int IntKind.i64 (L j).w] },
        some
          { t := 87, own := true,
            c :=
              Cont.row 4 na fun j =>
                [Value.int IntKind.i64 (T j).k, Value.int IntKind.i64 (T j).r, Value.int IntKind.i64 (T j).a,
                  Value.int IntKind.i64 (T j).w] }]) := by kernel_rfl
abbrev spnK : List (Nat × Option TypeId) := [(0,none),(1,none),(5,none)]
noncomputable def spnG : Ctx2 := GT [] (fun k => if k = 4 then spnK else []) 0 []
theorem spnG_ok : XOk spnG := GT_ok nilK _ _ _
def rowSo (own : Bool) (n : Nat) (S : Nat → Sp) : Option ABlk := some ⟨98, own, .row 3 n fun j => encP (S j)⟩
def spS (own own' : Bool) (k n n' : Nat) (S S' : Nat → Sp) (i : Int) : St := ⟨slots 26 [(0, .c (.sl 0 0 k)), (1, .c (.sl 1 0 k)), (5, I64 i)], [rowSo own n S, rowSo own' n' S']⟩
theorem sp_go {own own' : Bool} {k n n' : Nat} {S S' : Nat → Sp} {i : Int} : (rT spnG nol 2 54 (bodyOf Try.f92 0) spnK spnK (spS own own' k n n' S S' i)).go [true, true, true, true, true, true, true, false] =
  some
    ([decide (i < ((k : Nat) : Int)), decide ((0 : Int) ≤ i), decide (i < ((k : Nat) : Int)), decide (0 + i.toNat < n),
        decide ((0 : Int) ≤ i), decide (i < ((k : Nat) : Int)), decide (0 + i.toNat < n'),
        !!((S (0 + i.toNat)).f == (S' (0 + i.toNat)).f &&
              ((S (0 + i.toNat)).t == (S' (0 + i.toNat)).t &&
                ((S (0 + i.toNat)).w == (S' (0 + i.toNat)).w && true)))],
      Ex.normal,
      {
        sl :=
          slots 26
            [(0, AV.c (AC.sl 0 0 k)), (1, AV.c (AC.sl 1 0 k)),
              (5, I64 (w64 (i + (1 : Int))))],
        h :=
          [some
              { t := 98, own := own,
                c :=
                  Cont.row 3 n fun j =>
                    [Value.int IntKind.i64 (S j).f, Value.int IntKind.i64 (S j).t, Value.int IntKind.i64 (S j).w] },
            some
              { t := 98, own := own',
                c :=
                  Cont.row 3 n' fun j =>
                    [Value.int IntKind.i64 (S' j).f, Value.int IntKind.i64 (S' j).t,
                      Value.int IntKind.i64 (S' j).w] }] }) := by kernel_rfl
theorem sp_ex {own own' : Bool} {k n n' : Nat} {S S' : Nat → Sp} {i : Int} : (rT spnG nol 2 54 (bodyOf Try.f92 0) spnK spnK (spS own own' k n n' S S' i)).go [false] =
  some
    ([!decide (i < ((k : Nat) : Int))], Ex.exit 0,
      {
        sl :=
          slots 26
            [(0, AV.c (AC.sl 0 0 k)), (1, AV.c (AC.sl 1 0 k)),
              (5, I64 i)],
        h :=
          [some
              { t := 98, own := own,
                c :=
                  Cont.row 3 n fun j =>
                    [Value.int IntKind.i64 (S j).f, Value.int IntKind.i64 (S j).t, Value.int IntKind.i64 (S j).w] },
            some
              { t := 98, own := own',
                c :=
                  Cont.row 3 n' fun j =>
                    [Value.int IntKind.i64 (S' j).f, Value.int IntKind.i64 (S' j).t,
                      Value.int IntKind.i64 (S' j).w] }] }) := by kernel_rfl
theorem sp_w {own own' : Bool} {k n n' : Nat} {S S' : Nat → Sp} {i : Int} : (lfun spnG (tell (bodyOf Try.f92 0) (spS own own' k n n' S S' 0) (.exit 0, spS own own' k n n' S S' i)) 60 Try.f92 [.c (.sl 0 0 k), .c (.sl 1 0 k)] [rowSo own n S, rowSo own' n' S']).go [false] =
  some
    ([!((k : Nat) : Int) != ((k : Nat) : Int), yes (wasS (bodyOf Try.f92 0) (spS own own' k n n' S S' 0))], Bo true,
      [some
          { t := 98, own := own,
            c :=
              Cont.row 3 n fun j =>
                [Value.int IntKind.i64 (S j).f, Value.int IntKind.i64 (S j).t, Value.int IntKind.i64 (S j).w] },
        some
          { t := 98, own := own',
            c :=
              Cont.row 3 n' fun j =>
                [Value.int IntKind.i64 (S' j).f, Value.int IntKind.i64 (S' j).t, Value.int IntKind.i64 (S' j).w] }]) := by kernel_rfl
noncomputable def KD1 : Known := [(128, afun (GK [] (fun _ => []) 0) 60 Try.f128)]
theorem KD1_ok : KnownOk KD1 := consK (known0 nilK 60 Try.func128) (by kernel_rfl) nilK
noncomputable def KD2 : Known := [(157, afun (GK KD1 (fun k => if k = 2 then ixK else []) 20) 60 Try.f157)]
theorem KD2_ok : KnownOk KD2 := consK (known' KD1_ok Try.func157 fun _ _ _ h => ⟨_, _, _, h⟩) (by kernel_rfl) nilK
noncomputable def KD3 : Known := [(127, afun (GK KD2 (fun _ => []) 0) 60 Try.f127), (129, afun (GK [] (fun k => if k = 5 then lnK else []) 20) 60 Try.f129)]
theorem KD3_ok : KnownOk KD3 := consK (known0 KD2_ok 60 Try.func127) (by kernel_rfl) (consK (known' nilK Try.func129 fun _ _ _ h => ⟨_, _, _, h⟩) (by kernel_rfl) nilK)
noncomputable def KD6 : Known := [(131, afun (GK [] (fun _ => []) 0) 60 Try.f131), (132, afun (GK [] (fun _ => []) 0) 60 Try.f132)]
theorem KD6_ok : KnownOk KD6 := consK (known0 nilK 60 Try.func131) (by kernel_rfl) (consK (known0 nilK 60 Try.func132) (by kernel_rfl) nilK)
noncomputable def KD5 : Known := [(130, afun (GK KD6 (fun k => if k = 3 then rowsK else []) 20) 60 Try.f130)]
theorem KD5_ok : KnownOk KD5 := consK (known' KD6_ok Try.func130 fun _ _ _ h => ⟨_, _, _, h⟩) (by kernel_rfl) nilK
noncomputable def KD4 : Known := [(87, afun (GK KD3 (fun k => if k = 4 then liK else []) 20) 60 Try.f87), (88, afun (GK KD5 (fun _ => []) 0) 60 Try.f88), (89, afun (GK KD5 (fun _ => []) 0) 60 Try.f89)]
theorem KD4_ok : KnownOk KD4 := consK (known' KD3_ok Try.func87 fun _ _ _ h => ⟨_, _, _, h⟩) (by kernel_rfl) (consK (known0 KD5_ok 60 Try.func88) (by kernel_rfl) (consK (known0 KD5_ok 60 Try.func89) (by kernel_rfl) nilK))
theorem awake11_eq : (afun (GK KD4 (fun _ => []) 0) 60 Try.f90 [] []).eval = some (Bo true, []) := by kernel_rfl
theorem awake11_ok : SpecOk Try.prog 90 sAwakeT := by
  refine known' KD4_ok Try.func90 fun args h r he => ?_
  unfold sAwakeT at he
  split at he
  · cases he
    exact ⟨_, _, _, awake11_eq⟩
  · cases he
end Go.Proofs.Ytcpahifgdppkbaa.QAI
end
section
/- A law that gives back 'true', its loops being told. -/
set_option linter.unusedVariables false
set_option linter.unusedSimpArgs false
namespace Go.Proofs.Ytcpahifgdppkbaa.QAI
set_option maxRecDepth 100000
open Go Go.RowKit
theorem law_callsS {H : Type} {enc : TypeId × Value → H} {W : World} {base : Nat} {K : Known} (hK : KnownOk K) {f : Nat} {fn : Func} (hf : Try.prog.funcs[f]? = some fn) {ts : List TypeId} {ss : List Shp} {args : Array Value} {ds : List (DataW H)} {p : List MemPlace} (hs : shpsOk Try.prog ts ss = true)
    (hval : ∀ (j : Nat) t v, ts[j]? = some t → args.toList[j]? = some v → Value.okWide Try.prog W .any base t v) (hA : DataW.TrodAll enc Try.prog W 0 (fun _ => true) true ts args.toList ds p) (hlt : ∀ x ∈ p, x.block < W.heap.size) (hwt : (DataW.weightsEach Try.prog ts ds).all (· ≤ reachBytes) = true)
    (he : ∀ is, InsOk ss is → ∃ keep tm d ℓ, LoopsSem (GT K keep 0 tm) (blksIn ss is).length ℓ ∧ (lfun (GT K keep 0 tm) ℓ d fn (avsIn 0 ss is) (blksIn ss is)).eval = some (Bo true, blksIn ss is)) :
    Calls Try.prog f args W fun e w' => e = .returned (.bool true) ∧ Below W.heap.size W w' := by
  obtain ⟨is, ml, h1, h2, h3⟩ := came_all hs hval hA hlt hwt
  obtain ⟨hH, ho⟩ := came_hr h2
  have hv : VRs ml (avsIn 0 ss is) args.toList := by simpa using h3 [] []
  have he' : (trueS K fn (avsIn 0 ss is) (blksIn ss is)).eval = some (Bo true, blksIn ss is) := Tr.eval_ask.2 ⟨he is h1, rfl⟩
  refine (trueS_ok hK hf _ _ _ _ _ he' ml W args hH (Nat.le_refl _) hv).mono fun e w' h => ?_
  obtain ⟨m', x, rfl, hst, hr⟩ := h
  have : x = .bool true := hr
  subst this
  refine ⟨rfl, hst.fr.below fun k _ => ?_⟩
  rintro ⟨id, b, p, A, hb, hown, _⟩
  rw [ho id b hb] at hown
  cases hown
end Go.Proofs.Ytcpahifgdppkbaa.QAI
end
section
/- WhitTells: the whole. -/
set_option linter.unusedVariables false
set_option linter.unusedSimpArgs false
namespace Go.Proofs.Ytcpahifgdppkbaa.QAI
open Go Go.RowKit
set_option maxRecDepth 100000
def m30 (k : Nat) : Nat := if k ≤ 30 then k else 30
def fewN (R : Nat → Rn) : Nat → Nat
  | 0 => 0
  | i + 1 => fewN R i + (if (R i).s.size ≤ 5000 then (R i).s.size else 5000)
theorem fewN_b (R : Nat → Rn) : ∀ i, fewN R i ≤ 5000 * i
  | 0 => Nat.le_refl _
  | i + 1 => by
    have := fewN_b R i
    rw [fewN]
    split <;> omega
def fewB (R : Nat → Rn) (k : Nat) : Bool := decide (k ≤ 25) && decide (fewN R (m30 k) ≤ 2000)
theorem few_len {R : Nat → Rn} {k : Nat} (h : fewB R k = true) : k ≤ 25 ∧ lenR R k ≤ 2000 := by
  simp only [fewB, Bool.and_eq_true, decide_eq_true_eq] at h
  obtain ⟨h1, h2⟩ := h
  have e : m30 k = k := by unfold m30; split <;> omega
  rw [e] at h2
  refine ⟨h1, ?_⟩
  have : ∀ i, fewN R i ≤ 2000 → lenR R i = fewN R i := by
    intro i
    induction i with
    | zero => intro _; rfl
    | succ i ih =>
      intro h
      have e1 : fewN R (i + 1) = fewN R i + (if (R i).s.size ≤ 5000 then (R i).s.size else 5000) := rfl
      have e2 : lenR R (i + 1) = lenR R i + (R i).s.size := rfl
      split at e1
      · have := ih (by omega)
        omega
      · omega
  rw [this k h2]
  exact h2
theorem fw_loop {own : Bool} {o k n : Nat} {R : Nat → Rn} (hn : o + k ≤ n) : CodeSem fwG 1 (.loop (bodyOf Try.f84 0)) (fwS own o k n R 0 0) (.exit 0, fwS own o k n R (fewN (fun i => R (o + i)) (m30 k)) (m30 k)) := by
  have hm : m30 k ≤ 30 ∧ m30 k ≤ k := by unfold m30; split <;> omega
  refine loop_of (fun i => fwS own o k n R (fewN (fun i => R (o + i)) i) (i : Int)) (m30 k) (by simp) ?_ fun j hj => ?_
  · by_cases h : k ≤ 30
    · have e : m30 k = k := by simp [m30, h]
      rw [e]
      exact rT_sem fwG_ok noLoopsS (rT_go fw_e1 ⟨by simp, rfl, rfl, rfl, trivial⟩)
    · have e : m30 k = 30 := by simp [m30, h]
      rw [e]
      exact rT_sem fwG_ok noLoopsS (rT_go fw_e2 ⟨by simp; omega, rfl, rfl, by simp, trivial⟩)
  · have h3 := succ64 (j := j) (by omega)
    have hf := fewN_b (fun i => R (o + i)) j
    refine rT_sem fwG_ok noLoopsS ((rT_go fw_go ?_).trans ?_)
    · simp only [Int.toNat_natCast]
      repeat' (first | exact AllT.nil | refine AllT.cons ?_ ?_)
      all_goals first | (with_reducible rfl) | exact decide_eq_true (by omega)
    · rw [h3]
      refine Eq.trans (b := some (Ex.normal, fwS own o k n R (w64 (((fewN (fun i => R (o + i)) j : Nat) : Int) + mnI 5000 (((R (o + (j : Int).toNat)).s.size : Nat) : Int))) ((j + 1 : Nat) : Int))) rfl ?_
      have e : w64 (((fewN (fun i => R (o + i)) j : Nat) : Int) + mnI 5000 (((R (o + (j : Int).toNat)).s.size : Nat) : Int)) = ((fewN (fun i => R (o + i)) (j + 1) : Nat) : Int) := by
        rw [fewN, mnI_eq, Int.toNat_natCast, w64_id (by omega) (by omega)]
        split <;> omega
      rw [e]
noncomputable def fewF : Spec := fun args h => match args, h with
  | [.c (.sl 0 o k)], [some ⟨83, own, .row 4 n q⟩] =>
    .need (yes (o + k ≤ n ∧ q = fun j => encN (decN (q j)))) (.ret (Bo (fewB (fun i => decN (q (o + i))) k), [some ⟨83, own, .row 4 n q⟩]))
  | _, _ => .fail
theorem fewF_ok : SpecOk Try.prog 84 fewF := by
  refine knownS nilK Try.func84 fun args h r he => ?_
  unfold fewF at he
  split at he
  · rename_i o k own n q
    obtain ⟨⟨h1, h2⟩, he⟩ := Tr.eval_ask.1 he
    cases he
    refine ⟨_, [], 60, _, tell_ok (fw_loop (own := own) (R := fun j => decN (q j)) h1), ?_⟩
    have e1 : some ⟨83, own, .row 4 n q⟩ = rowRn own n fun j => decN (q j) := by rw [rowRn, ← h2]
    rw [e1]
    by_cases h : k ≤ 25
    · refine (Tr.go_eval fw_wt ⟨yes_of ⟨rfl, rfl⟩, decide_eq_true (by omega), rfl, rfl, trivial⟩).trans ?_
      have e : decide (((fewN (fun i => decN (q (o + i))) (m30 k) : Nat) : Int) ≤ 2000) = fewB (fun i => decN (q (o + i))) k := by
        unfold fewB
        rw [decide_eq_true h, Bool.true_and]
        exact decide_eq_decide.2 (by omega)
      show some (Bo (decide (((fewN (fun i => decN (q (o + i))) (m30 k) : Nat) : Int) ≤ 2000)), _) = _
      rw [e]
      rfl
    · refine (Tr.go_eval fw_wf ?_).trans ?_
      · repeat' (first | exact AllT.nil | refine AllT.cons ?_ ?_)
        all_goals first | exact yes_of ⟨rfl, rfl⟩ | (simp; omega) | rfl
      · have e : fewB (fun i => decN (q (o + i))) k = false := by unfold fewB; simp [h]
        rw [e]
        rfl
  · cases he
theorem sm_loop {own own' : Bool} {k n n' : Nat} {L L' : Nat → Gl} (hn : k ≤ n) (hn' : k ≤ n') (hk : k < 2 ^ 40) (h : ∀ i, i < k → L i = L' i) :
    CodeSem smG 2 (.loop (bodyOf Try.f85 0)) (smS own own' k n n' L L' 0) (.exit 0, smS own own' k n n' L L' k) := by
  refine loop_of (fun i => smS own own' k n n' L L' (i : Int)) k (by simp) ?_ fun j hj => ?_
  · exact rT_sem smG_ok noLoopsS (rT_go sm_ex ⟨by simp, trivial⟩)
  · have h3 := succ64 (j := j) (by omega)
    refine rT_sem smG_ok noLoopsS ((rT_go sm_go ?_).trans ?_)
    · simp only [Int.toNat_natCast, Nat.zero_add, h j hj]
      repeat' (first | exact AllT.nil | refine AllT.cons ?_ ?_)
      all_goals first | (with_reducible rfl) | exact decide_eq_true (by omega) | simp
    · rw [h3]
      rfl
noncomputable def sameG : Spec := fun args h => match args, h with
  | [.c (.sl 0 0 k), .c (.sl 1 0 k')], [some ⟨87, own, .row 4 n q⟩, some ⟨87, own', .row 4 n' q'⟩] =>
    .need (yes (k' = k ∧ k ≤ n ∧ k ≤ n' ∧ k < 2 ^ 40 ∧ (q = fun j => encG (decG (q j))) ∧ (q' = fun j => encG (decG (q' j))) ∧ ∀ i, i < k → decG (q i) = decG (q' i)))
      (.ret (Bo true, [some ⟨87, own, .row 4 n q⟩, some ⟨87, own', .row 4 n' q'⟩]))
  | _, _ => .fail
theorem sameG_ok : SpecOk Try.prog 85 sameG := by
  refine knownS nilK Try.func85 fun args h r he => ?_
  unfold sameG at he
  split at he
  · rename_i k k' own n q own' n' q'
    obtain ⟨⟨h0, h1, h2, h3, h4, h5, h6⟩, he2⟩ := Tr.eval_ask.1 he
    clear he
    cases he2
    subst h0
    refine ⟨_, [], 60, _, tell_ok (sm_loop (own := own) (own' := own') (L := fun j => decG (q j)) (L' := fun j => decG (q' j)) h1 h2 h3 h6), ?_⟩
    have e1 : some ⟨87, own, .row 4 n q⟩ = rowGo own n fun j => decG (q j) := by rw [rowGo, ← h4]
    have e2 : some ⟨87, own', .row 4 n' q'⟩ = rowGo own' n' fun j => decG (q' j) := by rw [rowGo, ← h5]
    rw [e1, e2]
    refine Tr.go_eval sm_w ?_
    repeat' (first | exact AllT.nil | refine AllT.cons ?_ ?_)
    all_goals first | exact yes_of ⟨rfl, rfl⟩ | rfl | (simp; done)
  · cases he
noncomputable def KWT : Known := [(46, tmF2), (81, rnF), (82, glF), (83, sAwakeT), (84, fewF), (85, sameG), (86, glF)]
theorem KWT_ok : KnownOk KWT := consK tmF2_ok (by kernel_rfl) (consK rnF_ok (by kernel_rfl) (consK glF_ok (by kernel_rfl) (consK awake10_ok (by kernel_rfl) (consK fewF_ok (by kernel_rfl) (consK sameG_ok (by kernel_rfl) (consK rgF_ok (by kernel_rfl) nilK))))))
noncomputable def wtG : Ctx2 := GT KWT (fun _ => []) 0 []
theorem wt_f {a : Nat → Int} {k K : Nat} {R : Nat → Rn} {g : Nat → Int} : (lfun wtG nol 60 Try.f23 [aA a, .c (.sl 0 0 k), .c (.sl 1 0 K)] [rowRn false k R, rowJ false K g]).go [] =
  some
    ([yes (0 + k ≤ k ∧ (fun j => encN (R j)) = fun j => encN (decN (encN (R j)))),
        !fewB (fun i => decN (encN (R (0 + i)))) k],
      Bo true,
      [some
          { t := 83, own := false,
            c :=
              Cont.row 4 k fun j =>
                [Value.int IntKind.i64 (R j).n, Value.string (R j).s, Value.int IntKind.i64 (R j).v,
                  Value.int IntKind.i64 (R j).l] },
        some { t := 2, own := false, c := Cont.row 1 K fun j => [Value.int IntKind.i64 (g j)] }]) := by kernel_rfl
theorem wt_t {a : Nat → Int} {k K : Nat} {R : Nat → Rn} {g : Nat → Int} : (lfun wtG nol 60 Try.f23 [aA a, .c (.sl 0 0 k), .c (.sl 1 0 K)] [rowRn false k R, rowJ false K g]).go [true, false] =
  some
    ([yes (0 + k ≤ k ∧ (fun j => encN (R j)) = fun j => encN (decN (encN (R j)))),
        !!fewB (fun i => decN (encN (R (0 + i)))) k, true, true,
        yes
          (0 + k ≤ k ∧
            k < 2 ^ 40 ∧
              lenR (fun i => decN (encN (R (0 + i)))) k < 2 ^ 39 ∧
                ((fun k => Value.int IntKind.i64 (a k)) = fun k => Value.int IntKind.i64 (a k)) ∧
                  (fun j => encN (R j)) = fun j => encN (decN (encN (R j)))),
        yes
          (0 + k ≤ k ∧
            k < 2 ^ 40 ∧
              lenR (fun i => decN (encN (R (0 + i)))) k < 2 ^ 39 ∧
                ((fun k => Value.int IntKind.i64 (a k)) = fun k => Value.int IntKind.i64 (a k)) ∧
                  (fun j => encN (R j)) = fun j => encN (decN (encN (R j)))),
        yes
          ((glyphs (Mt fun k => a k) (fun i => decN (encN (R (0 + i)))) k).length =
              (glyphs (Mt fun k => a k) (fun i => decN (encN (R (0 + i)))) k).length ∧
            (glyphs (Mt fun k => a k) (fun i => decN (encN (R (0 + i)))) k).length ≤
                (glyphs (Mt fun k => a k) (fun i => decN (encN (R (0 + i)))) k).length ∧
              (glyphs (Mt fun k => a k) (fun i => decN (encN (R (0 + i)))) k).length ≤
                  (glyphs (Mt fun k => a k) (fun i => decN (encN (R (0 + i)))) k).length ∧
                (glyphs (Mt fun k => a k) (fun i => decN (encN (R (0 + i)))) k).length <
                    2 ^ 40 ∧
                  ((fun j => encG (at_ (glyphs (Mt fun k => a k) (fun i => decN (encN (R (0 + i)))) k) j)) =
                      fun j =>
                      encG
                        (decG (encG (at_ (glyphs (Mt fun k => a k) (fun i => decN (encN (R (0 + i)))) k) j)))) ∧
                    ((fun j => encG (at_ (glyphs (Mt fun k => a k) (fun i => decN (encN (R (0 + i)))) k) j)) =
                        fun j =>
                        encG
                          (decG
                            (encG (at_ (glyphs (Mt fun k => a k) (fun i => decN (encN (R (0 + i)))) k) j)))) ∧
                      ∀ (i : Nat),
                        i < (glyphs (Mt fun k => a k) (fun i => decN (encN (R (0 + i)))) k).length →
                          decG (encG (at_ (glyphs (Mt fun k => a k) (fun i => decN (encN (R (0 + i)))) k) i)) =
                            decG
                              (encG (at_ (glyphs (Mt fun k => a k) (fun i => decN (encN (R (0 + i)))) k) i))),
        true, true, true, true, true, true, true,
        yes ((fun k => Value.int IntKind.i64 (a k)) = fun k => Value.int IntKind.i64 (a k)), true,
        yes (0 + K ≤ K ∧ (fun j => v1 (g j)) = fun j => v1 (vd (v1 (g j)))), true,
        yes
          (0 + m12 K ≤ m12 K ∧
            m12 K < 2 ^ 40 ∧
              lenR (fun i => decN (encN (runsL (fun j => vd (v1 (g (0 + j)))) (m12 K) (0 + i))))
                    (m12 K) <
                  2 ^ 39 ∧
                ((fun k => Value.int IntKind.i64 (tz (fun k => a k) k)) = fun k =>
                    Value.int IntKind.i64 (tz (fun k => a k) k)) ∧
                  (fun j => encN (runsL (fun j => vd (v1 (g (0 + j)))) (m12 K) j)) = fun j =>
                    encN (decN (encN (runsL (fun j => vd (v1 (g (0 + j)))) (m12 K) j)))),
        true, yes ((fun k => Value.int IntKind.i64 (a k)) = fun k => Value.int IntKind.i64 (a k)), true,
        yes (0 + K ≤ K ∧ (fun j => v1 (g j)) = fun j => v1 (vd (v1 (g j)))), true,
        yes
          (0 + m12 K ≤ m12 K ∧
            m12 K < 2 ^ 40 ∧
              lenR (fun i => decN (encN (runsL (fun j => vd (v1 (g (0 + j)))) (m12 K) (0 + i))))
                    (m12 K) <
                  2 ^ 39 ∧
                ((fun k => Value.int IntKind.i64 (tz (fun k => a k) k)) = fun k =>
                    Value.int IntKind.i64 (tz (fun k => a k) k)) ∧
                  (fun j => encN (runsL (fun j => vd (v1 (g (0 + j)))) (m12 K) j)) = fun j =>
                    encN (decN (encN (runsL (fun j => vd (v1 (g (0 + j)))) (m12 K) j)))),
        true,
        yes
          ((glyphs (Mt fun k => tz (fun k => a k) k)
                  (fun i => decN (encN (runsL (fun j => vd (v1 (g (0 + j)))) (m12 K) (0 + i))))
                  (m12 K)).length =
              (glyphs (Mt fun k => tz (fun k => a k) k)
                  (fun i => decN (encN (runsL (fun j => vd (v1 (g (0 + j)))) (m12 K) (0 + i))))
                  (m12 K)).length ∧
            (glyphs (Mt fun k => tz (fun k => a k) k)
                    (fun i => decN (encN (runsL (fun j => vd (v1 (g (0 + j)))) (m12 K) (0 + i))))
                    (m12 K)).length ≤
                (glyphs (Mt fun k => tz (fun k => a k) k)
                    (fun i => decN (encN (runsL (fun j => vd (v1 (g (0 + j)))) (m12 K) (0 + i))))
                    (m12 K)).length ∧
              (glyphs (Mt fun k => tz (fun k => a k) k)
                      (fun i => decN (encN (runsL (fun j => vd (v1 (g (0 + j)))) (m12 K) (0 + i))))
                      (m12 K)).length ≤
                  (glyphs (Mt fun k => tz (fun k => a k) k)
                      (fun i => decN (encN (runsL (fun j => vd (v1 (g (0 + j)))) (m12 K) (0 + i))))
                      (m12 K)).length ∧
                (glyphs (Mt fun k => tz (fun k => a k) k)
                        (fun i => decN (encN (runsL (fun j => vd (v1 (g (0 + j)))) (m12 K) (0 + i))))
                        (m12 K)).length <
                    2 ^ 40 ∧
                  ((fun j =>
                        encG
                          (at_
                            (glyphs (Mt fun k => tz (fun k => a k) k)
                              (fun i =>
                                decN (encN (runsL (fun j => vd (v1 (g (0 + j)))) (m12 K) (0 + i))))
                              (m12 K))
                            j)) =
                      fun j =>
                      encG
                        (decG
                          (encG
                            (at_
                              (glyphs (Mt fun k => tz (fun k => a k) k)
                                (fun i =>
                                  decN (encN (runsL (fun j => vd (v1 (g (0 + j)))) (m12 K) (0 + i))))
                                (m12 K))
                              j)))) ∧
                    ((fun j =>
                          encG
                            (at_
                              (glyphs (Mt fun k => tz (fun k => a k) k)
                                (fun i =>
                                  decN (encN (runsL (fun j => vd (v1 (g (0 + j)))) (m12 K) (0 + i))))
                                (m12 K))
                              j)) =
                        fun j =>
                        encG
                          (decG
                            (encG
                              (at_
                                (glyphs (Mt fun k => tz (fun k => a k) k)
                                  (fun i =>
                                    decN (encN (runsL (fun j => vd (v1 (g (0 + j)))) (m12 K) (0 + i))))
                                  (m12 K))
                                j)))) ∧
                      ∀ (i : Nat),
                        i <
                            (glyphs (Mt fun k => tz (fun k => a k) k)
                                (fun i =>
                                  decN (encN (runsL (fun j => vd (v1 (g (0 + j)))) (m12 K) (0 + i))))
                                (m12 K)).length →
                          decG
                              (encG
                                (at_
                                  (glyphs (Mt fun k => tz (fun k => a k) k)
                                    (fun i =>
                                      decN
                                        (encN (runsL (fun j => vd (v1 (g (0 + j)))) (m12 K) (0 + i))))
                                    (m12 K))
                                  i)) =
                            decG
                              (encG
                                (at_
                                  (glyphs (Mt fun k => tz (fun k => a k) k)
                                    (fun i =>
                                      decN
                                        (encN (runsL (fun j => vd (v1 (g (0 + j)))) (m12 K) (0 + i))))
                                    (m12 K))
                                  i))),
        true, true, true],
      Bo true,
      [some
          { t := 83, own := false,
            c :=
              Cont.row 4 k fun j =>
                [Value.int IntKind.i64 (R j).n, Value.string (R j).s, Value.int IntKind.i64 (R j).v,
                  Value.int IntKind.i64 (R j).l] },
        some { t := 2, own := false, c := Cont.row 1 K fun j => [Value.int IntKind.i64 (g j)] }]) := by kernel_rfl
end Go.Proofs.Ytcpahifgdppkbaa.QAI
end
section
/- WhitTells: what is asked on the way holds. -/
set_option linter.unusedVariables false
set_option linter.unusedSimpArgs false
namespace Go.Proofs.Ytcpahifgdppkbaa.QAI
open Go Go.RowKit
set_option maxRecDepth 100000
theorem ins_runs {ss : List Shp} {is : List In} (h : InsOk (.rows 83 [.int .i64, .str, .int .i64, .int .i64] :: ss) is) :
    ∃ (k : Nat) (g : Nat → Rn) (is' : List In), is = .rows k (fun i => encN (g i)) :: is' ∧ InsOk ss is' ∧ k ≤ maxLen := by
  obtain ⟨i, is', rfl, h1, h2⟩ := ins_cons h
  cases i with
  | rows k f =>
    obtain ⟨hk, h1⟩ := h1
    have : ∀ i, ∃ b, f i = encN b := fun i => by
      have hl := (h1 i).length
      obtain ⟨b0, hb0, a0, rfl, _⟩ := (h1 i).get 0 _ rfl
      obtain ⟨b1, hb1, a1, rfl, _⟩ := (h1 i).get 1 _ rfl
      obtain ⟨b2, hb2, a2, rfl, _⟩ := (h1 i).get 2 _ rfl
      obtain ⟨b3, hb3, a3, rfl, _⟩ := (h1 i).get 3 _ rfl
      match hf : f i, hl with
      | [x0, x1, x2, x3], _ =>
        rw [hf] at hb0 hb1 hb2 hb3
        simp only [List.getElem?_cons_zero, List.getElem?_cons_succ, Option.some.injEq] at hb0 hb1 hb2 hb3
        subst hb0; subst hb1; subst hb2; subst hb3
        exact ⟨⟨a0, a1, a2, a3⟩, rfl⟩
    refine ⟨k, fun i => (this i).choose, is', ?_, h2, hk⟩
    congr 2
    funext i
    exact (this i).choose_spec
  | _ => cases h1
theorem runsL_len (g : Nat → Int) {m : Nat} : ∀ i, i ≤ m → lenR (runsL g m) i ≤ 36 * i
  | 0, _ => Nat.le_refl _
  | i + 1, hi => by
    have h1 := runsL_len g (m := m) i (by omega)
    have e : lenR (runsL g m) (i + 1) = lenR (runsL g m) i + (runsL g m i).s.size := rfl
    have h2 : (runsL g m i).s.size ≤ 36 := by
      have h3 : i < m := by omega
      simp only [runsL, h3, if_true]
      have := rnT_len (g i) 12
      exact this
    omega
theorem whitTells_true (a : Nat → Int) (k K : Nat) (R : Nat → Rn) (g : Nat → Int) : (lfun wtG nol 60 Try.f23 [aA a, .c (.sl 0 0 k), .c (.sl 1 0 K)] [rowRn false k R, rowJ false K g]).eval = some (Bo true, [rowRn false k R, rowJ false K g]) := by
  by_cases hf : fewB R k = true
  · obtain ⟨hk, hlen⟩ := few_len hf
    obtain ⟨hm1, hm2⟩ := m12_le K
    have hl2 := runsL_len (fun j => g j) (m := m12 K) (m12 K) (Nat.le_refl _)
    refine (Tr.go_eval (wt_t (a := a) (k := k) (K := K) (R := R) (g := g)) ?_).trans ?_
    · simp only [Nat.zero_add]
      have hf' : (!!fewB R k) = true := by rw [hf]; rfl
      have g1 := glyphs_len (M := Mt fun k => a k) (R := R) (k := k)
      have g2 := glyphs_len (M := Mt fun k => tz (fun k => a k) k) (R := runsL (fun j => g j) (m12 K)) (k := m12 K)
      repeat' (first | exact AllT.nil | refine AllT.cons ?_ ?_)
      all_goals first
        | (with_reducible rfl)
        | exact hf'
        | (refine yes_of ?_
           repeat' (first | exact trivial | (with_reducible rfl) | refine And.intro ?_ ?_)
           all_goals first
             | exact Nat.le_refl _
             | (show lenR R k < 2 ^ 39; omega)
             | (show lenR (runsL (fun j => g j) (m12 K)) (m12 K) < 2 ^ 39; omega)
             | (show (glyphs (Mt fun k => a k) R k).length < 2 ^ 40; omega)
             | (show (glyphs (Mt fun k => tz (fun k => a k) k) (runsL (fun j => g j) (m12 K)) (m12 K)).length < 2 ^ 40; omega)
             | omega
             | rfl
             | exact fun _ _ => rfl
             | exact fun _ _ => trivial)
    · rfl
  · have hf' : (!fewB R k) = true := by simpa using hf
    refine (Tr.go_eval (wt_f (a := a) (k := k) (K := K) (R := R) (g := g)) ?_).trans ?_
    · simp only [Nat.zero_add]
      repeat' (first | exact AllT.nil | refine AllT.cons ?_ ?_)
      all_goals first | exact yes_of ⟨Nat.le_refl _, rfl⟩ | exact hf' | rfl
    · rfl
def whitTellsS : List Shp := [.arr 256 (.int .i64), .rows 83 [.int .i64, .str, .int .i64, .int .i64], .rows 2 [.int .i64]]
theorem whitTells_core : ∀ is, InsOk whitTellsS is → ∃ keep tm d ℓ, LoopsSem (GT KWT keep 0 tm) (blksIn whitTellsS is).length ℓ ∧ (lfun (GT KWT keep 0 tm) ℓ d Try.f23 (avsIn 0 whitTellsS is) (blksIn whitTellsS is)).eval = some (Bo true, blksIn whitTellsS is) := by
  intro is0 h0
  obtain ⟨v0, is1, rfl, h1⟩ := ins_arr h0
  obtain ⟨k1, v1', is2, rfl, h2, _⟩ := ins_runs h1
  obtain ⟨k2, v2, is3, rfl, h3, _⟩ := ins_ints h2
  obtain rfl := ins_nil h3
  exact ⟨_, [], 60, nol, noLoopsS, whitTells_true v0 k1 k2 v1' v2⟩
end Go.Proofs.Ytcpahifgdppkbaa.QAI
end
