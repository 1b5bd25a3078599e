/- Lemmas. -/
import Derived.Test.YtcpahifgdppkbaaQWireTells7
set_option linter.unusedVariables false
set_option linter.unusedSimpArgs false
set_option maxRecDepth 100000
namespace Go.Proofs.Ytcpahifgdppkbaa.QAI
section
open Go Go.RowKit
noncomputable def KXA:Known:=[(146,xfiF),(147,xfoF),(150,xheF)]
theorem KXA_ok:KnownOk KXA:=consK xfiF_ok (by kernel_rfl) (consK xfoF_ok (by kernel_rfl) (consK xheF_ok (by kernel_rfl) nilK))
noncomputable def xaG:Ctx2:=GK KXA (fun k=>if k=20 then [(1,none),(4,none),(5,none),(6,none),(7,none),(8,none),(18,none)] else if k=30 then [(4,none),(6,none),(9,none)] else []) 6
theorem xa_1n {a:Rd}:(afun xaG 60 Try.f106 [rV a] []).go [] =
 some
  ([a.k==(1:Int),
    !(a.k==a.k &&
      ((0:Int)==a.e &&
       ((0:Int)==a.a &&
        ((0:Int)==a.n &&
         ((0:Int)==a.p &&
          ((0:Int)==a.t &&
           ((0:Int)==a.x &&
            ((0:Int)==a.y&&((0:Int)==a.w&&((0:Int)==a.h&&true))))))))))],
   AV.tup [AV.c (AC.v (Value.slice none 0 0)),Bo false],[]):=by kernel_rfl
theorem xa_1t {a:Rd}:(afun xaG 60 Try.f106 [rV a] []).go (dN 3 1) =
 some
  ([a.k==(1:Int),
    !!(a.k==a.k &&
       ((0:Int)==a.e &&
        ((0:Int)==a.a &&
         ((0:Int)==a.n &&
          ((0:Int)==a.p &&
           ((0:Int)==a.t &&
            ((0:Int)==a.x &&
             ((0:Int)==a.y&&((0:Int)==a.w&&((0:Int)==a.h&&true)))))))))),
    true],
   AV.tup [AV.c (AC.sl 0 0 1),Bo true],
   [some
     {t:=5,own:=true,
      c:=
       Cont.lst 1 [[AC.v (Value.int IntKind.u8 (IntKind.u8.wrap a.k))]]
        [AC.v (Value.int IntKind.u8 (0:Int))] }]):=by kernel_rfl
theorem xa_2b1 {a:Rd}:(afun xaG 60 Try.f106 [rV a] []).go [false] =
 some
  ([!a.k==(1:Int),a.k==(2:Int),decide (a.e<(0:Int)),true,true,true,true],
   AV.tup [AV.c (AC.v (Value.slice none 0 0)),Bo false],[]):=by kernel_rfl
theorem xa_2b2 {a:Rd}:(afun xaG 60 Try.f106 [rV a] []).go (dN 6 2) =
 some
  ([!a.k==(1:Int),a.k==(2:Int),!decide (a.e<(0:Int)),true,true,true,decide (a.e>(255:Int))],
   AV.tup [AV.c (AC.v (Value.slice none 0 0)),Bo false],[]):=by kernel_rfl
theorem xa_2n {a:Rd}:(afun xaG 60 Try.f106 [rV a] []).go (dN 7 2) =
 some
  ([!a.k==(1:Int),a.k==(2:Int),!decide (a.e<(0:Int)),true,true,true,!decide (a.e>(255:Int)),
    true,true,true,
    !(a.k==a.k &&
      (a.e==a.e &&
       (a.a==a.a &&
        ((0:Int)==a.n &&
         ((0:Int)==a.p &&
          ((0:Int)==a.t &&
           ((0:Int)==a.x &&
            ((0:Int)==a.y&&((0:Int)==a.w&&((0:Int)==a.h&&true))))))))))],
   AV.tup [AV.c (AC.v (Value.slice none 0 0)),Bo false],[]):=by kernel_rfl
theorem xa_2f {a:Rd}:(afun xaG 60 Try.f106 [rV a] []).go (dN 11 898) =
 some
  ([!a.k==(1:Int),a.k==(2:Int),!decide (a.e<(0:Int)),true,true,true,!decide (a.e>(255:Int)),
    true,true,true,
    !!(a.k==a.k &&
       (a.e==a.e &&
        (a.a==a.a &&
         ((0:Int)==a.n &&
          ((0:Int)==a.p &&
           ((0:Int)==a.t &&
            ((0:Int)==a.x &&
             ((0:Int)==a.y&&((0:Int)==a.w&&((0:Int)==a.h&&true)))))))))),
    true,true,true,true,!fits a.a],
   AV.tup [AV.c (AC.v (Value.slice none 0 0)),Bo false],[]):=by kernel_rfl
theorem xa_2t {a:Rd}:(afun xaG 60 Try.f106 [rV a] []).go (dN 23 4160386) =
 some
  ([!a.k==(1:Int),a.k==(2:Int),!decide (a.e<(0:Int)),true,true,true,!decide (a.e>(255:Int)),
    true,true,true,
    !!(a.k==a.k &&
       (a.e==a.e &&
        (a.a==a.a &&
         ((0:Int)==a.n &&
          ((0:Int)==a.p &&
           ((0:Int)==a.t &&
            ((0:Int)==a.x &&
             ((0:Int)==a.y&&((0:Int)==a.w&&((0:Int)==a.h&&true)))))))))),
    true,true,true,true,!!fits a.a,true,true,true,true,true,true,true],
   AV.tup [AV.c (AC.sl 0 0 6),Bo true],
   [some
     {t:=5,own:=true,
      c:=
       Cont.row 1 6 fun k=>
        Decidable.rec
         (fun h=>
          if k<6 then ub (gL (four a.a) (0+(k-2)))
          else [Value.int IntKind.u8 (0:Int)])
         (fun h=>
          updL
           (fun i=>[[Value.int IntKind.u8 (IntKind.u8.wrap a.k)]].getD i [Value.int IntKind.u8 (0:Int)])
           1 [[Value.int IntKind.u8 (IntKind.u8.wrap a.e)]] k)
         (k.decLt 2) }]):=by kernel_rfl
theorem xa_3n {a:Rd}:(afun xaG 60 Try.f106 [rV a] []).go [false,false] =
 some
  ([!a.k==(1:Int),!a.k==(2:Int),a.k==(3:Int),
    !(a.k==a.k &&
      ((0:Int)==a.e &&
       ((0:Int)==a.a &&
        ((0:Int)==a.n &&
         (a.p==a.p &&
          (a.t==a.t &&
           ((0:Int)==a.x &&
            ((0:Int)==a.y&&((0:Int)==a.w&&((0:Int)==a.h&&true))))))))))],
   AV.tup [AV.c (AC.v (Value.slice none 0 0)),Bo false],[]):=by kernel_rfl
theorem xa_3f0 {a:Rd}:(afun xaG 60 Try.f106 [rV a] []).go (dN 4 4) =
 some
  ([!a.k==(1:Int),!a.k==(2:Int),a.k==(3:Int),
    !!(a.k==a.k &&
       ((0:Int)==a.e &&
        ((0:Int)==a.a &&
         ((0:Int)==a.n &&
          (a.p==a.p &&
           (a.t==a.t &&
            ((0:Int)==a.x &&
             ((0:Int)==a.y&&((0:Int)==a.w&&((0:Int)==a.h&&true)))))))))),
    true,true,true,true,!fits ([a.p,a.t].getD 0 (0:Int))],
   AV.tup [AV.c (AC.v (Value.slice none 0 0)),Bo false],[]):=by kernel_rfl
theorem xa_3f1 {a:Rd}:(afun xaG 60 Try.f106 [rV a] []).go (dN 9 244) =
 some
  ([!a.k==(1:Int),!a.k==(2:Int),a.k==(3:Int),
    !!(a.k==a.k &&
       ((0:Int)==a.e &&
        ((0:Int)==a.a &&
         ((0:Int)==a.n &&
          (a.p==a.p &&
           (a.t==a.t &&
            ((0:Int)==a.x &&
             ((0:Int)==a.y&&((0:Int)==a.w&&((0:Int)==a.h&&true)))))))))),
    true,true,true,true,!!fits ([a.p,a.t].getD 0 (0:Int)),true,true,true,true,true,true,true,
    true,true,true,!fits ([a.p,a.t].getD 1 (0:Int))],
   AV.tup [AV.c (AC.v (Value.slice none 0 0)),Bo false],[]):=by kernel_rfl
theorem xa_3t {a:Rd}:(afun xaG 60 Try.f106 [rV a] []).go (dN 27 66584308) =
 some
  ([!a.k==(1:Int),!a.k==(2:Int),a.k==(3:Int),
    !!(a.k==a.k &&
       ((0:Int)==a.e &&
        ((0:Int)==a.a &&
         ((0:Int)==a.n &&
          (a.p==a.p &&
           (a.t==a.t &&
            ((0:Int)==a.x &&
             ((0:Int)==a.y&&((0:Int)==a.w&&((0:Int)==a.h&&true)))))))))),
    true,true,true,true,!!fits ([a.p,a.t].getD 0 (0:Int)),true,true,true,true,true,true,true,
    true,true,true,!!fits ([a.p,a.t].getD 1 (0:Int)),true,true,true,true,true,true,true],
   AV.tup [AV.c (AC.sl 0 0 9),Bo true],
   [some
     {t:=5,own:=true,
      c:=
       Cont.row 1 9 fun k=>
        Decidable.rec
         (fun h=>
          if k<9 then
           ub (gL (four ([a.p,a.t].getD 1 (0:Int))) (0+(k-5)))
          else [Value.int IntKind.u8 (0:Int)])
         (fun h=>
          cat [Value.int IntKind.u8 (0:Int)]
           (fun i=>[[Value.int IntKind.u8 (IntKind.u8.wrap a.k)]].getD i [Value.int IntKind.u8 (0:Int)])
           1 (fun j=>ub (gL (four ([a.p,a.t].getD 0 (0:Int))) j)) 0 4 k)
         (k.decLt 5) }]):=by kernel_rfl
theorem xa_4n {a:Rd}:(afun xaG 60 Try.f106 [rV a] []).go (dN 33 4294967288) =
 some
  ([!a.k==(1:Int),!a.k==(2:Int),!a.k==(3:Int),a.k==(4:Int),true,true,true,true,true,true,
    true,true,true,true,true,true,true,true,true,true,true,true,true,true,true,true,true,true,
    true,true,true,true,true,
    !(a.k==a.k &&
      ((0:Int)==a.e &&
       ((0:Int)==a.a &&
        ((0:Int)==a.n &&
         ((0:Int)==a.p &&
          ((0:Int)==a.t&&(a.x==a.x&&(a.y==a.y&&(a.w==a.w&&(a.h==a.h&&true))))))))))],
   AV.tup [AV.c (AC.v (Value.slice none 0 0)),Bo false],[]):=by kernel_rfl
theorem xa_4t {a:Rd}:(afun xaG 60 Try.f106 [rV a] []).go (dN 79 299869118177480147992568) =
 some
  ([!a.k==(1:Int),!a.k==(2:Int),!a.k==(3:Int),a.k==(4:Int),true,true,true,true,true,true,
    true,true,true,true,true,true,true,true,true,true,true,true,true,true,true,true,true,true,
    true,true,true,true,true,
    !!(a.k==a.k &&
       ((0:Int)==a.e &&
        ((0:Int)==a.a &&
         ((0:Int)==a.n &&
          ((0:Int)==a.p &&
           ((0:Int)==a.t&&(a.x==a.x&&(a.y==a.y&&(a.w==a.w&&(a.h==a.h&&true)))))))))),
    true,true,true,true,
    !!fits
       (bif decide (0=3) then mnI (2147483647:Int) (mxI (-2147483648:Int) a.h)
       else
        bif decide (0=2) then mnI (2147483647:Int) (mxI (-2147483648:Int) a.w)
        else
         bif decide (0=1) then mnI (2147483647:Int) (mxI (-2147483648:Int) a.y)
         else
          bif decide (0=0) then mnI (2147483647:Int) (mxI (-2147483648:Int) a.x)
          else (0:Int)),
    true,true,true,true,true,true,true,true,true,true,
    !!fits
       (bif decide (1=3) then mnI (2147483647:Int) (mxI (-2147483648:Int) a.h)
       else
        bif decide (1=2) then mnI (2147483647:Int) (mxI (-2147483648:Int) a.w)
        else
         bif decide (1=1) then mnI (2147483647:Int) (mxI (-2147483648:Int) a.y)
         else
          bif decide (1=0) then mnI (2147483647:Int) (mxI (-2147483648:Int) a.x)
          else (0:Int)),
    true,true,true,true,true,true,true,true,true,true,
    !!fits
       (bif decide (2=3) then mnI (2147483647:Int) (mxI (-2147483648:Int) a.h)
       else
        bif decide (2=2) then mnI (2147483647:Int) (mxI (-2147483648:Int) a.w)
        else
         bif decide (2=1) then mnI (2147483647:Int) (mxI (-2147483648:Int) a.y)
         else
          bif decide (2=0) then mnI (2147483647:Int) (mxI (-2147483648:Int) a.x)
          else (0:Int)),
    true,true,true,true,true,true,true,true,true,true,
    !!fits
       (bif decide (3=3) then mnI (2147483647:Int) (mxI (-2147483648:Int) a.h)
       else
        bif decide (3=2) then mnI (2147483647:Int) (mxI (-2147483648:Int) a.w)
        else
         bif decide (3=1) then mnI (2147483647:Int) (mxI (-2147483648:Int) a.y)
         else
          bif decide (3=0) then mnI (2147483647:Int) (mxI (-2147483648:Int) a.x)
          else (0:Int)),
    true,true,true,true,true,true,true],
   AV.tup [AV.c (AC.sl 0 0 17),Bo true],
   [some
     {t:=5,own:=true,
      c:=
       Cont.row 1 17 fun k=>
        Decidable.rec
         (fun h=>
          if k<17 then
           ub
            (gL
             (four
              (bif decide (3=3) then
               mnI (2147483647:Int) (mxI (-2147483648:Int) a.h)
              else
               bif decide (3=2) then
                mnI (2147483647:Int) (mxI (-2147483648:Int) a.w)
               else
                bif decide (3=1) then
                 mnI (2147483647:Int) (mxI (-2147483648:Int) a.y)
                else
                 bif decide (3=0) then
                  mnI (2147483647:Int) (mxI (-2147483648:Int) a.x)
                 else (0:Int)))
             (0+(k-13)))
          else [Value.int IntKind.u8 (0:Int)])
         (fun h=>
          cat [Value.int IntKind.u8 (0:Int)]
           (cat [Value.int IntKind.u8 (0:Int)]
            (cat [Value.int IntKind.u8 (0:Int)]
             (fun i=>
              [[Value.int IntKind.u8 (IntKind.u8.wrap a.k)]].getD i [Value.int IntKind.u8 (0:Int)])
             1
             (fun j=>
              ub
               (gL
                (four
                 (bif decide (0=3) then
                  mnI (2147483647:Int) (mxI (-2147483648:Int) a.h)
                 else
                  bif decide (0=2) then
                   mnI (2147483647:Int) (mxI (-2147483648:Int) a.w)
                  else
                   bif decide (0=1) then
                    mnI (2147483647:Int) (mxI (-2147483648:Int) a.y)
                   else
                    bif decide (0=0) then
                     mnI (2147483647:Int) (mxI (-2147483648:Int) a.x)
                    else (0:Int)))
                j))
             0 4)
            5
            (fun j=>
             ub
              (gL
               (four
                (bif decide (1=3) then
                 mnI (2147483647:Int) (mxI (-2147483648:Int) a.h)
                else
                 bif decide (1=2) then
                  mnI (2147483647:Int) (mxI (-2147483648:Int) a.w)
                 else
                  bif decide (1=1) then
                   mnI (2147483647:Int) (mxI (-2147483648:Int) a.y)
                  else
                   bif decide (1=0) then
                    mnI (2147483647:Int) (mxI (-2147483648:Int) a.x)
                   else (0:Int)))
               j))
            0 4)
           9
           (fun j=>
            ub
             (gL
              (four
               (bif decide (2=3) then
                mnI (2147483647:Int) (mxI (-2147483648:Int) a.h)
               else
                bif decide (2=2) then
                 mnI (2147483647:Int) (mxI (-2147483648:Int) a.w)
                else
                 bif decide (2=1) then
                  mnI (2147483647:Int) (mxI (-2147483648:Int) a.y)
                 else
                  bif decide (2=0) then
                   mnI (2147483647:Int) (mxI (-2147483648:Int) a.x)
                  else (0:Int)))
              j))
           0 4 k)
         (k.decLt 13) }]):=by kernel_rfl
theorem xa_5n {a:Rd}:(afun xaG 60 Try.f106 [rV a] []).go (dN 4 0) =
 some
  ([!a.k==(1:Int),!a.k==(2:Int),!a.k==(3:Int),!a.k==(4:Int),a.k==(5:Int),true,
    !(a.k==a.k &&
      ((0:Int)==a.e &&
       ((0:Int)==a.a &&
        (a.n==a.n &&
         ((0:Int)==a.p &&
          ((0:Int)==a.t &&
           ((0:Int)==a.x &&
            ((0:Int)==a.y&&((0:Int)==a.w&&((0:Int)==a.h&&true))))))))))],
   AV.tup [AV.c (AC.v (Value.slice none 0 0)),Bo false],[]):=by kernel_rfl
theorem xa_5f {a:Rd}:(afun xaG 60 Try.f106 [rV a] []).go (dN 7 48) =
 some
  ([!a.k==(1:Int),!a.k==(2:Int),!a.k==(3:Int),!a.k==(4:Int),a.k==(5:Int),true,
    !!(a.k==a.k &&
       ((0:Int)==a.e &&
        ((0:Int)==a.a &&
         (a.n==a.n &&
          ((0:Int)==a.p &&
           ((0:Int)==a.t &&
            ((0:Int)==a.x &&
             ((0:Int)==a.y&&((0:Int)==a.w&&((0:Int)==a.h&&true)))))))))),
    true,true,true,true,!fits a.n],
   AV.tup [AV.c (AC.v (Value.slice none 0 0)),Bo false],[]):=by kernel_rfl
theorem xa_5t {a:Rd}:(afun xaG 60 Try.f106 [rV a] []).go (dN 19 260016) =
 some
  ([!a.k==(1:Int),!a.k==(2:Int),!a.k==(3:Int),!a.k==(4:Int),a.k==(5:Int),true,
    !!(a.k==a.k &&
       ((0:Int)==a.e &&
        ((0:Int)==a.a &&
         (a.n==a.n &&
          ((0:Int)==a.p &&
           ((0:Int)==a.t &&
            ((0:Int)==a.x &&
             ((0:Int)==a.y&&((0:Int)==a.w&&((0:Int)==a.h&&true)))))))))),
    true,true,true,true,!!fits a.n,true,true,true,true,true,true,true],
   AV.tup [AV.c (AC.sl 0 0 5),Bo true],
   [some
     {t:=5,own:=true,
      c:=
       Cont.row 1 5 fun k=>
        Decidable.rec
         (fun h=>
          if k<5 then ub (gL (four a.n) (0+(k-1)))
          else [Value.int IntKind.u8 (0:Int)])
         (fun h=>[[Value.int IntKind.u8 (IntKind.u8.wrap a.k)]].getD k [Value.int IntKind.u8 (0:Int)])
         (k.decLt 1) }]):=by kernel_rfl
theorem xa_6n {a:Rd}:(afun xaG 60 Try.f106 [rV a] []).go (dN 5 0) =
 some
  ([!a.k==(1:Int),!a.k==(2:Int),!a.k==(3:Int),!a.k==(4:Int),!a.k==(5:Int),a.k==(6:Int),
    !(a.k==a.k &&
      ((0:Int)==a.e &&
       ((0:Int)==a.a &&
        (a.n==a.n &&
         ((0:Int)==a.p &&
          ((0:Int)==a.t &&
           ((0:Int)==a.x &&
            ((0:Int)==a.y&&((0:Int)==a.w&&((0:Int)==a.h&&true))))))))))],
   AV.tup [AV.c (AC.v (Value.slice none 0 0)),Bo false],[]):=by kernel_rfl
theorem xa_6f {a:Rd}:(afun xaG 60 Try.f106 [rV a] []).go (dN 7 32) =
 some
  ([!a.k==(1:Int),!a.k==(2:Int),!a.k==(3:Int),!a.k==(4:Int),!a.k==(5:Int),a.k==(6:Int),
    !!(a.k==a.k &&
       ((0:Int)==a.e &&
        ((0:Int)==a.a &&
         (a.n==a.n &&
          ((0:Int)==a.p &&
           ((0:Int)==a.t &&
            ((0:Int)==a.x &&
             ((0:Int)==a.y&&((0:Int)==a.w&&((0:Int)==a.h&&true)))))))))),
    true,true,true,true,!fits a.n],
   AV.tup [AV.c (AC.v (Value.slice none 0 0)),Bo false],[]):=by kernel_rfl
theorem xa_6t {a:Rd}:(afun xaG 60 Try.f106 [rV a] []).go (dN 19 260000) =
 some
  ([!a.k==(1:Int),!a.k==(2:Int),!a.k==(3:Int),!a.k==(4:Int),!a.k==(5:Int),a.k==(6:Int),
    !!(a.k==a.k &&
       ((0:Int)==a.e &&
        ((0:Int)==a.a &&
         (a.n==a.n &&
          ((0:Int)==a.p &&
           ((0:Int)==a.t &&
            ((0:Int)==a.x &&
             ((0:Int)==a.y&&((0:Int)==a.w&&((0:Int)==a.h&&true)))))))))),
    true,true,true,true,!!fits a.n,true,true,true,true,true,true,true],
   AV.tup [AV.c (AC.sl 0 0 5),Bo true],
   [some
     {t:=5,own:=true,
      c:=
       Cont.row 1 5 fun k=>
        Decidable.rec
         (fun h=>
          if k<5 then ub (gL (four a.n) (0+(k-1)))
          else [Value.int IntKind.u8 (0:Int)])
         (fun h=>[[Value.int IntKind.u8 (IntKind.u8.wrap a.k)]].getD k [Value.int IntKind.u8 (0:Int)])
         (k.decLt 1) }]):=by kernel_rfl
theorem xa_x {a:Rd}:(afun xaG 60 Try.f106 [rV a] []).go (dN 6 0) =
 some
  ([!a.k==(1:Int),!a.k==(2:Int),!a.k==(3:Int),!a.k==(4:Int),!a.k==(5:Int),!a.k==(6:Int)],
   AV.tup [AV.c (AC.v (Value.slice none 0 0)),Bo false],[]):=by kernel_rfl
end
section
open Go Go.RowKit
theorem lst1_eq (x:Int):(fun i=>[[Value.int .u8 x]].getD i [Value.int .u8 0])=fun j=>ub (gL [x] j):=by
 funext j
 cases j <;> rfl
theorem cat_gL (L M:List Int) (n m:Nat) (hn:n=L.length) (hm:m=M.length):cat [Value.int .u8 0] (fun j=>ub (gL L j)) n (fun j=>ub (gL M j)) 0 m=fun j=>ub (gL (L++M) j):=by
 funext j
 subst hn;subst hm
 unfold cat
 show _=ub ((L++M).getD j 0)
 rw [getD_app2]
 by_cases h1:j<L.length
 ·rw [if_pos h1,decide_eq_true h1];rfl
 ·rw [if_neg h1,decide_eq_false h1,cond_false,Nat.zero_add]
  by_cases h2:j<L.length+M.length
  ·rw [if_pos h2];rfl
  ·rw [if_neg h2,List.getD_eq_getElem?_getD,List.getElem?_eq_none (by omega)];rfl
theorem upd_gL (L:List Int) (n:Nat) (hn:n=L.length) (x:Int):updL (fun j=>ub (gL L j)) n [[Value.int .u8 x]]=fun j=>ub (gL (L++[x]) j):=by
 funext j
 subst hn
 rw [updL_get]
 show _=ub ((L++[x]).getD j 0)
 rw [getD_app]
 by_cases h1:j<L.length
 ·rw [if_pos h1,decide_eq_false (by omega)];rfl
 ·rw [if_neg h1]
  by_cases h2:j=L.length
  ·subst h2;rw [if_pos (by simp),decide_eq_true rfl,Nat.sub_self];rfl
  ·rw [if_neg (by simp;omega),decide_eq_false h2];rfl
open Classical in
noncomputable def xaO (a:Rd):AV × AHeap:=if anOk a then (.tup [.c (.sl 0 0 (ansB a).length),Bo true],[bif a.k==1 then some ⟨5,true,.lst 1 [[.v (.int .u8 (IntKind.u8.wrap a.k))]] [.v (.int .u8 0)]⟩ else rowU true (ansB a).length (gL (ansB a))]) else (.tup [.c (.v (.slice none 0 0)),Bo false],[])
theorem fh (n:Int):fits (mnI 2147483647 (mxI (-2147483648) n))=true:=by rw [held_eq];exact fits_held n
theorem xaO_1 {a:Rd}(hk:a.k=1):(afun xaG 60 Try.f106 [rV a] []).eval=some (xaO a):=by
 have n2:(!(a.k==(2:Int)))=true:=by rw [hk];rfl
 have n3:(!(a.k==(3:Int)))=true:=by rw [hk];rfl
 have n4:(!(a.k==(4:Int)))=true:=by rw [hk];rfl
 have n5:(!(a.k==(5:Int)))=true:=by rw [hk];rfl
 have n6:(!(a.k==(6:Int)))=true:=by rw [hk];rfl
 have kk:(a.k==(1:Int))=true:=by rw [hk];rfl
 have ew:anW a=true:=by unfold anW;rw [hk];rfl
 have er:ansB a=by8 a.k::([]):=by unfold ansB;rw [hk];rfl
 have hn:(ansB a).length=1:=by rw [er];rfl
 have hX:(⟨a.k,0,0,0,0,0,0,0,0,0⟩:Rd)=tellR a:=by unfold tellR bareR;rw [hk];rfl
 by_cases hs:tellR a=a
 ·have hS:(!!eqR ⟨a.k,0,0,0,0,0,0,0,0,0⟩ a)=true:=notnot ((eqR_iff _ _).2 (hX.trans hs))
  have hw:anW a=true:=ew
  refine (Tr.go_eval xa_1t ⟨kk,hS,rfl,trivial⟩).trans ?_
  unfold xaO;rw [if_pos ⟨hw,hs⟩,hn,kk];all_goals rfl
 ·have hS:(!eqR ⟨a.k,0,0,0,0,0,0,0,0,0⟩ a)=true:=not_eq (eqR_no fun h=>hs (hX.symm.trans h))
  refine (Tr.go_eval xa_1n ⟨kk,hS,trivial⟩).trans ?_
  unfold xaO;rw [if_neg fun h=>hs h.2];all_goals rfl
theorem xaO_2 {a:Rd}(hk:a.k=2):(afun xaG 60 Try.f106 [rV a] []).eval=some (xaO a):=by
 have n1:(!(a.k==(1:Int)))=true:=by rw [hk];rfl
 have n3:(!(a.k==(3:Int)))=true:=by rw [hk];rfl
 have n4:(!(a.k==(4:Int)))=true:=by rw [hk];rfl
 have n5:(!(a.k==(5:Int)))=true:=by rw [hk];rfl
 have n6:(!(a.k==(6:Int)))=true:=by rw [hk];rfl
 have kk:(a.k==(2:Int))=true:=by rw [hk];rfl
 have ew:anW a=(byOk a.e&&fits a.a):=by unfold anW;rw [hk];rfl
 have er:ansB a=by8 a.k::(by8 a.e::four a.a):=by unfold ansB;rw [hk];rfl
 have hn:(ansB a).length=6:=by rw [er];rfl
 have hX:(⟨a.k,a.e,a.a,0,0,0,0,0,0,0⟩:Rd)=tellR a:=by unfold tellR bareR;rw [hk];rfl
 have n1f:(a.k==(1:Int))=false:=by rw [hk];rfl
 by_cases h1:a.e<0
 ·have hw:¬ anW a=true:=by rw [ew];unfold byOk;rw [decide_eq_false (by omega)];exact Bool.false_ne_true
  refine (Tr.go_eval xa_2b1 ⟨n1,kk,decide_eq_true (by omega),rfl,rfl,rfl,rfl,trivial⟩).trans ?_
  unfold xaO;rw [if_neg fun h=>hw h.1];all_goals rfl
 by_cases h2:a.e>255
 ·have hw:¬ anW a=true:=by rw [ew];unfold byOk;rw [decide_eq_false (show ¬ a.e<=255 by omega),Bool.and_false];exact Bool.false_ne_true
  refine (Tr.go_eval xa_2b2 ⟨n1,kk,not_eq (decide_eq_false (by omega)),rfl,rfl,rfl,decide_eq_true (by omega),trivial⟩).trans ?_
  unfold xaO;rw [if_neg fun h=>hw h.1];all_goals rfl
 have hby:byOk a.e=true:=by unfold byOk;rw [decide_eq_true (by omega),decide_eq_true (by omega)];rfl
 by_cases hs:tellR a=a
 ·have hS:(!!eqR ⟨a.k,a.e,a.a,0,0,0,0,0,0,0⟩ a)=true:=notnot ((eqR_iff _ _).2 (hX.trans hs))
  cases fa:fits a.a with
  | false=>
   have hw:¬ anW a=true:=by rw [ew,hby,fa];exact Bool.false_ne_true
   refine (Tr.go_eval xa_2f ⟨n1,kk,not_eq (decide_eq_false (by omega)),rfl,rfl,rfl,not_eq (decide_eq_false (by omega)),rfl,rfl,rfl,hS,rfl,rfl,rfl,rfl,not_eq fa,trivial⟩).trans ?_
   unfold xaO;rw [if_neg fun h=>hw h.1];all_goals rfl
  | true=>
   have hw:anW a=true:=by rw [ew,hby,fa];all_goals rfl
   refine (Tr.go_eval xa_2t ⟨n1,kk,not_eq (decide_eq_false (by omega)),rfl,rfl,rfl,not_eq (decide_eq_false (by omega)),rfl,rfl,rfl,hS,rfl,rfl,rfl,rfl,notnot fa,rfl,rfl,rfl,rfl,rfl,rfl,rfl,trivial⟩).trans ?_
   show some (AV.tup [.c (.sl 0 0 6),Bo true],([some ⟨5,true,.row 1 6 (cat [Value.int .u8 0] (updL (fun i=>[[Value.int .u8 (IntKind.u8.wrap a.k)]].getD i [Value.int .u8 0]) 1 [[Value.int .u8 (IntKind.u8.wrap a.e)]]) 2 (fun j=>ub (gL (four a.a) j)) 0 4)⟩]:AHeap))=_
   have e:(cat [Value.int .u8 0] (updL (fun i=>[[Value.int .u8 (IntKind.u8.wrap a.k)]].getD i [Value.int .u8 0]) 1 [[Value.int .u8 (IntKind.u8.wrap a.e)]]) 2 (fun j=>ub (gL (four a.a) j)) 0 4)=fun j=>ub (gL (ansB a) j):=by rw [lst1_eq,upd_gL _ 1 rfl,cat_gL _ _ 2 4 rfl rfl,er,wrap_by8,wrap_by8];rfl
   rw [e];unfold xaO;rw [if_pos ⟨hw,hs⟩,hn,n1f];rfl
 ·have hS:(!eqR ⟨a.k,a.e,a.a,0,0,0,0,0,0,0⟩ a)=true:=not_eq (eqR_no fun h=>hs (hX.symm.trans h))
  refine (Tr.go_eval xa_2n ⟨n1,kk,not_eq (decide_eq_false (by omega)),rfl,rfl,rfl,not_eq (decide_eq_false (by omega)),rfl,rfl,rfl,hS,trivial⟩).trans ?_
  unfold xaO;rw [if_neg fun h=>hs h.2];all_goals rfl
theorem xaO_3 {a:Rd}(hk:a.k=3):(afun xaG 60 Try.f106 [rV a] []).eval=some (xaO a):=by
 have n1:(!(a.k==(1:Int)))=true:=by rw [hk];rfl
 have n2:(!(a.k==(2:Int)))=true:=by rw [hk];rfl
 have n4:(!(a.k==(4:Int)))=true:=by rw [hk];rfl
 have n5:(!(a.k==(5:Int)))=true:=by rw [hk];rfl
 have n6:(!(a.k==(6:Int)))=true:=by rw [hk];rfl
 have kk:(a.k==(3:Int))=true:=by rw [hk];rfl
 have ew:anW a=(fits a.p&&fits a.t):=by unfold anW;rw [hk];rfl
 have er:ansB a=by8 a.k::(four a.p++four a.t):=by unfold ansB;rw [hk];rfl
 have hn:(ansB a).length=9:=by rw [er];rfl
 have hX:(⟨a.k,0,0,0,a.p,a.t,0,0,0,0⟩:Rd)=tellR a:=by unfold tellR bareR;rw [hk];rfl
 have n1f:(a.k==(1:Int))=false:=by rw [hk];rfl
 by_cases hs:tellR a=a
 ·have hS:(!!eqR ⟨a.k,0,0,0,a.p,a.t,0,0,0,0⟩ a)=true:=notnot ((eqR_iff _ _).2 (hX.trans hs))
  cases fp:fits a.p with
  | false=>
   have hw:¬ anW a=true:=by rw [ew,fp];exact Bool.false_ne_true
   refine (Tr.go_eval xa_3f0 ⟨n1,n2,kk,hS,rfl,rfl,rfl,rfl,not_eq fp,trivial⟩).trans ?_
   unfold xaO;rw [if_neg fun h=>hw h.1];all_goals rfl
  | true=>
   cases ft:fits a.t with
   | false=>
    have hw:¬ anW a=true:=by rw [ew,fp,ft];exact Bool.false_ne_true
    refine (Tr.go_eval xa_3f1 ⟨n1,n2,kk,hS,rfl,rfl,rfl,rfl,notnot fp,rfl,rfl,rfl,rfl,rfl,rfl,rfl,rfl,rfl,rfl,not_eq ft,trivial⟩).trans ?_
    unfold xaO;rw [if_neg fun h=>hw h.1];all_goals rfl
   | true=>
    have hw:anW a=true:=by rw [ew,fp,ft];rfl
    refine (Tr.go_eval xa_3t ⟨n1,n2,kk,hS,rfl,rfl,rfl,rfl,notnot fp,rfl,rfl,rfl,rfl,rfl,rfl,rfl,rfl,rfl,rfl,notnot ft,rfl,rfl,rfl,rfl,rfl,rfl,rfl,trivial⟩).trans ?_
    show some (AV.tup [.c (.sl 0 0 9),Bo true],([some ⟨5,true,.row 1 9 (cat [Value.int .u8 0] (cat [Value.int .u8 0] (fun i=>[[Value.int .u8 (IntKind.u8.wrap a.k)]].getD i [Value.int .u8 0]) 1 (fun j=>ub (gL (four a.p) j)) 0 4) 5 (fun j=>ub (gL (four a.t) j)) 0 4)⟩]:AHeap))=_
    have e:(cat [Value.int .u8 0] (cat [Value.int .u8 0] (fun i=>[[Value.int .u8 (IntKind.u8.wrap a.k)]].getD i [Value.int .u8 0]) 1 (fun j=>ub (gL (four a.p) j)) 0 4) 5 (fun j=>ub (gL (four a.t) j)) 0 4)=fun j=>ub (gL (ansB a) j):=by rw [lst1_eq,cat_gL _ _ 1 4 rfl rfl,cat_gL _ _ 5 4 rfl rfl,er,wrap_by8];rfl
    rw [e];unfold xaO;rw [if_pos ⟨hw,hs⟩,hn,n1f];rfl
 ·have hS:(!eqR ⟨a.k,0,0,0,a.p,a.t,0,0,0,0⟩ a)=true:=not_eq (eqR_no fun h=>hs (hX.symm.trans h))
  refine (Tr.go_eval xa_3n ⟨n1,n2,kk,hS,trivial⟩).trans ?_
  unfold xaO;rw [if_neg fun h=>hs h.2];all_goals rfl
theorem xaO_4 {a:Rd}(hk:a.k=4):(afun xaG 60 Try.f106 [rV a] []).eval=some (xaO a):=by
 have n1:(!(a.k==(1:Int)))=true:=by rw [hk];rfl
 have n2:(!(a.k==(2:Int)))=true:=by rw [hk];rfl
 have n3:(!(a.k==(3:Int)))=true:=by rw [hk];rfl
 have n5:(!(a.k==(5:Int)))=true:=by rw [hk];rfl
 have n6:(!(a.k==(6:Int)))=true:=by rw [hk];rfl
 have kk:(a.k==(4:Int))=true:=by rw [hk];rfl
 have ew:anW a=true:=by unfold anW;rw [hk];rfl
 have er:ansB a=by8 a.k::(four (held4 a.x)++four (held4 a.y)++four (held4 a.w)++four (held4 a.h)):=by unfold ansB;rw [hk];rfl
 have hn:(ansB a).length=17:=by rw [er];rfl
 have hX:(⟨a.k,0,0,0,0,0,a.x,a.y,a.w,a.h⟩:Rd)=tellR a:=by unfold tellR bareR;rw [hk];rfl
 have n1f:(a.k==(1:Int))=false:=by rw [hk];rfl
 by_cases hs:tellR a=a
 ·have hS:(!!eqR ⟨a.k,0,0,0,0,0,a.x,a.y,a.w,a.h⟩ a)=true:=notnot ((eqR_iff _ _).2 (hX.trans hs))
  have hw:anW a=true:=ew
  refine (Tr.go_eval xa_4t ⟨n1,n2,n3,kk,rfl,rfl,rfl,rfl,rfl,rfl,rfl,rfl,rfl,rfl,rfl,rfl,rfl,rfl,rfl,rfl,rfl,rfl,rfl,rfl,rfl,rfl,rfl,rfl,rfl,rfl,rfl,rfl,rfl,hS,rfl,rfl,rfl,rfl,notnot (fh _),rfl,rfl,rfl,rfl,rfl,rfl,rfl,rfl,rfl,rfl,notnot (fh _),rfl,rfl,rfl,rfl,rfl,rfl,rfl,rfl,rfl,rfl,notnot (fh _),rfl,rfl,rfl,rfl,rfl,rfl,rfl,rfl,rfl,rfl,notnot (fh _),rfl,rfl,rfl,rfl,rfl,rfl,rfl,trivial⟩).trans ?_
  show some (AV.tup [.c (.sl 0 0 17),Bo true],([some ⟨5,true,.row 1 17 (cat [Value.int .u8 0] (cat [Value.int .u8 0] (cat [Value.int .u8 0] (cat [Value.int .u8 0] (fun i=>[[Value.int .u8 (IntKind.u8.wrap a.k)]].getD i [Value.int .u8 0]) 1 (fun j=>ub (gL (four (mnI 2147483647 (mxI (-2147483648) a.x))) j)) 0 4) 5 (fun j=>ub (gL (four (mnI 2147483647 (mxI (-2147483648) a.y))) j)) 0 4) 9 (fun j=>ub (gL (four (mnI 2147483647 (mxI (-2147483648) a.w))) j)) 0 4) 13 (fun j=>ub (gL (four (mnI 2147483647 (mxI (-2147483648) a.h))) j)) 0 4)⟩]:AHeap))=_
  have e:(cat [Value.int .u8 0] (cat [Value.int .u8 0] (cat [Value.int .u8 0] (cat [Value.int .u8 0] (fun i=>[[Value.int .u8 (IntKind.u8.wrap a.k)]].getD i [Value.int .u8 0]) 1 (fun j=>ub (gL (four (mnI 2147483647 (mxI (-2147483648) a.x))) j)) 0 4) 5 (fun j=>ub (gL (four (mnI 2147483647 (mxI (-2147483648) a.y))) j)) 0 4) 9 (fun j=>ub (gL (four (mnI 2147483647 (mxI (-2147483648) a.w))) j)) 0 4) 13 (fun j=>ub (gL (four (mnI 2147483647 (mxI (-2147483648) a.h))) j)) 0 4)=fun j=>ub (gL (ansB a) j):=by rw [held_eq,held_eq,held_eq,held_eq,lst1_eq,cat_gL _ _ 1 4 rfl rfl,cat_gL _ _ 5 4 rfl rfl,cat_gL _ _ 9 4 rfl rfl,cat_gL _ _ 13 4 rfl rfl,er,wrap_by8];rfl
  rw [e];unfold xaO;rw [if_pos ⟨hw,hs⟩,hn,n1f];rfl
 ·have hS:(!eqR ⟨a.k,0,0,0,0,0,a.x,a.y,a.w,a.h⟩ a)=true:=not_eq (eqR_no fun h=>hs (hX.symm.trans h))
  refine (Tr.go_eval xa_4n ⟨n1,n2,n3,kk,rfl,rfl,rfl,rfl,rfl,rfl,rfl,rfl,rfl,rfl,rfl,rfl,rfl,rfl,rfl,rfl,rfl,rfl,rfl,rfl,rfl,rfl,rfl,rfl,rfl,rfl,rfl,rfl,rfl,hS,trivial⟩).trans ?_
  unfold xaO;rw [if_neg fun h=>hs h.2];all_goals rfl
theorem xaO_5 {a:Rd}(hk:a.k=5):(afun xaG 60 Try.f106 [rV a] []).eval=some (xaO a):=by
 have n1:(!(a.k==(1:Int)))=true:=by rw [hk];rfl
 have n2:(!(a.k==(2:Int)))=true:=by rw [hk];rfl
 have n3:(!(a.k==(3:Int)))=true:=by rw [hk];rfl
 have n4:(!(a.k==(4:Int)))=true:=by rw [hk];rfl
 have n6:(!(a.k==(6:Int)))=true:=by rw [hk];rfl
 have kk:(a.k==(5:Int))=true:=by rw [hk];rfl
 have ew:anW a=fits a.n:=by unfold anW;rw [hk];rfl
 have er:ansB a=by8 a.k::(four a.n):=by unfold ansB;rw [hk];rfl
 have hn:(ansB a).length=5:=by rw [er];rfl
 have hX:(⟨a.k,0,0,a.n,0,0,0,0,0,0⟩:Rd)=tellR a:=by unfold tellR bareR;rw [hk];rfl
 have n1f:(a.k==(1:Int))=false:=by rw [hk];rfl
 by_cases hs:tellR a=a
 ·have hS:(!!eqR ⟨a.k,0,0,a.n,0,0,0,0,0,0⟩ a)=true:=notnot ((eqR_iff _ _).2 (hX.trans hs))
  cases fn:fits a.n with
  | false=>
   have hw:¬ anW a=true:=by rw [ew,fn];exact Bool.false_ne_true
   refine (Tr.go_eval xa_5f ⟨n1,n2,n3,n4,kk,rfl,hS,rfl,rfl,rfl,rfl,not_eq fn,trivial⟩).trans ?_
   unfold xaO;rw [if_neg fun h=>hw h.1];all_goals rfl
  | true=>
   have hw:anW a=true:=by rw [ew,fn];all_goals rfl
   refine (Tr.go_eval xa_5t ⟨n1,n2,n3,n4,kk,rfl,hS,rfl,rfl,rfl,rfl,notnot fn,rfl,rfl,rfl,rfl,rfl,rfl,rfl,trivial⟩).trans ?_
   show some (AV.tup [.c (.sl 0 0 5),Bo true],([some ⟨5,true,.row 1 5 (cat [Value.int .u8 0] (fun i=>[[Value.int .u8 (IntKind.u8.wrap a.k)]].getD i [Value.int .u8 0]) 1 (fun j=>ub (gL (four a.n) j)) 0 4)⟩]:AHeap))=_
   have e:(cat [Value.int .u8 0] (fun i=>[[Value.int .u8 (IntKind.u8.wrap a.k)]].getD i [Value.int .u8 0]) 1 (fun j=>ub (gL (four a.n) j)) 0 4)=fun j=>ub (gL (ansB a) j):=by rw [lst1_eq,cat_gL _ _ 1 4 rfl rfl,er,wrap_by8];rfl
   rw [e];unfold xaO;rw [if_pos ⟨hw,hs⟩,hn,n1f];rfl
 ·have hS:(!eqR ⟨a.k,0,0,a.n,0,0,0,0,0,0⟩ a)=true:=not_eq (eqR_no fun h=>hs (hX.symm.trans h))
  refine (Tr.go_eval xa_5n ⟨n1,n2,n3,n4,kk,rfl,hS,trivial⟩).trans ?_
  unfold xaO;rw [if_neg fun h=>hs h.2];all_goals rfl
theorem xaO_6 {a:Rd}(hk:a.k=6):(afun xaG 60 Try.f106 [rV a] []).eval=some (xaO a):=by
 have n1:(!(a.k==(1:Int)))=true:=by rw [hk];rfl
 have n2:(!(a.k==(2:Int)))=true:=by rw [hk];rfl
 have n3:(!(a.k==(3:Int)))=true:=by rw [hk];rfl
 have n4:(!(a.k==(4:Int)))=true:=by rw [hk];rfl
 have n5:(!(a.k==(5:Int)))=true:=by rw [hk];rfl
 have kk:(a.k==(6:Int))=true:=by rw [hk];rfl
 have ew:anW a=fits a.n:=by unfold anW;rw [hk];rfl
 have er:ansB a=by8 a.k::(four a.n):=by unfold ansB;rw [hk];rfl
 have hn:(ansB a).length=5:=by rw [er];rfl
 have hX:(⟨a.k,0,0,a.n,0,0,0,0,0,0⟩:Rd)=tellR a:=by unfold tellR bareR;rw [hk];rfl
 have n1f:(a.k==(1:Int))=false:=by rw [hk];rfl
 by_cases hs:tellR a=a
 ·have hS:(!!eqR ⟨a.k,0,0,a.n,0,0,0,0,0,0⟩ a)=true:=notnot ((eqR_iff _ _).2 (hX.trans hs))
  cases fn:fits a.n with
  | false=>
   have hw:¬ anW a=true:=by rw [ew,fn];exact Bool.false_ne_true
   refine (Tr.go_eval xa_6f ⟨n1,n2,n3,n4,n5,kk,hS,rfl,rfl,rfl,rfl,not_eq fn,trivial⟩).trans ?_
   unfold xaO;rw [if_neg fun h=>hw h.1];all_goals rfl
  | true=>
   have hw:anW a=true:=by rw [ew,fn];all_goals rfl
   refine (Tr.go_eval xa_6t ⟨n1,n2,n3,n4,n5,kk,hS,rfl,rfl,rfl,rfl,notnot fn,rfl,rfl,rfl,rfl,rfl,rfl,rfl,trivial⟩).trans ?_
   show some (AV.tup [.c (.sl 0 0 5),Bo true],([some ⟨5,true,.row 1 5 (cat [Value.int .u8 0] (fun i=>[[Value.int .u8 (IntKind.u8.wrap a.k)]].getD i [Value.int .u8 0]) 1 (fun j=>ub (gL (four a.n) j)) 0 4)⟩]:AHeap))=_
   have e:(cat [Value.int .u8 0] (fun i=>[[Value.int .u8 (IntKind.u8.wrap a.k)]].getD i [Value.int .u8 0]) 1 (fun j=>ub (gL (four a.n) j)) 0 4)=fun j=>ub (gL (ansB a) j):=by rw [lst1_eq,cat_gL _ _ 1 4 rfl rfl,er,wrap_by8];rfl
   rw [e];unfold xaO;rw [if_pos ⟨hw,hs⟩,hn,n1f];rfl
 ·have hS:(!eqR ⟨a.k,0,0,a.n,0,0,0,0,0,0⟩ a)=true:=not_eq (eqR_no fun h=>hs (hX.symm.trans h))
  refine (Tr.go_eval xa_6n ⟨n1,n2,n3,n4,n5,kk,hS,trivial⟩).trans ?_
  unfold xaO;rw [if_neg fun h=>hs h.2];all_goals rfl
theorem xaO_x {a:Rd}(h1:a.k ≠ 1) (h2:a.k ≠ 2) (h3:a.k ≠ 3) (h4:a.k ≠ 4) (h5:a.k ≠ 5) (h6:a.k ≠ 6):(afun xaG 60 Try.f106 [rV a] []).eval=some (xaO a):=by
 have n1:(!(a.k==(1:Int)))=true:=not_eq (nb h1)
 have n2:(!(a.k==(2:Int)))=true:=not_eq (nb h2)
 have n3:(!(a.k==(3:Int)))=true:=not_eq (nb h3)
 have n4:(!(a.k==(4:Int)))=true:=not_eq (nb h4)
 have n5:(!(a.k==(5:Int)))=true:=not_eq (nb h5)
 have n6:(!(a.k==(6:Int)))=true:=not_eq (nb h6)
 have hw:¬ anW a=true:=by unfold anW;rw [nb h1,nb h2,nb h3,nb h4,nb h5,nb h6];exact Bool.false_ne_true
 refine (Tr.go_eval xa_x ⟨n1,n2,n3,n4,n5,n6,trivial⟩).trans ?_
 unfold xaO;rw [if_neg fun h=>hw h.1];all_goals rfl
theorem xaO_all (a:Rd):(afun xaG 60 Try.f106 [rV a] []).eval=some (xaO a):=by
 by_cases h1:a.k=1
 ·exact xaO_1 h1
 by_cases h2:a.k=2
 ·exact xaO_2 h2
 by_cases h3:a.k=3
 ·exact xaO_3 h3
 by_cases h4:a.k=4
 ·exact xaO_4 h4
 by_cases h5:a.k=5
 ·exact xaO_5 h5
 by_cases h6:a.k=6
 ·exact xaO_6 h6
 ·exact xaO_x h1 h2 h3 h4 h5 h6
noncomputable def xaF0:Spec:=fun args h=>match args,h with
 | [.agg [.v (.int .i64 k),.v (.int .i64 e),.v (.int .i64 a),.v (.int .i64 n),.v (.int .i64 p),.v (.int .i64 t),.v (.int .i64 x),.v (.int .i64 y),.v (.int .i64 w),.v (.int .i64 hh)]],[]=>.ret (xaO ⟨k,e,a,n,p,t,x,y,w,hh⟩)
 | _,_=>.fail
theorem xaF0_ok:SpecOk Try.prog 106 xaF0:=by
 refine known' KXA_ok Try.func106 fun args h r he=>?_
 unfold xaF0 at he
 split at he
 ·rename_i k e a n p t x y w hh
  cases he
  exact ⟨_,_,_,xaO_all ⟨k,e,a,n,p,t,x,y,w,hh⟩⟩
 ·cases he
theorem xaF_ok:SpecOk Try.prog 106 anF:=by
 refine SpecOk.same xaF0_ok fun args h r H' he=>?_
 unfold anF at he
 split at he
 ·rename_i k e a n p t x y w hh
  by_cases hr:anOk ⟨k,e,a,n,p,t,x,y,w,hh⟩
  ·rw [yes_of hr] at he
   cases he
   by_cases hk:k=1
   ·subst hk
    refine ⟨[],_,.nil,?_,(show some (xaO ⟨1,e,a,n,p,t,x,y,w,hh⟩)=_ by unfold xaO;rw [if_pos hr])⟩
    exact .cons (lstU_same (own:=true) (l:=[[.v (.int .u8 (IntKind.u8.wrap 1))]]) (xs:=[IntKind.u8.wrap 1]) (z:=[.v (.int .u8 0)]) rfl).symm .nil
   ·have n1f:((⟨k,e,a,n,p,t,x,y,w,hh⟩:Rd).k==(1:Int))=false:=nb hk
    exact ⟨[],_,.nil,SameH.refl _,(show some (xaO ⟨k,e,a,n,p,t,x,y,w,hh⟩)=_ by unfold xaO;rw [if_pos hr,n1f];rfl)⟩
  ·rw [yes_no hr] at he
   cases he
   exact ⟨[],_,.nil,SameH.refl _,(show some (xaO ⟨k,e,a,n,p,t,x,y,w,hh⟩)=_ by unfold xaO;rw [if_neg hr])⟩
 ·cases he
end
section
open Go Go.RowKit
open Classical in
noncomputable def xrO (i:Nat) (pre:AHeap) (q:Qd):AV × AHeap:=if reqOk q then (.tup [.c (.sl i 0 (reqB q).length),Bo true],pre++[bif q.k==2||q.k==6 then some ⟨5,true,.lst 1 [[.v (.int .u8 (IntKind.u8.wrap q.k))]] [.v (.int .u8 0)]⟩ else rowU true (reqB q).length (gL (reqB q))]) else (.tup [.c (.v (.slice none 0 0)),Bo false],pre)
theorem opsP_nil {P:Nat->Opp}{c:Nat}:c=0 ↔ opsP P c=[]:=by
 rw [<-List.length_eq_zero_iff,opsP_len]
theorem xrN_2 {n p t x y:Int}:(afun xrG 60 Try.f104 [qV ⟨2,n,p,t,x,y,[]⟩ (.v (.slice none 0 0))] []).eval=some (xrO 0 [] ⟨2,n,p,t,x,y,[]⟩):=by
 refine (xr_n2).trans ?_
 show chain [!((0:Int)==p&&((0:Int)==t&&true)),(0:Int) != n,(0:Int) != x,(0:Int) != y,decide (((0:Nat):Int)>0)] (some (AV.tup [.c (.v (.slice none 0 0)),Bo false],([]:AHeap))) (some (AV.tup [.c (.sl 0 0 1),Bo true],([some ⟨5,true,.lst 1 [[.v (.int .u8 (IntKind.u8.wrap 2))]] [.v (.int .u8 0)]⟩]:AHeap)))=_
 have hc:(0:Nat)=0 ↔ ([]:List Opp)=[]:=⟨fun _=>rfl,fun _=>rfl⟩
 have key:([!((0:Int)==p&&((0:Int)==t&&true)),(0:Int) != n,(0:Int) != x,(0:Int) != y,decide (((0:Nat):Int)>0)].any id=false) ↔ reqOk ⟨2,n,p,t,x,y,[]⟩:=by rw [any2,okn2,hc]
 have er:reqB ⟨2,n,p,t,x,y,[]⟩=by8 2::([]):=rfl
 have hn:(reqB ⟨2,n,p,t,x,y,[]⟩).length=1:=by rw [er];rfl
 rw [chain_eq]
 by_cases h:reqOk ⟨2,n,p,t,x,y,[]⟩
 ·rw [key.2 h];unfold xrO;rw [if_pos h,hn];rfl
 ·have hf:[!((0:Int)==p&&((0:Int)==t&&true)),(0:Int) != n,(0:Int) != x,(0:Int) != y,decide (((0:Nat):Int)>0)].any id=true:=by
   rw [<-Bool.not_eq_false];exact fun hb=>h (key.1 hb)
  rw [hf];unfold xrO;rw [if_neg h];rfl
theorem xrN_6 {n p t x y:Int}:(afun xrG 60 Try.f104 [qV ⟨6,n,p,t,x,y,[]⟩ (.v (.slice none 0 0))] []).eval=some (xrO 0 [] ⟨6,n,p,t,x,y,[]⟩):=by
 refine (xr_n6).trans ?_
 show chain [!((0:Int)==p&&((0:Int)==t&&true)),(0:Int) != n,(0:Int) != x,(0:Int) != y,decide (((0:Nat):Int)>0)] (some (AV.tup [.c (.v (.slice none 0 0)),Bo false],([]:AHeap))) (some (AV.tup [.c (.sl 0 0 1),Bo true],([some ⟨5,true,.lst 1 [[.v (.int .u8 (IntKind.u8.wrap 6))]] [.v (.int .u8 0)]⟩]:AHeap)))=_
 have hc:(0:Nat)=0 ↔ ([]:List Opp)=[]:=⟨fun _=>rfl,fun _=>rfl⟩
 have key:([!((0:Int)==p&&((0:Int)==t&&true)),(0:Int) != n,(0:Int) != x,(0:Int) != y,decide (((0:Nat):Int)>0)].any id=false) ↔ reqOk ⟨6,n,p,t,x,y,[]⟩:=by rw [any2,okn6,hc]
 have er:reqB ⟨6,n,p,t,x,y,[]⟩=by8 6::([]):=rfl
 have hn:(reqB ⟨6,n,p,t,x,y,[]⟩).length=1:=by rw [er];rfl
 rw [chain_eq]
 by_cases h:reqOk ⟨6,n,p,t,x,y,[]⟩
 ·rw [key.2 h];unfold xrO;rw [if_pos h,hn];rfl
 ·have hf:[!((0:Int)==p&&((0:Int)==t&&true)),(0:Int) != n,(0:Int) != x,(0:Int) != y,decide (((0:Nat):Int)>0)].any id=true:=by
   rw [<-Bool.not_eq_false];exact fun hb=>h (key.1 hb)
  rw [hf];unfold xrO;rw [if_neg h];rfl
theorem xrN_3 {n p t x y:Int}:(afun xrG 60 Try.f104 [qV ⟨3,n,p,t,x,y,[]⟩ (.v (.slice none 0 0))] []).eval=some (xrO 0 [] ⟨3,n,p,t,x,y,[]⟩):=by
 refine (xr_n3).trans ?_
 show chain [!(p==p&&(t==t&&true)),(0:Int) != n,(0:Int) != x,(0:Int) != y,decide (((0:Nat):Int)>0),!fits p,!fits t] (some (AV.tup [.c (.v (.slice none 0 0)),Bo false],([]:AHeap))) (some (AV.tup [.c (.sl 0 0 9),Bo true],([some ⟨5,true,.row 1 9 (cat [Value.int .u8 0] (cat [Value.int .u8 0] (fun i=>[[Value.int .u8 (IntKind.u8.wrap 3)]].getD i [Value.int .u8 0]) 1 (fun j=>ub (gL (four p) j)) 0 4) 5 (fun j=>ub (gL (four t) j)) 0 4)⟩]:AHeap)))=_
 have hc:(0:Nat)=0 ↔ ([]:List Opp)=[]:=⟨fun _=>rfl,fun _=>rfl⟩
 have key:([!(p==p&&(t==t&&true)),(0:Int) != n,(0:Int) != x,(0:Int) != y,decide (((0:Nat):Int)>0),!fits p,!fits t].any id=false) ↔ reqOk ⟨3,n,p,t,x,y,[]⟩:=by rw [any3,okn3,hc]
 have er:reqB ⟨3,n,p,t,x,y,[]⟩=by8 3::(four p++four t):=rfl
 have hn:(reqB ⟨3,n,p,t,x,y,[]⟩).length=9:=by rw [er];rfl
 rw [chain_eq]
 by_cases h:reqOk ⟨3,n,p,t,x,y,[]⟩
 ·have e:(cat [Value.int .u8 0] (cat [Value.int .u8 0] (fun i=>[[Value.int .u8 (IntKind.u8.wrap 3)]].getD i [Value.int .u8 0]) 1 (fun j=>ub (gL (four p) j)) 0 4) 5 (fun j=>ub (gL (four t) j)) 0 4)=fun j=>ub (gL (reqB ⟨3,n,p,t,x,y,[]⟩) j):=by rw [lst1_eq,cat_gL _ _ 1 4 rfl rfl,cat_gL _ _ 5 4 rfl rfl,er,wrap_by8];rfl
  rw [key.2 h,e];unfold xrO;rw [if_pos h,hn];rfl
 ·have hf:[!(p==p&&(t==t&&true)),(0:Int) != n,(0:Int) != x,(0:Int) != y,decide (((0:Nat):Int)>0),!fits p,!fits t].any id=true:=by
   rw [<-Bool.not_eq_false];exact fun hb=>h (key.1 hb)
  rw [hf];unfold xrO;rw [if_neg h];rfl
theorem xrN_4 {n p t x y:Int}:(afun xrG 60 Try.f104 [qV ⟨4,n,p,t,x,y,[]⟩ (.v (.slice none 0 0))] []).eval=some (xrO 0 [] ⟨4,n,p,t,x,y,[]⟩):=by
 refine (xr_n4).trans ?_
 show chain [!(p==p&&(t==t&&true)),n != n,(0:Int) != x,(0:Int) != y,decide (((0:Nat):Int)>0),!fits p,!fits t,!fits n] (some (AV.tup [.c (.v (.slice none 0 0)),Bo false],([]:AHeap))) (some (AV.tup [.c (.sl 0 0 13),Bo true],([some ⟨5,true,.row 1 13 (cat [Value.int .u8 0] (cat [Value.int .u8 0] (cat [Value.int .u8 0] (fun i=>[[Value.int .u8 (IntKind.u8.wrap 4)]].getD i [Value.int .u8 0]) 1 (fun j=>ub (gL (four p) j)) 0 4) 5 (fun j=>ub (gL (four t) j)) 0 4) 9 (fun j=>ub (gL (four n) j)) 0 4)⟩]:AHeap)))=_
 have hc:(0:Nat)=0 ↔ ([]:List Opp)=[]:=⟨fun _=>rfl,fun _=>rfl⟩
 have key:([!(p==p&&(t==t&&true)),n != n,(0:Int) != x,(0:Int) != y,decide (((0:Nat):Int)>0),!fits p,!fits t,!fits n].any id=false) ↔ reqOk ⟨4,n,p,t,x,y,[]⟩:=by rw [any4,okn4,hc]
 have er:reqB ⟨4,n,p,t,x,y,[]⟩=by8 4::(four p++four t++four n):=rfl
 have hn:(reqB ⟨4,n,p,t,x,y,[]⟩).length=13:=by rw [er];rfl
 rw [chain_eq]
 by_cases h:reqOk ⟨4,n,p,t,x,y,[]⟩
 ·have e:(cat [Value.int .u8 0] (cat [Value.int .u8 0] (cat [Value.int .u8 0] (fun i=>[[Value.int .u8 (IntKind.u8.wrap 4)]].getD i [Value.int .u8 0]) 1 (fun j=>ub (gL (four p) j)) 0 4) 5 (fun j=>ub (gL (four t) j)) 0 4) 9 (fun j=>ub (gL (four n) j)) 0 4)=fun j=>ub (gL (reqB ⟨4,n,p,t,x,y,[]⟩) j):=by rw [lst1_eq,cat_gL _ _ 1 4 rfl rfl,cat_gL _ _ 5 4 rfl rfl,cat_gL _ _ 9 4 rfl rfl,er,wrap_by8];rfl
  rw [key.2 h,e];unfold xrO;rw [if_pos h,hn];rfl
 ·have hf:[!(p==p&&(t==t&&true)),n != n,(0:Int) != x,(0:Int) != y,decide (((0:Nat):Int)>0),!fits p,!fits t,!fits n].any id=true:=by
   rw [<-Bool.not_eq_false];exact fun hb=>h (key.1 hb)
  rw [hf];unfold xrO;rw [if_neg h];rfl
theorem xrN_5 {n p t x y:Int}:(afun xrG 60 Try.f104 [qV ⟨5,n,p,t,x,y,[]⟩ (.v (.slice none 0 0))] []).eval=some (xrO 0 [] ⟨5,n,p,t,x,y,[]⟩):=by
 refine (xr_n5).trans ?_
 show chain [!(p==p&&(t==t&&true)),(0:Int) != n,x != x,y != y,decide (((0:Nat):Int)>0),!fits p,!fits t,!fits x,!fits y] (some (AV.tup [.c (.v (.slice none 0 0)),Bo false],([]:AHeap))) (some (AV.tup [.c (.sl 0 0 17),Bo true],([some ⟨5,true,.row 1 17 (cat [Value.int .u8 0] (cat [Value.int .u8 0] (cat [Value.int .u8 0] (cat [Value.int .u8 0] (fun i=>[[Value.int .u8 (IntKind.u8.wrap 5)]].getD i [Value.int .u8 0]) 1 (fun j=>ub (gL (four p) j)) 0 4) 5 (fun j=>ub (gL (four t) j)) 0 4) 9 (fun j=>ub (gL (four x) j)) 0 4) 13 (fun j=>ub (gL (four y) j)) 0 4)⟩]:AHeap)))=_
 have hc:(0:Nat)=0 ↔ ([]:List Opp)=[]:=⟨fun _=>rfl,fun _=>rfl⟩
 have key:([!(p==p&&(t==t&&true)),(0:Int) != n,x != x,y != y,decide (((0:Nat):Int)>0),!fits p,!fits t,!fits x,!fits y].any id=false) ↔ reqOk ⟨5,n,p,t,x,y,[]⟩:=by rw [any5,okn5,hc]
 have er:reqB ⟨5,n,p,t,x,y,[]⟩=by8 5::(four p++four t++four x++four y):=rfl
 have hn:(reqB ⟨5,n,p,t,x,y,[]⟩).length=17:=by rw [er];rfl
 rw [chain_eq]
 by_cases h:reqOk ⟨5,n,p,t,x,y,[]⟩
 ·have e:(cat [Value.int .u8 0] (cat [Value.int .u8 0] (cat [Value.int .u8 0] (cat [Value.int .u8 0] (fun i=>[[Value.int .u8 (IntKind.u8.wrap 5)]].getD i [Value.int .u8 0]) 1 (fun j=>ub (gL (four p) j)) 0 4) 5 (fun j=>ub (gL (four t) j)) 0 4) 9 (fun j=>ub (gL (four x) j)) 0 4) 13 (fun j=>ub (gL (four y) j)) 0 4)=fun j=>ub (gL (reqB ⟨5,n,p,t,x,y,[]⟩) j):=by rw [lst1_eq,cat_gL _ _ 1 4 rfl rfl,cat_gL _ _ 5 4 rfl rfl,cat_gL _ _ 9 4 rfl rfl,cat_gL _ _ 13 4 rfl rfl,er,wrap_by8];rfl
  rw [key.2 h,e];unfold xrO;rw [if_pos h,hn];rfl
 ·have hf:[!(p==p&&(t==t&&true)),(0:Int) != n,x != x,y != y,decide (((0:Nat):Int)>0),!fits p,!fits t,!fits x,!fits y].any id=true:=by
   rw [<-Bool.not_eq_false];exact fun hb=>h (key.1 hb)
  rw [hf];unfold xrO;rw [if_neg h];rfl
theorem xrS_2 {n p t x y:Int}{o:Bool}{c m:Nat}{P:Nat->Opp}:(afun xrG 60 Try.f104 [qV ⟨2,n,p,t,x,y,(opsP P c)⟩ (.sl 0 0 c)] [rowP o m P]).eval=some (xrO 1 [rowP o m P] ⟨2,n,p,t,x,y,(opsP P c)⟩):=by
 refine (xr_s2).trans ?_
 show chain [!((0:Int)==p&&((0:Int)==t&&true)),(0:Int) != n,(0:Int) != x,(0:Int) != y,decide (((c:Nat):Int)>0)] (some (AV.tup [.c (.v (.slice none 0 0)),Bo false],([rowP o m P]:AHeap))) (some (AV.tup [.c (.sl 1 0 1),Bo true],([rowP o m P,some ⟨5,true,.lst 1 [[.v (.int .u8 (IntKind.u8.wrap 2))]] [.v (.int .u8 0)]⟩]:AHeap)))=_
 have hc:c=0 ↔ ((opsP P c):List Opp)=[]:=opsP_nil
 have key:([!((0:Int)==p&&((0:Int)==t&&true)),(0:Int) != n,(0:Int) != x,(0:Int) != y,decide (((c:Nat):Int)>0)].any id=false) ↔ reqOk ⟨2,n,p,t,x,y,(opsP P c)⟩:=by rw [any2,okn2,hc]
 have er:reqB ⟨2,n,p,t,x,y,(opsP P c)⟩=by8 2::([]):=rfl
 have hn:(reqB ⟨2,n,p,t,x,y,(opsP P c)⟩).length=1:=by rw [er];rfl
 rw [chain_eq]
 by_cases h:reqOk ⟨2,n,p,t,x,y,(opsP P c)⟩
 ·rw [key.2 h];unfold xrO;rw [if_pos h,hn];rfl
 ·have hf:[!((0:Int)==p&&((0:Int)==t&&true)),(0:Int) != n,(0:Int) != x,(0:Int) != y,decide (((c:Nat):Int)>0)].any id=true:=by
   rw [<-Bool.not_eq_false];exact fun hb=>h (key.1 hb)
  rw [hf];unfold xrO;rw [if_neg h];rfl
theorem xrS_6 {n p t x y:Int}{o:Bool}{c m:Nat}{P:Nat->Opp}:(afun xrG 60 Try.f104 [qV ⟨6,n,p,t,x,y,(opsP P c)⟩ (.sl 0 0 c)] [rowP o m P]).eval=some (xrO 1 [rowP o m P] ⟨6,n,p,t,x,y,(opsP P c)⟩):=by
 refine (xr_s6).trans ?_
 show chain [!((0:Int)==p&&((0:Int)==t&&true)),(0:Int) != n,(0:Int) != x,(0:Int) != y,decide (((c:Nat):Int)>0)] (some (AV.tup [.c (.v (.slice none 0 0)),Bo false],([rowP o m P]:AHeap))) (some (AV.tup [.c (.sl 1 0 1),Bo true],([rowP o m P,some ⟨5,true,.lst 1 [[.v (.int .u8 (IntKind.u8.wrap 6))]] [.v (.int .u8 0)]⟩]:AHeap)))=_
 have hc:c=0 ↔ ((opsP P c):List Opp)=[]:=opsP_nil
 have key:([!((0:Int)==p&&((0:Int)==t&&true)),(0:Int) != n,(0:Int) != x,(0:Int) != y,decide (((c:Nat):Int)>0)].any id=false) ↔ reqOk ⟨6,n,p,t,x,y,(opsP P c)⟩:=by rw [any2,okn6,hc]
 have er:reqB ⟨6,n,p,t,x,y,(opsP P c)⟩=by8 6::([]):=rfl
 have hn:(reqB ⟨6,n,p,t,x,y,(opsP P c)⟩).length=1:=by rw [er];rfl
 rw [chain_eq]
 by_cases h:reqOk ⟨6,n,p,t,x,y,(opsP P c)⟩
 ·rw [key.2 h];unfold xrO;rw [if_pos h,hn];rfl
 ·have hf:[!((0:Int)==p&&((0:Int)==t&&true)),(0:Int) != n,(0:Int) != x,(0:Int) != y,decide (((c:Nat):Int)>0)].any id=true:=by
   rw [<-Bool.not_eq_false];exact fun hb=>h (key.1 hb)
  rw [hf];unfold xrO;rw [if_neg h];rfl
theorem xrS_3 {n p t x y:Int}{o:Bool}{c m:Nat}{P:Nat->Opp}:(afun xrG 60 Try.f104 [qV ⟨3,n,p,t,x,y,(opsP P c)⟩ (.sl 0 0 c)] [rowP o m P]).eval=some (xrO 1 [rowP o m P] ⟨3,n,p,t,x,y,(opsP P c)⟩):=by
 refine (xr_s3).trans ?_
 show chain [!(p==p&&(t==t&&true)),(0:Int) != n,(0:Int) != x,(0:Int) != y,decide (((c:Nat):Int)>0),!fits p,!fits t] (some (AV.tup [.c (.v (.slice none 0 0)),Bo false],([rowP o m P]:AHeap))) (some (AV.tup [.c (.sl 1 0 9),Bo true],([rowP o m P,some ⟨5,true,.row 1 9 (cat [Value.int .u8 0] (cat [Value.int .u8 0] (fun i=>[[Value.int .u8 (IntKind.u8.wrap 3)]].getD i [Value.int .u8 0]) 1 (fun j=>ub (gL (four p) j)) 0 4) 5 (fun j=>ub (gL (four t) j)) 0 4)⟩]:AHeap)))=_
 have hc:c=0 ↔ ((opsP P c):List Opp)=[]:=opsP_nil
 have key:([!(p==p&&(t==t&&true)),(0:Int) != n,(0:Int) != x,(0:Int) != y,decide (((c:Nat):Int)>0),!fits p,!fits t].any id=false) ↔ reqOk ⟨3,n,p,t,x,y,(opsP P c)⟩:=by rw [any3,okn3,hc]
 have er:reqB ⟨3,n,p,t,x,y,(opsP P c)⟩=by8 3::(four p++four t):=rfl
 have hn:(reqB ⟨3,n,p,t,x,y,(opsP P c)⟩).length=9:=by rw [er];rfl
 rw [chain_eq]
 by_cases h:reqOk ⟨3,n,p,t,x,y,(opsP P c)⟩
 ·have e:(cat [Value.int .u8 0] (cat [Value.int .u8 0] (fun i=>[[Value.int .u8 (IntKind.u8.wrap 3)]].getD i [Value.int .u8 0]) 1 (fun j=>ub (gL (four p) j)) 0 4) 5 (fun j=>ub (gL (four t) j)) 0 4)=fun j=>ub (gL (reqB ⟨3,n,p,t,x,y,(opsP P c)⟩) j):=by rw [lst1_eq,cat_gL _ _ 1 4 rfl rfl,cat_gL _ _ 5 4 rfl rfl,er,wrap_by8];rfl
  rw [key.2 h,e];unfold xrO;rw [if_pos h,hn];rfl
 ·have hf:[!(p==p&&(t==t&&true)),(0:Int) != n,(0:Int) != x,(0:Int) != y,decide (((c:Nat):Int)>0),!fits p,!fits t].any id=true:=by
   rw [<-Bool.not_eq_false];exact fun hb=>h (key.1 hb)
  rw [hf];unfold xrO;rw [if_neg h];rfl
theorem xrS_4 {n p t x y:Int}{o:Bool}{c m:Nat}{P:Nat->Opp}:(afun xrG 60 Try.f104 [qV ⟨4,n,p,t,x,y,(opsP P c)⟩ (.sl 0 0 c)] [rowP o m P]).eval=some (xrO 1 [rowP o m P] ⟨4,n,p,t,x,y,(opsP P c)⟩):=by
 refine (xr_s4).trans ?_
 show chain [!(p==p&&(t==t&&true)),n != n,(0:Int) != x,(0:Int) != y,decide (((c:Nat):Int)>0),!fits p,!fits t,!fits n] (some (AV.tup [.c (.v (.slice none 0 0)),Bo false],([rowP o m P]:AHeap))) (some (AV.tup [.c (.sl 1 0 13),Bo true],([rowP o m P,some ⟨5,true,.row 1 13 (cat [Value.int .u8 0] (cat [Value.int .u8 0] (cat [Value.int .u8 0] (fun i=>[[Value.int .u8 (IntKind.u8.wrap 4)]].getD i [Value.int .u8 0]) 1 (fun j=>ub (gL (four p) j)) 0 4) 5 (fun j=>ub (gL (four t) j)) 0 4) 9 (fun j=>ub (gL (four n) j)) 0 4)⟩]:AHeap)))=_
 have hc:c=0 ↔ ((opsP P c):List Opp)=[]:=opsP_nil
 have key:([!(p==p&&(t==t&&true)),n != n,(0:Int) != x,(0:Int) != y,decide (((c:Nat):Int)>0),!fits p,!fits t,!fits n].any id=false) ↔ reqOk ⟨4,n,p,t,x,y,(opsP P c)⟩:=by rw [any4,okn4,hc]
 have er:reqB ⟨4,n,p,t,x,y,(opsP P c)⟩=by8 4::(four p++four t++four n):=rfl
 have hn:(reqB ⟨4,n,p,t,x,y,(opsP P c)⟩).length=13:=by rw [er];rfl
 rw [chain_eq]
 by_cases h:reqOk ⟨4,n,p,t,x,y,(opsP P c)⟩
 ·have e:(cat [Value.int .u8 0] (cat [Value.int .u8 0] (cat [Value.int .u8 0] (fun i=>[[Value.int .u8 (IntKind.u8.wrap 4)]].getD i [Value.int .u8 0]) 1 (fun j=>ub (gL (four p) j)) 0 4) 5 (fun j=>ub (gL (four t) j)) 0 4) 9 (fun j=>ub (gL (four n) j)) 0 4)=fun j=>ub (gL (reqB ⟨4,n,p,t,x,y,(opsP P c)⟩) j):=by rw [lst1_eq,cat_gL _ _ 1 4 rfl rfl,cat_gL _ _ 5 4 rfl rfl,cat_gL _ _ 9 4 rfl rfl,er,wrap_by8];rfl
  rw [key.2 h,e];unfold xrO;rw [if_pos h,hn];rfl
 ·have hf:[!(p==p&&(t==t&&true)),n != n,(0:Int) != x,(0:Int) != y,decide (((c:Nat):Int)>0),!fits p,!fits t,!fits n].any id=true:=by
   rw [<-Bool.not_eq_false];exact fun hb=>h (key.1 hb)
  rw [hf];unfold xrO;rw [if_neg h];rfl
theorem xrS_5 {n p t x y:Int}{o:Bool}{c m:Nat}{P:Nat->Opp}:(afun xrG 60 Try.f104 [qV ⟨5,n,p,t,x,y,(opsP P c)⟩ (.sl 0 0 c)] [rowP o m P]).eval=some (xrO 1 [rowP o m P] ⟨5,n,p,t,x,y,(opsP P c)⟩):=by
 refine (xr_s5).trans ?_
 show chain [!(p==p&&(t==t&&true)),(0:Int) != n,x != x,y != y,decide (((c:Nat):Int)>0),!fits p,!fits t,!fits x,!fits y] (some (AV.tup [.c (.v (.slice none 0 0)),Bo false],([rowP o m P]:AHeap))) (some (AV.tup [.c (.sl 1 0 17),Bo true],([rowP o m P,some ⟨5,true,.row 1 17 (cat [Value.int .u8 0] (cat [Value.int .u8 0] (cat [Value.int .u8 0] (cat [Value.int .u8 0] (fun i=>[[Value.int .u8 (IntKind.u8.wrap 5)]].getD i [Value.int .u8 0]) 1 (fun j=>ub (gL (four p) j)) 0 4) 5 (fun j=>ub (gL (four t) j)) 0 4) 9 (fun j=>ub (gL (four x) j)) 0 4) 13 (fun j=>ub (gL (four y) j)) 0 4)⟩]:AHeap)))=_
 have hc:c=0 ↔ ((opsP P c):List Opp)=[]:=opsP_nil
 have key:([!(p==p&&(t==t&&true)),(0:Int) != n,x != x,y != y,decide (((c:Nat):Int)>0),!fits p,!fits t,!fits x,!fits y].any id=false) ↔ reqOk ⟨5,n,p,t,x,y,(opsP P c)⟩:=by rw [any5,okn5,hc]
 have er:reqB ⟨5,n,p,t,x,y,(opsP P c)⟩=by8 5::(four p++four t++four x++four y):=rfl
 have hn:(reqB ⟨5,n,p,t,x,y,(opsP P c)⟩).length=17:=by rw [er];rfl
 rw [chain_eq]
 by_cases h:reqOk ⟨5,n,p,t,x,y,(opsP P c)⟩
 ·have e:(cat [Value.int .u8 0] (cat [Value.int .u8 0] (cat [Value.int .u8 0] (cat [Value.int .u8 0] (fun i=>[[Value.int .u8 (IntKind.u8.wrap 5)]].getD i [Value.int .u8 0]) 1 (fun j=>ub (gL (four p) j)) 0 4) 5 (fun j=>ub (gL (four t) j)) 0 4) 9 (fun j=>ub (gL (four x) j)) 0 4) 13 (fun j=>ub (gL (four y) j)) 0 4)=fun j=>ub (gL (reqB ⟨5,n,p,t,x,y,(opsP P c)⟩) j):=by rw [lst1_eq,cat_gL _ _ 1 4 rfl rfl,cat_gL _ _ 5 4 rfl rfl,cat_gL _ _ 9 4 rfl rfl,cat_gL _ _ 13 4 rfl rfl,er,wrap_by8];rfl
  rw [key.2 h,e];unfold xrO;rw [if_pos h,hn];rfl
 ·have hf:[!(p==p&&(t==t&&true)),(0:Int) != n,x != x,y != y,decide (((c:Nat):Int)>0),!fits p,!fits t,!fits x,!fits y].any id=true:=by
   rw [<-Bool.not_eq_false];exact fun hb=>h (key.1 hb)
  rw [hf];unfold xrO;rw [if_neg h];rfl
end
section
open Go Go.RowKit
abbrev xsK:List (Nat × Option TypeId):=[(1,none),(2,none),(3,none),(4,none),(5,none),(6,none),(7,none),(18,none)]
abbrev xsK2:List (Nat × Option TypeId):=[(4,none),(6,none),(9,none)]
noncomputable def xsG:Ctx2:=GT KXR (fun k=>if k=11 then xsK else if k=34 then xsK2 else []) 0 []
theorem xsG_ok:XOk xsG:=GT_ok KXR_ok _ _ _
def bxP (n p t x y:Int) (m:Nat):Option ABlk:=some ⟨128,true,.one [i64 1,i64 n,i64 p,i64 t,i64 x,i64 y,.sl 0 0 m]⟩
def bxE:Option ABlk:=some ⟨128,true,.one [i64 1,i64 0,i64 0,i64 0,i64 0,i64 0,.v (.slice none 0 0)]⟩
def xsS (n p t x y:Int) (o:Bool) (m:Nat) (P:Nat->Opp) (k:Nat) (L:List Int) (i:Int):St:=
 ⟨slots 224 [(1,.c (.ptr 1 0 0)),(2,.c (.v (.slice none 0 0))),(3,Bo false),(4,.c (.sl 2 0 k)),(5,.c (.ptr 3 0 0)),(6,.c (.v (.slice none 0 0))),(7,I64 i),(18,I64 1)],[rowP o m P,bxP n p t x y m,rowU true k (gL L),bxE]⟩
theorem xs_e {n p t x y:Int}{o:Bool}{m:Nat}{P:Nat->Opp}{k:Nat}{L:List Int}{i:Int}:(rT xsG nol 1 45 (bodyOf Try.f104 0) xsK xsK (xsS n p t x y o m P k L i)).go [false] =
 some
  ([!decide (i<((m:Nat):Int))],Ex.exit 1,
   {
    sl:=
     slots 224
      [(1,AV.c (AC.ptr 1 0 0)),
       (2,AV.c (AC.v (Value.slice none 0 0))),(3,Bo false),
       (4,AV.c (AC.sl 2 0 k)),(5,AV.c (AC.ptr 3 0 0)),
       (6,AV.c (AC.v (Value.slice none 0 0))),(7,I64 i),
       (18,I64 (1:Int))],
    h:=
     [some
       {t:=121,own:=o,
        c:=
         Cont.row 5 m fun j=>
          [Value.int IntKind.i64 (P j).k,Value.int IntKind.i64 (P j).i,Value.int IntKind.i64 (P j).a,
           Value.int IntKind.i64 (P j).b,Value.string (P j).s] },
      some
       {t:=128,own:=true,
        c:=Cont.one [i64 (1:Int),i64 n,i64 p,i64 t,i64 x,i64 y,AC.sl 0 0 m] },
      some { t:=5,own:=true,c:=Cont.row 1 k fun j=>[Value.int IntKind.u8 (gL L j)] },
      some
       {t:=128,own:=true,
        c:=
         Cont.one
          [i64 (1:Int),i64 (0:Int),i64 (0:Int),i64 (0:Int),i64 (0:Int),i64 (0:Int),
           AC.v (Value.slice none 0 0)] }] }):=by kernel_rfl
theorem xs_b1 {n p t x y:Int}{o:Bool}{m:Nat}{P:Nat->Opp}{k:Nat}{L:List Int}{i:Int}:(rT xsG nol 1 45 (bodyOf Try.f104 0) xsK xsK (xsS n p t x y o m P k L i)).go [] =
 some
  ([decide (i<((m:Nat):Int)),decide ((0:Int)<=i),decide (i<((m:Nat):Int)),decide (0+i.toNat<m),
    decide ((P (0+i.toNat)).k<(0:Int)),true,true,true,true,true,true,true,true,true,true,
    true,true,true,true,true,true,true,true,true,true,true,true,true,true],
   Ex.ret,
   {
    sl:=
     slots 224
      [(1,AV.c (AC.ptr 1 0 0)),
       (2,AV.c (AC.v (Value.slice none 0 0))),(3,Bo false),
       (4,AV.c (AC.sl 2 0 k)),(5,AV.c (AC.ptr 3 0 0)),
       (6,AV.c (AC.v (Value.slice none 0 0))),(7,I64 i),
       (18,I64 (1:Int))],
    h:=
     [some
       {t:=121,own:=o,
        c:=
         Cont.row 5 m fun j=>
          [Value.int IntKind.i64 (P j).k,Value.int IntKind.i64 (P j).i,Value.int IntKind.i64 (P j).a,
           Value.int IntKind.i64 (P j).b,Value.string (P j).s] },
      some
       {t:=128,own:=true,
        c:=Cont.one [i64 (1:Int),i64 n,i64 p,i64 t,i64 x,i64 y,AC.sl 0 0 m] },
      some { t:=5,own:=true,c:=Cont.row 1 k fun j=>[Value.int IntKind.u8 (gL L j)] },
      some
       {t:=128,own:=true,
        c:=
         Cont.one
          [i64 (1:Int),i64 (0:Int),i64 (0:Int),i64 (0:Int),i64 (0:Int),i64 (0:Int),
           AC.v (Value.slice none 0 0)] }] }):=by kernel_rfl
theorem xs_b2 {n p t x y:Int}{o:Bool}{m:Nat}{P:Nat->Opp}{k:Nat}{L:List Int}{i:Int}:(rT xsG nol 1 45 (bodyOf Try.f104 0) xsK xsK (xsS n p t x y o m P k L i)).go (dN 8 15) =
 some
  ([decide (i<((m:Nat):Int)),decide ((0:Int)<=i),decide (i<((m:Nat):Int)),decide (0+i.toNat<m),
    !decide ((P (0+i.toNat)).k<(0:Int)),true,true,true,
    decide ((P (0+i.toNat)).k>(255:Int)),true,true,true,true,true,true,true,true,true,true,
    true,true,true,true,true,true,true,true,true,true],
   Ex.ret,
   {
    sl:=
     slots 224
      [(1,AV.c (AC.ptr 1 0 0)),
       (2,AV.c (AC.v (Value.slice none 0 0))),(3,Bo false),
       (4,AV.c (AC.sl 2 0 k)),(5,AV.c (AC.ptr 3 0 0)),
       (6,AV.c (AC.v (Value.slice none 0 0))),(7,I64 i),
       (18,I64 (1:Int))],
    h:=
     [some
       {t:=121,own:=o,
        c:=
         Cont.row 5 m fun j=>
          [Value.int IntKind.i64 (P j).k,Value.int IntKind.i64 (P j).i,Value.int IntKind.i64 (P j).a,
           Value.int IntKind.i64 (P j).b,Value.string (P j).s] },
      some
       {t:=128,own:=true,
        c:=Cont.one [i64 (1:Int),i64 n,i64 p,i64 t,i64 x,i64 y,AC.sl 0 0 m] },
      some { t:=5,own:=true,c:=Cont.row 1 k fun j=>[Value.int IntKind.u8 (gL L j)] },
      some
       {t:=128,own:=true,
        c:=
         Cont.one
          [i64 (1:Int),i64 (0:Int),i64 (0:Int),i64 (0:Int),i64 (0:Int),i64 (0:Int),
           AC.v (Value.slice none 0 0)] }] }):=by kernel_rfl
theorem xs_f1 {n p t x y:Int}{o:Bool}{m:Nat}{P:Nat->Opp}{k:Nat}{L:List Int}{i:Int}:(rT xsG nol 1 45 (bodyOf Try.f104 0) xsK xsK (xsS n p t x y o m P k L i)).go (dN 13 15) =
 some
  ([decide (i<((m:Nat):Int)),decide ((0:Int)<=i),decide (i<((m:Nat):Int)),decide (0+i.toNat<m),
    !decide ((P (0+i.toNat)).k<(0:Int)),true,true,true,
    !decide ((P (0+i.toNat)).k>(255:Int)),true,true,true,true,!fits (P (0+i.toNat)).i,
    true,true,true,true,true,true,true,true,true,true,true,true,true,true,true],
   Ex.ret,
   {
    sl:=
     slots 224
      [(1,AV.c (AC.ptr 1 0 0)),
       (2,AV.c (AC.v (Value.slice none 0 0))),(3,Bo false),
       (4,AV.c (AC.sl 2 0 k)),(5,AV.c (AC.ptr 3 0 0)),
       (6,AV.c (AC.v (Value.slice none 0 0))),(7,I64 i),
       (18,I64 (1:Int))],
    h:=
     [some
       {t:=121,own:=o,
        c:=
         Cont.row 5 m fun j=>
          [Value.int IntKind.i64 (P j).k,Value.int IntKind.i64 (P j).i,Value.int IntKind.i64 (P j).a,
           Value.int IntKind.i64 (P j).b,Value.string (P j).s] },
      some
       {t:=128,own:=true,
        c:=Cont.one [i64 (1:Int),i64 n,i64 p,i64 t,i64 x,i64 y,AC.sl 0 0 m] },
      some { t:=5,own:=true,c:=Cont.row 1 k fun j=>[Value.int IntKind.u8 (gL L j)] },
      some
       {t:=128,own:=true,
        c:=
         Cont.one
          [i64 (1:Int),i64 (0:Int),i64 (0:Int),i64 (0:Int),i64 (0:Int),i64 (0:Int),
           AC.v (Value.slice none 0 0)] }] }):=by kernel_rfl
theorem xs_f2 {n p t x y:Int}{o:Bool}{m:Nat}{P:Nat->Opp}{k:Nat}{L:List Int}{i:Int}:(rT xsG nol 1 45 (bodyOf Try.f104 0) xsK xsK (xsS n p t x y o m P k L i)).go (dN 18 15) =
 some
  ([decide (i<((m:Nat):Int)),decide ((0:Int)<=i),decide (i<((m:Nat):Int)),decide (0+i.toNat<m),
    !decide ((P (0+i.toNat)).k<(0:Int)),true,true,true,
    !decide ((P (0+i.toNat)).k>(255:Int)),true,true,true,true,!!fits (P (0+i.toNat)).i,
    true,true,true,true,!fits (P (0+i.toNat)).a,true,true,true,true,true,true,true,true,true,
    true],
   Ex.ret,
   {
    sl:=
     slots 224
      [(1,AV.c (AC.ptr 1 0 0)),
       (2,AV.c (AC.v (Value.slice none 0 0))),(3,Bo false),
       (4,AV.c (AC.sl 2 0 k)),(5,AV.c (AC.ptr 3 0 0)),
       (6,AV.c (AC.v (Value.slice none 0 0))),(7,I64 i),
       (18,I64 (1:Int))],
    h:=
     [some
       {t:=121,own:=o,
        c:=
         Cont.row 5 m fun j=>
          [Value.int IntKind.i64 (P j).k,Value.int IntKind.i64 (P j).i,Value.int IntKind.i64 (P j).a,
           Value.int IntKind.i64 (P j).b,Value.string (P j).s] },
      some
       {t:=128,own:=true,
        c:=Cont.one [i64 (1:Int),i64 n,i64 p,i64 t,i64 x,i64 y,AC.sl 0 0 m] },
      some { t:=5,own:=true,c:=Cont.row 1 k fun j=>[Value.int IntKind.u8 (gL L j)] },
      some
       {t:=128,own:=true,
        c:=
         Cont.one
          [i64 (1:Int),i64 (0:Int),i64 (0:Int),i64 (0:Int),i64 (0:Int),i64 (0:Int),
           AC.v (Value.slice none 0 0)] }] }):=by kernel_rfl
theorem xs_f3 {n p t x y:Int}{o:Bool}{m:Nat}{P:Nat->Opp}{k:Nat}{L:List Int}{i:Int}:(rT xsG nol 1 45 (bodyOf Try.f104 0) xsK xsK (xsS n p t x y o m P k L i)).go (dN 23 15) =
 some
  ([decide (i<((m:Nat):Int)),decide ((0:Int)<=i),decide (i<((m:Nat):Int)),decide (0+i.toNat<m),
    !decide ((P (0+i.toNat)).k<(0:Int)),true,true,true,
    !decide ((P (0+i.toNat)).k>(255:Int)),true,true,true,true,!!fits (P (0+i.toNat)).i,
    true,true,true,true,!!fits (P (0+i.toNat)).a,true,true,true,true,
    !fits (P (0+i.toNat)).b,true,true,true,true,true],
   Ex.ret,
   {
    sl:=
     slots 224
      [(1,AV.c (AC.ptr 1 0 0)),
       (2,AV.c (AC.v (Value.slice none 0 0))),(3,Bo false),
       (4,AV.c (AC.sl 2 0 k)),(5,AV.c (AC.ptr 3 0 0)),
       (6,AV.c (AC.v (Value.slice none 0 0))),(7,I64 i),
       (18,I64 (1:Int))],
    h:=
     [some
       {t:=121,own:=o,
        c:=
         Cont.row 5 m fun j=>
          [Value.int IntKind.i64 (P j).k,Value.int IntKind.i64 (P j).i,Value.int IntKind.i64 (P j).a,
           Value.int IntKind.i64 (P j).b,Value.string (P j).s] },
      some
       {t:=128,own:=true,
        c:=Cont.one [i64 (1:Int),i64 n,i64 p,i64 t,i64 x,i64 y,AC.sl 0 0 m] },
      some { t:=5,own:=true,c:=Cont.row 1 k fun j=>[Value.int IntKind.u8 (gL L j)] },
      some
       {t:=128,own:=true,
        c:=
         Cont.one
          [i64 (1:Int),i64 (0:Int),i64 (0:Int),i64 (0:Int),i64 (0:Int),i64 (0:Int),
           AC.v (Value.slice none 0 0)] }] }):=by kernel_rfl
theorem xs_f4 {n p t x y:Int}{o:Bool}{m:Nat}{P:Nat->Opp}{k:Nat}{L:List Int}{i:Int}:(rT xsG nol 1 45 (bodyOf Try.f104 0) xsK xsK (xsS n p t x y o m P k L i)).go (dN 28 15) =
 some
  ([decide (i<((m:Nat):Int)),decide ((0:Int)<=i),decide (i<((m:Nat):Int)),decide (0+i.toNat<m),
    !decide ((P (0+i.toNat)).k<(0:Int)),true,true,true,
    !decide ((P (0+i.toNat)).k>(255:Int)),true,true,true,true,!!fits (P (0+i.toNat)).i,
    true,true,true,true,!!fits (P (0+i.toNat)).a,true,true,true,true,
    !!fits (P (0+i.toNat)).b,true,true,true,true,
    decide ((((P (0+i.toNat)).s.size:Nat):Int)>(2000:Int))],
   Ex.ret,
   {
    sl:=
     slots 224
      [(1,AV.c (AC.ptr 1 0 0)),
       (2,AV.c (AC.v (Value.slice none 0 0))),(3,Bo false),
       (4,AV.c (AC.sl 2 0 k)),(5,AV.c (AC.ptr 3 0 0)),
       (6,AV.c (AC.v (Value.slice none 0 0))),(7,I64 i),
       (18,I64 (1:Int))],
    h:=
     [some
       {t:=121,own:=o,
        c:=
         Cont.row 5 m fun j=>
          [Value.int IntKind.i64 (P j).k,Value.int IntKind.i64 (P j).i,Value.int IntKind.i64 (P j).a,
           Value.int IntKind.i64 (P j).b,Value.string (P j).s] },
      some
       {t:=128,own:=true,
        c:=Cont.one [i64 (1:Int),i64 n,i64 p,i64 t,i64 x,i64 y,AC.sl 0 0 m] },
      some { t:=5,own:=true,c:=Cont.row 1 k fun j=>[Value.int IntKind.u8 (gL L j)] },
      some
       {t:=128,own:=true,
        c:=
         Cont.one
          [i64 (1:Int),i64 (0:Int),i64 (0:Int),i64 (0:Int),i64 (0:Int),i64 (0:Int),
           AC.v (Value.slice none 0 0)] }] }):=by kernel_rfl
theorem xs_go {n p t x y:Int}{o:Bool}{m:Nat}{P:Nat->Opp}{k:Nat}{L:List Int}{i:Int}:(rT xsG nol 1 45 (bodyOf Try.f104 0) xsK xsK (xsS n p t x y o m P k L i)).go (dN 29 15) =
 some
  ([decide (i<((m:Nat):Int)),decide ((0:Int)<=i),decide (i<((m:Nat):Int)),decide (0+i.toNat<m),
    !decide ((P (0+i.toNat)).k<(0:Int)),true,true,true,
    !decide ((P (0+i.toNat)).k>(255:Int)),true,true,true,true,!!fits (P (0+i.toNat)).i,
    true,true,true,true,!!fits (P (0+i.toNat)).a,true,true,true,true,
    !!fits (P (0+i.toNat)).b,true,true,true,true,
    !decide ((((P (0+i.toNat)).s.size:Nat):Int)>(2000:Int)),decide (k=k),true,
    decide ((k+1)*1<=maxCells),decide (k+1=k+1),true,
    decide ((k+1+4)*1<=maxCells),
    decide (k+1+4=k+1+4),true,
    decide ((k+1+4+4)*1<=maxCells),
    decide (k+1+4+4=k+1+4+4),true,
    decide ((k+1+4+4+4)*1<=maxCells),true,
    decide (k+1+4+4+4=k+1+4+4+4),
    true,decide ((k+1+4+4+4+2)*1<=maxCells),
    decide
     (k+1+4+4+4+2 =
      k+1+4+4+4+2),
    decide (0+(P (0+i.toNat)).s.size<=(P (0+i.toNat)).s.size),
    decide
     ((k+1+4+4+4+2+(P (0+i.toNat)).s.size) *
       1 ≤
      maxCells)],
   Ex.normal,
   {
    sl:=
     slots 224
      [(1,AV.c (AC.ptr 1 0 0)),
       (2,AV.c (AC.v (Value.slice none 0 0))),(3,Bo false),
       (4,
        AV.c
         (AC.sl 2 0
          (k+1+4+4+4+2 +
           (P (0+i.toNat)).s.size))),
       (5,AV.c (AC.ptr 3 0 0)),
       (6,AV.c (AC.v (Value.slice none 0 0))),(7,I64 (w64 (i+(1:Int)))),
       (18,I64 (1:Int))],
    h:=
     [some
       {t:=121,own:=o,
        c:=
         Cont.row 5 m fun j=>
          [Value.int IntKind.i64 (P j).k,Value.int IntKind.i64 (P j).i,Value.int IntKind.i64 (P j).a,
           Value.int IntKind.i64 (P j).b,Value.string (P j).s] },
      some
       {t:=128,own:=true,
        c:=Cont.one [i64 (1:Int),i64 n,i64 p,i64 t,i64 x,i64 y,AC.sl 0 0 m] },
      some
       {t:=5,own:=true,
        c:=
         Cont.row 1
          (k+1+4+4+4+2+(P (0+i.toNat)).s.size)
          fun k_1=>
          Decidable.rec
           (fun h=>
            if
              k_1 <
               k+1+4+4+4+2 +
                (P (0+i.toNat)).s.size then
             [Value.int IntKind.u8
               (bt (P (0+i.toNat)).s
                ((0+(k_1-(k+1+4+4+4+2)):Nat):Int))]
            else [Value.int IntKind.u8 (0:Int)])
           (fun h=>
            updL
             (cat [Value.int IntKind.u8 (0:Int)]
              (cat [Value.int IntKind.u8 (0:Int)]
               (cat [Value.int IntKind.u8 (0:Int)]
                (updL (fun j=>ub (gL L j)) k
                 [[Value.int IntKind.u8 (IntKind.u8.wrap (P (0+i.toNat)).k)]])
                (k+1) (fun j=>ub (gL (four (P (0+i.toNat)).i) j)) 0
                4)
               (k+1+4) (fun j=>ub (gL (four (P (0+i.toNat)).a) j))
               0 4)
              (k+1+4+4)
              (fun j=>ub (gL (four (P (0+i.toNat)).b) j)) 0 4)
             (k+1+4+4+4)
             [[Value.int IntKind.u8
                (IntKind.u8.wrap
                 (((((P (0+i.toNat)).s.size:Nat):Int)).fdiv
                  ((2:Int)^min 8 IntKind.i64.bits)))],
              [Value.int IntKind.u8 (IntKind.u8.wrap (((P (0+i.toNat)).s.size:Nat):Int))]]
             k_1)
           (k_1.decLt (k+1+4+4+4+2)) },
      some
       {t:=128,own:=true,
        c:=
         Cont.one
          [i64 (1:Int),i64 (0:Int),i64 (0:Int),i64 (0:Int),i64 (0:Int),i64 (0:Int),
           AC.v (Value.slice none 0 0)] }] }):=by kernel_rfl
end
section
open Go Go.RowKit
def xsRow (L:List Int) (k:Nat) (o:Opp):Nat->List Value:=
 cat [Value.int .u8 0] (updL (cat [Value.int .u8 0] (cat [Value.int .u8 0] (cat [Value.int .u8 0] (updL (fun j=>ub (gL L j)) k [[Value.int .u8 (IntKind.u8.wrap o.k)]]) (k+1) (fun j=>ub (gL (four o.i) j)) 0 4) (k+1+4) (fun j=>ub (gL (four o.a) j)) 0 4) (k+1+4+4) (fun j=>ub (gL (four o.b) j)) 0 4) (k+1+4+4+4)
  [[Value.int .u8 (IntKind.u8.wrap ((((o.s.size:Nat):Int)).fdiv ((2:Int)^min 8 IntKind.i64.bits)))],[Value.int .u8 (IntKind.u8.wrap ((o.s.size:Nat):Int))]]) (k+1+4+4+4+2) (fun j=>[Value.int .u8 (bt o.s ((j:Nat):Int))]) 0 o.s.size
theorem xsRow_eq (L:List Int) (k:Nat) (hk:k=L.length) (o:Opp):xsRow L k o=fun j=>ub (gL (L++opB o) j):=by
 subst hk
 unfold xsRow
 have e3:((2:Int)^min 8 IntKind.i64.bits)=256:=rfl
 have et:(fun j:Nat=>[Value.int .u8 (bt o.s ((j:Nat):Int))])=fun j=>ub (gL (bs o.s) j):=by
  funext j;rw [bt_bsW];rfl
 have e2:∀ (M:List Int) (n:Nat) (a b:Int),n=M.length->updL (fun j=>ub (gL M j)) n [[Value.int .u8 a],[Value.int .u8 b]]=fun j=>ub (gL (M++[a,b]) j):=by
  intro M n a b hn
  show updL (updL (fun j=>ub (gL M j)) n [[Value.int .u8 a]]) (n+1) [[Value.int .u8 b]]=_
  rw [upd_gL M n hn,upd_gL _ (n+1) (by simp;omega)]
  simp
 rw [e3,fdiv_k _ _ (by omega),upd_gL L _ rfl,cat_gL _ _ _ 4 (by simp) rfl,cat_gL _ _ _ 4 (by simp [four]) rfl,cat_gL _ _ _ 4 (by simp [four]) rfl,e2 _ _ _ _ (by simp [four]),et,cat_gL _ _ _ _ (by simp [four]) (by rw [bs_len])]
 simp only [wrap_by8]
 simp [opB]
theorem opOk_parts {o:Opp}(h:opOk o=true):(0<=o.k/\o.k<=255)/\fits o.i=true/\fits o.a=true/\fits o.b=true/\o.s.size<=2000:=by
 simp only [opOk,Bool.and_eq_true,decide_eq_true_eq,byOk] at h
 exact ⟨h.1.1.1.1,h.1.1.1.2,h.1.1.2,h.1.2,h.2⟩
theorem xs_round {n p t x y:Int}{o:Bool}{m:Nat}{P:Nat->Opp}{L:List Int}{j:Nat}(hj:j<m) (hm:m<=100) (h:opOk (P j)=true) (hl:L.length+15+(P j).s.size<=maxCells) :
  CodeSem xsG 1 (bodyOf Try.f104 0) (xsS n p t x y o m P L.length L (j:Nat)) (.normal,xsS n p t x y o m P (L++opB (P j)).length (L++opB (P j)) ((j+1:Nat):Int)):=by
 obtain ⟨hk,hi,ha,hb,hs⟩:=opOk_parts h
 have e1:=succ64 (j:=j) (by omega)
 refine rT_sem xsG_ok noLoopsS ((rT_go xs_go ?_).trans ?_)
 ·simp only [Int.toNat_natCast,Nat.zero_add]
  repeat' (first|exact AllT.nil|refine AllT.cons ?_ ?_)
  all_goals first|(with_reducible rfl)|exact decide_eq_true (by omega)|exact not_eq (decide_eq_false (by omega))|exact decide_eq_true trivial|exact notnot hi|exact notnot ha|exact notnot hb
 ·simp only [Int.toNat_natCast,(Nat.zero_add j:0+j=j),e1]
  have er:=xsRow_eq L L.length rfl (P j)
  have el:(L++opB (P j)).length=L.length+1+4+4+4+2+(P j).s.size:=by rw [List.length_append,opB_len];omega
  rw [xsS,el]
  show some (Ex.normal,(⟨_,[_,_,some ⟨5,true,.row 1 _ (xsRow L L.length (P j))⟩,_]⟩:St))=_
  rw [er]
  rfl
theorem xs_stop {n p t x y:Int}{o:Bool}{m:Nat}{P:Nat->Opp}{L:List Int}{j k:Nat}(hj:j<m) (h:¬ opOk (P j)=true) :
  CodeSem xsG 1 (bodyOf Try.f104 0) (xsS n p t x y o m P k L (j:Nat)) (.ret,xsS n p t x y o m P k L (j:Nat)):=by
 by_cases h1:(P j).k<0
 ·refine rT_sem xsG_ok noLoopsS ((rT_go xs_b1 ?_).trans rfl)
  simp only [Int.toNat_natCast,Nat.zero_add]
  repeat' (first|exact AllT.nil|refine AllT.cons ?_ ?_)
  all_goals first|(with_reducible rfl)|exact decide_eq_true (by omega)
 by_cases h2:(P j).k>255
 ·refine rT_sem xsG_ok noLoopsS ((rT_go xs_b2 ?_).trans rfl)
  simp only [Int.toNat_natCast,Nat.zero_add]
  repeat' (first|exact AllT.nil|refine AllT.cons ?_ ?_)
  all_goals first|(with_reducible rfl)|exact decide_eq_true (by omega)|exact not_eq (decide_eq_false (by omega))
 cases h3:fits (P j).i with
 | false=>
  refine rT_sem xsG_ok noLoopsS ((rT_go xs_f1 ?_).trans rfl)
  simp only [Int.toNat_natCast,Nat.zero_add]
  repeat' (first|exact AllT.nil|refine AllT.cons ?_ ?_)
  all_goals first|(with_reducible rfl)|exact decide_eq_true (by omega)|exact not_eq (decide_eq_false (by omega))|exact not_eq h3
 | true=>
  cases h4:fits (P j).a with
  | false=>
   refine rT_sem xsG_ok noLoopsS ((rT_go xs_f2 ?_).trans rfl)
   simp only [Int.toNat_natCast,Nat.zero_add]
   repeat' (first|exact AllT.nil|refine AllT.cons ?_ ?_)
   all_goals first|(with_reducible rfl)|exact decide_eq_true (by omega)|exact not_eq (decide_eq_false (by omega))|exact notnot h3|exact not_eq h4
  | true=>
   cases h5:fits (P j).b with
   | false=>
    refine rT_sem xsG_ok noLoopsS ((rT_go xs_f3 ?_).trans rfl)
    simp only [Int.toNat_natCast,Nat.zero_add]
    repeat' (first|exact AllT.nil|refine AllT.cons ?_ ?_)
    all_goals first|(with_reducible rfl)|exact decide_eq_true (by omega)|exact not_eq (decide_eq_false (by omega))|exact notnot h3|exact notnot h4|exact not_eq h5
   | true=>
    have h6:(P j).s.size>2000:=by
     refine Nat.lt_of_not_le fun hs=>h ?_
     unfold opOk byOk
     rw [h3,h4,h5,decide_eq_true hs,decide_eq_true (show 0<=(P j).k by omega),decide_eq_true (show (P j).k<=255 by omega)];rfl
    refine rT_sem xsG_ok noLoopsS ((rT_go xs_f4 ?_).trans rfl)
    simp only [Int.toNat_natCast,Nat.zero_add]
    repeat' (first|exact AllT.nil|refine AllT.cons ?_ ?_)
    all_goals first|(with_reducible rfl)|exact decide_eq_true (by omega)|exact not_eq (decide_eq_false (by omega))|exact notnot h3|exact notnot h4|exact notnot h5
end
section
open Go Go.RowKit
theorem xs_loop_t {n p t x y:Int}{o:Bool}{m:Nat}{P:Nat->Opp}{L:List Int}(hm:m<=100) (h:∀ j,j<m->opOk (P j)=true) (hl:L.length+2015*m<=maxCells) :
  CodeSem xsG 1 (.loop (bodyOf Try.f104 0)) (xsS n p t x y o m P L.length L 0) (.exit 1,xsS n p t x y o m P (L++(opsP P m).flatMap opB).length (L++(opsP P m).flatMap opB) (m:Nat)):=by
 have hlen:∀ j,j<=m->((opsP P j).flatMap opB).length<=2015*j:=by
  intro j
  induction j with
  | zero=>intro _;simp [opsP]
  | succ j ih=>
   intro hj
   have e:opsP P (j+1)=opsP P j++[P j]:=by simp [opsP,List.range_succ]
   have h1:=ih (by omega)
   have h2:=(opOk_parts (h j (by omega))).2.2.2.2
   rw [e,List.flatMap_append,List.length_append,List.flatMap_singleton,opB_len]
   omega
 have h00:L=L++(opsP P 0).flatMap opB:=by simp [opsP]
 have key:=loop_of (G:=xsG) (n0:=1) (b:=bodyOf Try.f104 0) (fun j=>xsS n p t x y o m P (L++(opsP P j).flatMap opB).length (L++(opsP P j).flatMap opB) (j:Nat)) m (e:=.exit 1) (Se:=xsS n p t x y o m P (L++(opsP P m).flatMap opB).length (L++(opsP P m).flatMap opB) (m:Nat)) (by simp) ?_ fun j hj=>?_
 ·have e0:xsS n p t x y o m P (L++(opsP P 0).flatMap opB).length (L++(opsP P 0).flatMap opB) ((0:Nat):Int)=xsS n p t x y o m P L.length L 0:=by rw [<-h00];rfl
  rw [e0] at key
  exact key
 ·refine rT_sem xsG_ok noLoopsS ((rT_go xs_e ?_).trans rfl)
  repeat' (first|exact AllT.nil|refine AllT.cons ?_ ?_)
  all_goals first|(with_reducible rfl)|exact not_eq (decide_eq_false (by omega))
 ·have e:opsP P (j+1)=opsP P j++[P j]:=by simp [opsP,List.range_succ]
  have h2:=(opOk_parts (h j hj)).2.2.2.2
  have h1:=hlen j (by omega)
  have hr:=xs_round (n:=n) (p:=p) (t:=t) (x:=x) (y:=y) (o:=o) (L:=L++(opsP P j).flatMap opB) hj hm (h j hj) (by rw [List.length_append];omega)
  rw [e,List.flatMap_append,List.flatMap_singleton,<-List.append_assoc]
  exact hr
def xsS0 (n p t x y:Int) (o:Bool) (m:Nat) (P:Nat->Opp):St:=
 ⟨slots 224 [(1,.c (.ptr 1 0 0)),(2,.c (.v (.slice none 0 0))),(3,Bo false),(4,.c (.sl 2 0 2)),(5,.c (.ptr 3 0 0)),(6,.c (.v (.slice none 0 0))),(7,I64 0),(18,I64 1)],[rowP o m P,bxP n p t x y m,some ⟨5,true,.row 1 2 (updL (fun i=>[[Value.int .u8 (IntKind.u8.wrap 1)]].getD i [Value.int .u8 0]) 1 [[Value.int .u8 (IntKind.u8.wrap (m:Nat))]])⟩,bxE]⟩
theorem xsS0_eq (n p t x y:Int) (o:Bool) (m:Nat) (P:Nat->Opp):xsS0 n p t x y o m P=xsS n p t x y o m P 2 [by8 1,by8 (m:Nat)] 0:=by
 have e:updL (fun i=>[[Value.int .u8 (IntKind.u8.wrap 1)]].getD i [Value.int .u8 0]) 1 [[Value.int .u8 (IntKind.u8.wrap (m:Nat))]]=fun j=>ub (gL [by8 1,by8 (m:Nat)] j):=by
  rw [lst1_eq,upd_gL _ 1 rfl,wrap_by8,wrap_by8];rfl
 unfold xsS0
 rw [e];rfl
def xsT (o:Bool) (m:Nat) (P:Nat->Opp) (k:Nat) (L:List Int):St:=⟨slots 224 [(4,.c (.sl 1 0 k)),(6,.c (.v (.slice none 0 0))),(9,I64 0)],[rowP o m P,rowU true k (gL L)]⟩
theorem xt_e {o:Bool}{m:Nat}{P:Nat->Opp}{k:Nat}{L:List Int}:(rT xsG nol 1 50 (bodyOf Try.f104 1) xsK2 xsK2 (xsT o m P k L)).go [false] =
 some
  ([true],Ex.exit 3,
   {
    sl:=
     slots 224
      [(4,AV.c (AC.sl 1 0 k)),
       (6,AV.c (AC.v (Value.slice none 0 0))),(9,I64 (0:Int))],
    h:=
     [some
       {t:=121,own:=o,
        c:=
         Cont.row 5 m fun j=>
          [Value.int IntKind.i64 (P j).k,Value.int IntKind.i64 (P j).i,Value.int IntKind.i64 (P j).a,
           Value.int IntKind.i64 (P j).b,Value.string (P j).s] },
      some { t:=5,own:=true,c:=Cont.row 1 k fun j=>[Value.int IntKind.u8 (gL L j)] }] }):=by kernel_rfl
theorem xb_big {n p t x y:Int}{o:Bool}{m:Nat}{P:Nat->Opp}:(lfun xsG nol 60 Try.f104 [qV ⟨1,n,p,t,x,y,[]⟩ (.sl 0 0 m)] [rowP o m P]).go [] =
 some
  ([true,decide (((m:Nat):Int)>(100:Int))],AV.tup [AV.c (AC.v (Value.slice none 0 0)),Bo false],
   [some
     {t:=121,own:=o,
      c:=
       Cont.row 5 m fun j=>
        [Value.int IntKind.i64 (P j).k,Value.int IntKind.i64 (P j).i,Value.int IntKind.i64 (P j).a,
         Value.int IntKind.i64 (P j).b,Value.string (P j).s] }]):=by kernel_rfl
theorem xb_r {n p t x y i:Int}{o:Bool}{m k:Nat}{P:Nat->Opp}{L:List Int}:(lfun xsG (tell (bodyOf Try.f104 0) (xsS0 n p t x y o m P) (.ret,xsS n p t x y o m P k L i)) 60 Try.f104 [qV ⟨1,n,p,t,x,y,[]⟩ (.sl 0 0 m)] [rowP o m P]).go [true,false] =
 some
  ([true,!decide (((m:Nat):Int)>(100:Int)),true,true,true,yes (wasS (bodyOf Try.f104 0) (xsS0 n p t x y o m P))],
   AV.tup [AV.c (AC.v (Value.slice none 0 0)),Bo false],
   [some
     {t:=121,own:=o,
      c:=
       Cont.row 5 m fun j=>
        [Value.int IntKind.i64 (P j).k,Value.int IntKind.i64 (P j).i,Value.int IntKind.i64 (P j).a,
         Value.int IntKind.i64 (P j).b,Value.string (P j).s] }]):=by kernel_rfl
theorem xb_t {n p t x y i:Int}{o:Bool}{m k:Nat}{P:Nat->Opp}{L:List Int}:(lfun xsG (byReg 11 (tell (bodyOf Try.f104 0) (xsS0 n p t x y o m P) (.exit 1,xsS n p t x y o m P k L i)) (tell (bodyOf Try.f104 1) (xsT o m P k L) (.exit 3,xsT o m P k L))) 60 Try.f104 [qV ⟨1,n,p,t,x,y,[]⟩ (.sl 0 0 m)] [rowP o m P]).go (dN 36 61) =
 some
  ([true,!decide (((m:Nat):Int)>(100:Int)),true,true,true,yes (wasS (bodyOf Try.f104 0) (xsS0 n p t x y o m P)),!!((0:Int)==p&&((0:Int)==t&&true)),
    true,true,true,true,true,!(0:Int) != n,true,true,true,true,true,!(0:Int) != x,true,true,true,
    true,true,!(0:Int) != y,true,true,true,true,true,true,true,true,true,true,true,yes (wasS (bodyOf Try.f104 1) (xsT o m P k L))],
   AV.tup [AV.c (AC.sl 1 0 k),Bo true],
   [some
     {t:=121,own:=o,
      c:=
       Cont.row 5 m fun j=>
        [Value.int IntKind.i64 (P j).k,Value.int IntKind.i64 (P j).i,Value.int IntKind.i64 (P j).a,
         Value.int IntKind.i64 (P j).b,Value.string (P j).s] },
    some { t:=5,own:=true,c:=Cont.row 1 k fun j=>[Value.int IntKind.u8 (gL L j)] }]):=by kernel_rfl
theorem xb_c1 {n p t x y i:Int}{o:Bool}{m k:Nat}{P:Nat->Opp}{L:List Int}:(lfun xsG (byReg 11 (tell (bodyOf Try.f104 0) (xsS0 n p t x y o m P) (.exit 1,xsS n p t x y o m P k L i)) (tell (bodyOf Try.f104 1) (xsT o m P k L) (.exit 3,xsT o m P k L))) 60 Try.f104 [qV ⟨1,n,p,t,x,y,[]⟩ (.sl 0 0 m)] [rowP o m P]).go [true,false] =
 some
  ([true,!decide (((m:Nat):Int)>(100:Int)),true,true,true,yes (wasS (bodyOf Try.f104 0) (xsS0 n p t x y o m P)),!((0:Int)==p&&((0:Int)==t&&true)),true,
    true,true,true,true,true,true,true,true,true,true,true,true,true,true,true,true,true,true,
    true,true,true,true,true],
   AV.tup [AV.c (AC.v (Value.slice none 0 0)),Bo false],
   [some
     {t:=121,own:=o,
      c:=
       Cont.row 5 m fun j=>
        [Value.int IntKind.i64 (P j).k,Value.int IntKind.i64 (P j).i,Value.int IntKind.i64 (P j).a,
         Value.int IntKind.i64 (P j).b,Value.string (P j).s] }]):=by kernel_rfl
theorem xb_c2 {n p t x y i:Int}{o:Bool}{m k:Nat}{P:Nat->Opp}{L:List Int}:(lfun xsG (byReg 11 (tell (bodyOf Try.f104 0) (xsS0 n p t x y o m P) (.exit 1,xsS n p t x y o m P k L i)) (tell (bodyOf Try.f104 1) (xsT o m P k L) (.exit 3,xsT o m P k L))) 60 Try.f104 [qV ⟨1,n,p,t,x,y,[]⟩ (.sl 0 0 m)] [rowP o m P]).go (dN 12 61) =
 some
  ([true,!decide (((m:Nat):Int)>(100:Int)),true,true,true,yes (wasS (bodyOf Try.f104 0) (xsS0 n p t x y o m P)),!!((0:Int)==p&&((0:Int)==t&&true)),
    true,true,true,true,true,(0:Int) != n,true,true,true,true,true,true,true,true,true,true,true,
    true,true,true,true,true,true,true],
   AV.tup [AV.c (AC.v (Value.slice none 0 0)),Bo false],
   [some
     {t:=121,own:=o,
      c:=
       Cont.row 5 m fun j=>
        [Value.int IntKind.i64 (P j).k,Value.int IntKind.i64 (P j).i,Value.int IntKind.i64 (P j).a,
         Value.int IntKind.i64 (P j).b,Value.string (P j).s] }]):=by kernel_rfl
theorem xb_c3 {n p t x y i:Int}{o:Bool}{m k:Nat}{P:Nat->Opp}{L:List Int}:(lfun xsG (byReg 11 (tell (bodyOf Try.f104 0) (xsS0 n p t x y o m P) (.exit 1,xsS n p t x y o m P k L i)) (tell (bodyOf Try.f104 1) (xsT o m P k L) (.exit 3,xsT o m P k L))) 60 Try.f104 [qV ⟨1,n,p,t,x,y,[]⟩ (.sl 0 0 m)] [rowP o m P]).go (dN 18 61) =
 some
  ([true,!decide (((m:Nat):Int)>(100:Int)),true,true,true,yes (wasS (bodyOf Try.f104 0) (xsS0 n p t x y o m P)),!!((0:Int)==p&&((0:Int)==t&&true)),
    true,true,true,true,true,!(0:Int) != n,true,true,true,true,true,(0:Int) != x,true,true,true,
    true,true,true,true,true,true,true,true,true],
   AV.tup [AV.c (AC.v (Value.slice none 0 0)),Bo false],
   [some
     {t:=121,own:=o,
      c:=
       Cont.row 5 m fun j=>
        [Value.int IntKind.i64 (P j).k,Value.int IntKind.i64 (P j).i,Value.int IntKind.i64 (P j).a,
         Value.int IntKind.i64 (P j).b,Value.string (P j).s] }]):=by kernel_rfl
theorem xb_c4 {n p t x y i:Int}{o:Bool}{m k:Nat}{P:Nat->Opp}{L:List Int}:(lfun xsG (byReg 11 (tell (bodyOf Try.f104 0) (xsS0 n p t x y o m P) (.exit 1,xsS n p t x y o m P k L i)) (tell (bodyOf Try.f104 1) (xsT o m P k L) (.exit 3,xsT o m P k L))) 60 Try.f104 [qV ⟨1,n,p,t,x,y,[]⟩ (.sl 0 0 m)] [rowP o m P]).go (dN 24 61) =
 some
  ([true,!decide (((m:Nat):Int)>(100:Int)),true,true,true,yes (wasS (bodyOf Try.f104 0) (xsS0 n p t x y o m P)),!!((0:Int)==p&&((0:Int)==t&&true)),
    true,true,true,true,true,!(0:Int) != n,true,true,true,true,true,!(0:Int) != x,true,true,true,
    true,true,(0:Int) != y,true,true,true,true,true,true],
   AV.tup [AV.c (AC.v (Value.slice none 0 0)),Bo false],
   [some
     {t:=121,own:=o,
      c:=
       Cont.row 5 m fun j=>
        [Value.int IntKind.i64 (P j).k,Value.int IntKind.i64 (P j).i,Value.int IntKind.i64 (P j).a,
         Value.int IntKind.i64 (P j).b,Value.string (P j).s] }]):=by kernel_rfl
end
section
open Go Go.RowKit
theorem xs_loop_f {n p t x y:Int}{o:Bool}{m:Nat}{P:Nat->Opp}{L:List Int}{N:Nat}(hm:m<=100) (hN:N<m) (hbad:¬ opOk (P N)=true) (h:∀ j,j<N->opOk (P j)=true) (hl:L.length+2015*m<=maxCells) :
  CodeSem xsG 1 (.loop (bodyOf Try.f104 0)) (xsS n p t x y o m P L.length L 0) (.ret,xsS n p t x y o m P (L++(opsP P N).flatMap opB).length (L++(opsP P N).flatMap opB) (N:Nat)):=by
 have hlen:∀ j,j<=N->((opsP P j).flatMap opB).length<=2015*j:=by
  intro j
  induction j with
  | zero=>intro _;simp [opsP]
  | succ j ih=>
   intro hj
   have e:opsP P (j+1)=opsP P j++[P j]:=by simp [opsP,List.range_succ]
   have h1:=ih (by omega)
   have h2:=(opOk_parts (h j (by omega))).2.2.2.2
   rw [e,List.flatMap_append,List.length_append,List.flatMap_singleton,opB_len]
   omega
 have h00:L=L++(opsP P 0).flatMap opB:=by simp [opsP]
 have key:=loop_of (G:=xsG) (n0:=1) (b:=bodyOf Try.f104 0) (fun j=>xsS n p t x y o m P (L++(opsP P j).flatMap opB).length (L++(opsP P j).flatMap opB) (j:Nat)) N (e:=.ret) (Se:=xsS n p t x y o m P (L++(opsP P N).flatMap opB).length (L++(opsP P N).flatMap opB) (N:Nat)) (by simp) ?_ fun j hj=>?_
 ·have e0:xsS n p t x y o m P (L++(opsP P 0).flatMap opB).length (L++(opsP P 0).flatMap opB) ((0:Nat):Int)=xsS n p t x y o m P L.length L 0:=by rw [<-h00];rfl
  rw [e0] at key
  exact key
 ·exact xs_stop hN hbad
 ·have e:opsP P (j+1)=opsP P j++[P j]:=by simp [opsP,List.range_succ]
  have h2:=(opOk_parts (h j hj)).2.2.2.2
  have h1:=hlen j (by omega)
  have hr:=xs_round (n:=n) (p:=p) (t:=t) (x:=x) (y:=y) (o:=o) (L:=L++(opsP P j).flatMap opB) (show j<m by omega) hm (h j hj) (by rw [List.length_append];omega)
  rw [e,List.flatMap_append,List.flatMap_singleton,<-List.append_assoc]
  exact hr
theorem okn1 {n p t x y:Int}{o:List Opp}:reqOk ⟨1,n,p,t,x,y,o⟩ ↔ (p=0/\t=0/\n=0/\x=0/\y=0/\o.length<=100/\o.all opOk=true):=by
 constructor
 ·rintro ⟨g,h⟩
  have g':(decide (o.length<=100)&&o.all opOk)=true:=g
  rw [Bool.and_eq_true,decide_eq_true_eq] at g'
  have h':(⟨1,0,0,0,0,0,o⟩:Qd)=⟨1,n,p,t,x,y,o⟩:=h
  cases h'
  exact ⟨rfl,rfl,rfl,rfl,rfl,g'.1,g'.2⟩
 ·rintro ⟨rfl,rfl,rfl,rfl,rfl,h1,h2⟩
  refine ⟨?_,rfl⟩
  show (decide (o.length<=100)&&o.all opOk)=true
  rw [decide_eq_true h1,h2];rfl
end
section
open Go Go.RowKit
theorem reqB_1 (n p t x y:Int) (m:Nat) (P:Nat->Opp):reqB ⟨1,n,p,t,x,y,opsP P m⟩=[by8 1,by8 (m:Nat)]++(opsP P m).flatMap opB:=by
 show by8 1::(by8 ((opsP P m).length:Nat)::(opsP P m).flatMap opB)=_
 rw [opsP_len];rfl
theorem xrS_1 {n p t x y:Int}{o:Bool}{m:Nat}{P:Nat->Opp}:∃ ℓ,LoopsSem xsG 1 ℓ/\(lfun xsG ℓ 60 Try.f104 [qV ⟨1,n,p,t,x,y,opsP P m⟩ (.sl 0 0 m)] [rowP o m P]).eval=some (xrO 1 [rowP o m P] ⟨1,n,p,t,x,y,opsP P m⟩):=by
 have hMx:2+2015*100<=maxCells:=by unfold maxCells;omega
 by_cases hm:m>100
 ·refine ⟨nol,noLoopsS,(Tr.go_eval (xb_big (n:=n) (p:=p) (t:=t) (x:=x) (y:=y) (o:=o) (m:=m) (P:=P)) ?_).trans ?_⟩
  ·repeat' (first|exact AllT.nil|refine AllT.cons ?_ ?_)
   all_goals first|(with_reducible rfl)|exact decide_eq_true (by omega)
  ·unfold xrO
   rw [if_neg fun h=>by have:=(okn1.1 h).2.2.2.2.2.1;rw [opsP_len] at this;omega]
   rfl
 rcases first_diff (fun j=>opOk (P j)=true) m with hok | ⟨N,hN,hbad,hp⟩
 ·have hl:CodeSem xsG 1 (.loop (bodyOf Try.f104 0)) (xsS0 n p t x y o m P) (.exit 1,xsS n p t x y o m P ([by8 1,by8 (m:Nat)]++(opsP P m).flatMap opB).length ([by8 1,by8 (m:Nat)]++(opsP P m).flatMap opB) (m:Nat)):=by
   rw [xsS0_eq];exact xs_loop_t (L:=[by8 1,by8 (m:Nat)]) (by omega) hok (by simp only [List.length_cons,List.length_nil];omega)
  have hl2:CodeSem xsG 1 (.loop (bodyOf Try.f104 1)) (xsT o m P ([by8 1,by8 (m:Nat)]++(opsP P m).flatMap opB).length ([by8 1,by8 (m:Nat)]++(opsP P m).flatMap opB)) (.exit 3,xsT o m P ([by8 1,by8 (m:Nat)]++(opsP P m).flatMap opB).length ([by8 1,by8 (m:Nat)]++(opsP P m).flatMap opB)):=by
   refine (LoopR.stop (by simp) (rT_sem xsG_ok noLoopsS ((rT_go xt_e ?_).trans rfl))).sem
   repeat' (first|exact AllT.nil|refine AllT.cons ?_ ?_)
   all_goals rfl
  refine ⟨_,byReg_sem (r:=11) (tell_ok hl) (tell_ok hl2),?_⟩
  have hall:(opsP P m).all opOk=true:=by
   rw [List.all_eq_true]
   intro q hq
   obtain ⟨j,hj,rfl⟩:=List.mem_map.1 hq
   exact hok j (List.mem_range.1 hj)
  have hno:∀ {z:Prop},(z->reqOk ⟨1,n,p,t,x,y,opsP P m⟩)->True:=fun _=>trivial
  by_cases c1:p=0/\t=0
  ·by_cases c2:n=0
   ·by_cases c3:x=0
    ·by_cases c4:y=0
     ·have hr:reqOk ⟨1,n,p,t,x,y,opsP P m⟩:=okn1.2 ⟨c1.1,c1.2,c2,c3,c4,by rw [opsP_len];omega,hall⟩
      refine (Tr.go_eval (xb_t (n:=n) (p:=p) (t:=t) (x:=x) (y:=y) (o:=o) (m:=m) (P:=P)) ?_).trans ?_
      ·obtain ⟨rfl,rfl⟩:=c1
       subst c2;subst c3;subst c4
       repeat' (first|exact AllT.nil|refine AllT.cons ?_ ?_)
       all_goals first|(with_reducible rfl)|exact yes_of ⟨rfl,rfl⟩|exact not_eq (decide_eq_false (by omega))|rfl
      ·unfold xrO
       rw [if_pos hr,reqB_1];rfl
     ·refine (Tr.go_eval (xb_c4 (n:=n) (p:=p) (t:=t) (x:=x) (y:=y) (o:=o) (m:=m) (P:=P)) ?_).trans ?_
      ·obtain ⟨rfl,rfl⟩:=c1
       subst c2;subst c3
       repeat' (first|exact AllT.nil|refine AllT.cons ?_ ?_)
       all_goals first|(with_reducible rfl)|exact yes_of ⟨rfl,rfl⟩|exact not_eq (decide_eq_false (by omega))|exact bne_iff_ne.2 (Ne.symm c4)|rfl
      ·unfold xrO;rw [if_neg fun h=>c4 (okn1.1 h).2.2.2.2.1];rfl
    ·refine (Tr.go_eval (xb_c3 (n:=n) (p:=p) (t:=t) (x:=x) (y:=y) (o:=o) (m:=m) (P:=P)) ?_).trans ?_
     ·obtain ⟨rfl,rfl⟩:=c1
      subst c2
      repeat' (first|exact AllT.nil|refine AllT.cons ?_ ?_)
      all_goals first|(with_reducible rfl)|exact yes_of ⟨rfl,rfl⟩|exact not_eq (decide_eq_false (by omega))|exact bne_iff_ne.2 (Ne.symm c3)|rfl
     ·unfold xrO;rw [if_neg fun h=>c3 (okn1.1 h).2.2.2.1];rfl
   ·refine (Tr.go_eval (xb_c2 (n:=n) (p:=p) (t:=t) (x:=x) (y:=y) (o:=o) (m:=m) (P:=P)) ?_).trans ?_
    ·obtain ⟨rfl,rfl⟩:=c1
     repeat' (first|exact AllT.nil|refine AllT.cons ?_ ?_)
     all_goals first|(with_reducible rfl)|exact yes_of ⟨rfl,rfl⟩|exact not_eq (decide_eq_false (by omega))|exact bne_iff_ne.2 (Ne.symm c2)|rfl
    ·unfold xrO;rw [if_neg fun h=>c2 (okn1.1 h).2.2.1];rfl
  ·refine (Tr.go_eval (xb_c1 (n:=n) (p:=p) (t:=t) (x:=x) (y:=y) (o:=o) (m:=m) (P:=P)) ?_).trans ?_
   ·have hb:(!((0:Int)==p&&((0:Int)==t&&true)))=true:=by
     rw [<-Bool.not_eq_false];exact fun h=>c1 (pt0.1 h)
    repeat' (first|exact AllT.nil|refine AllT.cons ?_ ?_)
    all_goals first|(with_reducible rfl)|exact yes_of ⟨rfl,rfl⟩|exact not_eq (decide_eq_false (by omega))|exact hb
   ·unfold xrO;rw [if_neg fun h=>c1 ⟨(okn1.1 h).1,(okn1.1 h).2.1⟩];rfl
 ·have hl:CodeSem xsG 1 (.loop (bodyOf Try.f104 0)) (xsS0 n p t x y o m P) (.ret,xsS n p t x y o m P ([by8 1,by8 (m:Nat)]++(opsP P N).flatMap opB).length ([by8 1,by8 (m:Nat)]++(opsP P N).flatMap opB) (N:Nat)):=by
   rw [xsS0_eq];exact xs_loop_f (L:=[by8 1,by8 (m:Nat)]) (by omega) hN hbad hp (by simp only [List.length_cons,List.length_nil];omega)
  refine ⟨_,tell_ok hl,(Tr.go_eval (xb_r (n:=n) (p:=p) (t:=t) (x:=x) (y:=y) (o:=o) (m:=m) (P:=P)) ?_).trans ?_⟩
  ·repeat' (first|exact AllT.nil|refine AllT.cons ?_ ?_)
   all_goals first|(with_reducible rfl)|exact yes_of ⟨rfl,rfl⟩|exact not_eq (decide_eq_false (by omega))
  ·unfold xrO
   rw [if_neg fun h=>by
    have ha:=(okn1.1 h).2.2.2.2.2.2
    rw [List.all_eq_true] at ha
    exact hbad (ha (P N) (List.mem_map.2 ⟨N,List.mem_range.2 hN,rfl⟩))]
   rfl
end
section
open Go Go.RowKit
def xsRw0:Option ABlk:=some ⟨5,true,.row 1 2 (updL (fun i=>[[Value.int .u8 (IntKind.u8.wrap 1)]].getD i [Value.int .u8 0]) 1 [[Value.int .u8 (IntKind.u8.wrap ((0:Nat):Int))]])⟩
def xsNs (n p t x y:Int) (r:Option ABlk):St:=
 ⟨slots 224 [(1,.c (.ptr 0 0 0)),(2,.c (.v (.slice none 0 0))),(3,Bo false),(4,.c (.sl 1 0 2)),(5,.c (.ptr 2 0 0)),(6,.c (.v (.slice none 0 0))),(7,I64 0),(18,I64 1)],[some ⟨128,true,.one [i64 1,i64 n,i64 p,i64 t,i64 x,i64 y,.v (.slice none 0 0)]⟩,r,bxE]⟩
def xsNT (L:List Int):St:=⟨slots 224 [(4,.c (.sl 0 0 2)),(6,.c (.v (.slice none 0 0))),(9,I64 0)],[rowU true 2 (gL L)]⟩
theorem xsRw0_eq:xsRw0=rowU true 2 (gL [by8 1,by8 ((0:Nat):Int)]):=by
 have e:updL (fun i=>[[Value.int .u8 (IntKind.u8.wrap 1)]].getD i [Value.int .u8 0]) 1 [[Value.int .u8 (IntKind.u8.wrap ((0:Nat):Int))]]=fun j=>ub (gL [by8 1,by8 ((0:Nat):Int)] j):=by
  rw [lst1_eq,upd_gL _ 1 rfl,wrap_by8,wrap_by8];rfl
 unfold xsRw0
 rw [e];rfl
theorem xsn_e {n p t x y:Int}{L:List Int}:(rT xsG nol 0 45 (bodyOf Try.f104 0) xsK xsK (xsNs n p t x y (rowU true 2 (gL L)))).go [false] =
 some
  ([true],Ex.exit 1,
   {
    sl:=
     slots 224
      [(1,AV.c (AC.ptr 0 0 0)),
       (2,AV.c (AC.v (Value.slice none 0 0))),(3,Bo false),
       (4,AV.c (AC.sl 1 0 2)),
       (5,AV.c (AC.ptr 2 0 0)),
       (6,AV.c (AC.v (Value.slice none 0 0))),(7,I64 (0:Int)),
       (18,I64 (1:Int))],
    h:=
     [some
       {t:=128,own:=true,
        c:=
         Cont.one
          [i64 (1:Int),i64 n,i64 p,i64 t,i64 x,i64 y,AC.v (Value.slice none 0 0)] },
      some
       {t:=5,own:=true,
        c:=Cont.row 1 2 fun j=>[Value.int IntKind.u8 (gL L j)] },
      some
       {t:=128,own:=true,
        c:=
         Cont.one
          [i64 (1:Int),i64 (0:Int),i64 (0:Int),i64 (0:Int),i64 (0:Int),i64 (0:Int),
           AC.v (Value.slice none 0 0)] }] }):=by kernel_rfl
theorem xtn_e {L:List Int}:(rT xsG nol 0 50 (bodyOf Try.f104 1) xsK2 xsK2 (xsNT L)).go [false] =
 some
  ([true],Ex.exit 3,
   {
    sl:=
     slots 224
      [(4,AV.c (AC.sl 0 0 2)),
       (6,AV.c (AC.v (Value.slice none 0 0))),(9,I64 (0:Int))],
    h:=
     [some
       {t:=5,own:=true,
        c:=Cont.row 1 2 fun j=>[Value.int IntKind.u8 (gL L j)] }] }):=by kernel_rfl
theorem xbn_t {n p t x y:Int}{L:List Int}:(lfun xsG (byReg 11 (tell (bodyOf Try.f104 0) (xsNs n p t x y xsRw0) (.exit 1,xsNs n p t x y (rowU true 2 (gL L)))) (tell (bodyOf Try.f104 1) (xsNT L) (.exit 3,xsNT L))) 60 Try.f104 [qV ⟨1,n,p,t,x,y,[]⟩ (.v (.slice none 0 0))] []).go (dN 36 61) =
 some
  ([true,true,true,true,true,yes (wasS (bodyOf Try.f104 0) (xsNs n p t x y xsRw0)),!!((0:Int)==p&&((0:Int)==t&&true)),true,true,true,true,
    true,!(0:Int) != n,true,true,true,true,true,!(0:Int) != x,true,true,true,true,true,
    !(0:Int) != y,true,true,true,true,true,true,true,true,true,true,true,yes (wasS (bodyOf Try.f104 1) (xsNT L))],
   AV.tup [AV.c (AC.sl 0 0 2),Bo true],
   [some
     {t:=5,own:=true,c:=Cont.row 1 2 fun j=>[Value.int IntKind.u8 (gL L j)] }]):=by kernel_rfl
theorem xbn_c1 {n p t x y:Int}{L:List Int}:(lfun xsG (byReg 11 (tell (bodyOf Try.f104 0) (xsNs n p t x y xsRw0) (.exit 1,xsNs n p t x y (rowU true 2 (gL L)))) (tell (bodyOf Try.f104 1) (xsNT L) (.exit 3,xsNT L))) 60 Try.f104 [qV ⟨1,n,p,t,x,y,[]⟩ (.v (.slice none 0 0))] []).go [true,false] =
 some
  ([true,true,true,true,true,yes (wasS (bodyOf Try.f104 0) (xsNs n p t x y xsRw0)),!((0:Int)==p&&((0:Int)==t&&true)),true,true,true,true,
    true,true,true,true,true,true,true,true,true,true,true,true,true,true,true,true,true,true,
    true,true],
   AV.tup [AV.c (AC.v (Value.slice none 0 0)),Bo false],[]):=by kernel_rfl
theorem xbn_c2 {n p t x y:Int}{L:List Int}:(lfun xsG (byReg 11 (tell (bodyOf Try.f104 0) (xsNs n p t x y xsRw0) (.exit 1,xsNs n p t x y (rowU true 2 (gL L)))) (tell (bodyOf Try.f104 1) (xsNT L) (.exit 3,xsNT L))) 60 Try.f104 [qV ⟨1,n,p,t,x,y,[]⟩ (.v (.slice none 0 0))] []).go (dN 12 61) =
 some
  ([true,true,true,true,true,yes (wasS (bodyOf Try.f104 0) (xsNs n p t x y xsRw0)),!!((0:Int)==p&&((0:Int)==t&&true)),true,true,true,true,
    true,(0:Int) != n,true,true,true,true,true,true,true,true,true,true,true,true,true,true,true,
    true,true,true],
   AV.tup [AV.c (AC.v (Value.slice none 0 0)),Bo false],[]):=by kernel_rfl
theorem xbn_c3 {n p t x y:Int}{L:List Int}:(lfun xsG (byReg 11 (tell (bodyOf Try.f104 0) (xsNs n p t x y xsRw0) (.exit 1,xsNs n p t x y (rowU true 2 (gL L)))) (tell (bodyOf Try.f104 1) (xsNT L) (.exit 3,xsNT L))) 60 Try.f104 [qV ⟨1,n,p,t,x,y,[]⟩ (.v (.slice none 0 0))] []).go (dN 18 61) =
 some
  ([true,true,true,true,true,yes (wasS (bodyOf Try.f104 0) (xsNs n p t x y xsRw0)),!!((0:Int)==p&&((0:Int)==t&&true)),true,true,true,true,
    true,!(0:Int) != n,true,true,true,true,true,(0:Int) != x,true,true,true,true,true,true,true,
    true,true,true,true,true],
   AV.tup [AV.c (AC.v (Value.slice none 0 0)),Bo false],[]):=by kernel_rfl
theorem xbn_c4 {n p t x y:Int}{L:List Int}:(lfun xsG (byReg 11 (tell (bodyOf Try.f104 0) (xsNs n p t x y xsRw0) (.exit 1,xsNs n p t x y (rowU true 2 (gL L)))) (tell (bodyOf Try.f104 1) (xsNT L) (.exit 3,xsNT L))) 60 Try.f104 [qV ⟨1,n,p,t,x,y,[]⟩ (.v (.slice none 0 0))] []).go (dN 24 61) =
 some
  ([true,true,true,true,true,yes (wasS (bodyOf Try.f104 0) (xsNs n p t x y xsRw0)),!!((0:Int)==p&&((0:Int)==t&&true)),true,true,true,true,
    true,!(0:Int) != n,true,true,true,true,true,!(0:Int) != x,true,true,true,true,true,
    (0:Int) != y,true,true,true,true,true,true],
   AV.tup [AV.c (AC.v (Value.slice none 0 0)),Bo false],[]):=by kernel_rfl
end
section
open Go Go.RowKit
theorem xrN_1 {n p t x y:Int}:∃ ℓ,LoopsSem xsG 0 ℓ/\(lfun xsG ℓ 60 Try.f104 [qV ⟨1,n,p,t,x,y,[]⟩ (.v (.slice none 0 0))] []).eval=some (xrO 0 [] ⟨1,n,p,t,x,y,[]⟩):=by
 have hl:CodeSem xsG 0 (.loop (bodyOf Try.f104 0)) (xsNs n p t x y xsRw0) (.exit 1,xsNs n p t x y (rowU true 2 (gL [by8 1,by8 ((0:Nat):Int)]))):=by
  rw [xsRw0_eq]
  refine (LoopR.stop (by simp) (rT_sem xsG_ok noLoopsS ((rT_go xsn_e ?_).trans rfl))).sem
  repeat' (first|exact AllT.nil|refine AllT.cons ?_ ?_)
  all_goals rfl
 have hl2:CodeSem xsG 0 (.loop (bodyOf Try.f104 1)) (xsNT [by8 1,by8 ((0:Nat):Int)]) (.exit 3,xsNT [by8 1,by8 ((0:Nat):Int)]):=by
  refine (LoopR.stop (by simp) (rT_sem xsG_ok noLoopsS ((rT_go xtn_e ?_).trans rfl))).sem
  repeat' (first|exact AllT.nil|refine AllT.cons ?_ ?_)
  all_goals rfl
 refine ⟨_,byReg_sem (r:=11) (tell_ok hl) (tell_ok hl2),?_⟩
 by_cases c1:p=0/\t=0
 ·by_cases c2:n=0
  ·by_cases c3:x=0
   ·by_cases c4:y=0
    ·have hr:reqOk ⟨1,n,p,t,x,y,[]⟩:=okn1.2 ⟨c1.1,c1.2,c2,c3,c4,by simp,rfl⟩
     refine (Tr.go_eval (xbn_t (n:=n) (p:=p) (t:=t) (x:=x) (y:=y)) ?_).trans ?_
     ·obtain ⟨rfl,rfl⟩:=c1
      subst c2;subst c3;subst c4
      repeat' (first|exact AllT.nil|refine AllT.cons ?_ ?_)
      all_goals first|(with_reducible rfl)|exact yes_of ⟨rfl,rfl⟩|rfl
     ·unfold xrO
      rw [if_pos hr];rfl
    ·refine (Tr.go_eval (xbn_c4 (n:=n) (p:=p) (t:=t) (x:=x) (y:=y)) ?_).trans ?_
     ·obtain ⟨rfl,rfl⟩:=c1
      subst c2;subst c3
      repeat' (first|exact AllT.nil|refine AllT.cons ?_ ?_)
      all_goals first|(with_reducible rfl)|exact yes_of ⟨rfl,rfl⟩|exact bne_iff_ne.2 (Ne.symm c4)|rfl
     ·unfold xrO;rw [if_neg fun h=>c4 (okn1.1 h).2.2.2.2.1]
   ·refine (Tr.go_eval (xbn_c3 (n:=n) (p:=p) (t:=t) (x:=x) (y:=y)) ?_).trans ?_
    ·obtain ⟨rfl,rfl⟩:=c1
     subst c2
     repeat' (first|exact AllT.nil|refine AllT.cons ?_ ?_)
     all_goals first|(with_reducible rfl)|exact yes_of ⟨rfl,rfl⟩|exact bne_iff_ne.2 (Ne.symm c3)|rfl
    ·unfold xrO;rw [if_neg fun h=>c3 (okn1.1 h).2.2.2.1]
  ·refine (Tr.go_eval (xbn_c2 (n:=n) (p:=p) (t:=t) (x:=x) (y:=y)) ?_).trans ?_
   ·obtain ⟨rfl,rfl⟩:=c1
    repeat' (first|exact AllT.nil|refine AllT.cons ?_ ?_)
    all_goals first|(with_reducible rfl)|exact yes_of ⟨rfl,rfl⟩|exact bne_iff_ne.2 (Ne.symm c2)|rfl
   ·unfold xrO;rw [if_neg fun h=>c2 (okn1.1 h).2.2.1]
 ·refine (Tr.go_eval (xbn_c1 (n:=n) (p:=p) (t:=t) (x:=x) (y:=y)) ?_).trans ?_
  ·have hb:(!((0:Int)==p&&((0:Int)==t&&true)))=true:=by
    rw [<-Bool.not_eq_false];exact fun h=>c1 (pt0.1 h)
   repeat' (first|exact AllT.nil|refine AllT.cons ?_ ?_)
   all_goals first|(with_reducible rfl)|exact yes_of ⟨rfl,rfl⟩|exact hb
  ·unfold xrO;rw [if_neg fun h=>c1 ⟨(okn1.1 h).1,(okn1.1 h).2.1⟩]
end
section
open Go Go.RowKit
theorem wr_no {q:Qd}(h1:q.k ≠ 1) (h2:q.k ≠ 2) (h6:q.k ≠ 6) (h3:q.k ≠ 3) (h4:q.k ≠ 4) (h5:q.k ≠ 5):¬ reqOk q:=by
 rintro ⟨hw,_⟩
 unfold wrOk at hw
 rw [nb h1,nb h2,nb h6,nb h3,nb h4,nb h5] at hw
 exact Bool.false_ne_true hw
theorem xrN_all {k n p t x y:Int}(h1:k ≠ 1):(afun xrG 60 Try.f104 [qV ⟨k,n,p,t,x,y,[]⟩ (.v (.slice none 0 0))] []).eval=some (xrO 0 [] ⟨k,n,p,t,x,y,[]⟩):=by
 by_cases h2:k=2
 ·subst h2;exact xrN_2
 by_cases h6:k=6
 ·subst h6;exact xrN_6
 by_cases h3:k=3
 ·subst h3;exact xrN_3
 by_cases h4:k=4
 ·subst h4;exact xrN_4
 by_cases h5:k=5
 ·subst h5;exact xrN_5
 refine (Tr.go_eval (xr_nx (q:=⟨k,n,p,t,x,y,[]⟩)) ?_).trans ?_
 ·repeat' (first|exact AllT.nil|refine AllT.cons ?_ ?_)
  all_goals first|(with_reducible rfl)|exact not_eq (nb h1)|exact not_eq (nb h2)|exact not_eq (nb h6)|exact not_eq (nb h3)|exact not_eq (nb h4)|exact not_eq (nb h5)
 ·unfold xrO;rw [if_neg (wr_no (q:=⟨k,n,p,t,x,y,[]⟩) h1 h2 h6 h3 h4 h5)];all_goals rfl
theorem xrS_all {k n p t x y:Int}{o:Bool}{c m:Nat}{P:Nat->Opp}(h1:k ≠ 1):(afun xrG 60 Try.f104 [qV ⟨k,n,p,t,x,y,opsP P c⟩ (.sl 0 0 c)] [rowP o m P]).eval=some (xrO 1 [rowP o m P] ⟨k,n,p,t,x,y,opsP P c⟩):=by
 by_cases h2:k=2
 ·subst h2;exact xrS_2
 by_cases h6:k=6
 ·subst h6;exact xrS_6
 by_cases h3:k=3
 ·subst h3;exact xrS_3
 by_cases h4:k=4
 ·subst h4;exact xrS_4
 by_cases h5:k=5
 ·subst h5;exact xrS_5
 refine (Tr.go_eval (xr_sx (q:=⟨k,n,p,t,x,y,opsP P c⟩)) ?_).trans ?_
 ·repeat' (first|exact AllT.nil|refine AllT.cons ?_ ?_)
  all_goals first|(with_reducible rfl)|exact not_eq (nb h1)|exact not_eq (nb h2)|exact not_eq (nb h6)|exact not_eq (nb h3)|exact not_eq (nb h4)|exact not_eq (nb h5)
 ·unfold xrO;rw [if_neg (wr_no (q:=⟨k,n,p,t,x,y,opsP P c⟩) h1 h2 h6 h3 h4 h5)];all_goals rfl
noncomputable def xrF0:Spec:=fun args h=>match args,h with
 | [.agg [.v (.int .i64 k),.v (.int .i64 n),.v (.int .i64 p),.v (.int .i64 t),.v (.int .i64 x),.v (.int .i64 y),.v (.slice none 0 0)]],[]=>.ret (xrO 0 [] ⟨k,n,p,t,x,y,[]⟩)
 | [.agg [.v (.int .i64 k),.v (.int .i64 n),.v (.int .i64 p),.v (.int .i64 t),.v (.int .i64 x),.v (.int .i64 y),.sl 0 0 c]],[some ⟨121,o,.row 5 m f⟩]=>.need (yes ((f=fun j=>encO (decO (f j)))/\(k=1->c=m))) (.ret (xrO 1 [rowP o m fun j=>decO (f j)] ⟨k,n,p,t,x,y,opsP (fun j=>decO (f j)) c⟩))
 | _,_=>.fail
theorem xrF0_ok:SpecOk Try.prog 104 xrF0:=by
 intro B args h r H' he
 by_cases hk1:∃ k n p t x y s,args=[.agg [.v (.int .i64 k),.v (.int .i64 n),.v (.int .i64 p),.v (.int .i64 t),.v (.int .i64 x),.v (.int .i64 y),s]]/\k=1
 ·refine knownS KXR_ok Try.func104 (F:=fun a hh=>.need (yes (a=args/\hh=h)) (.ret (r,H'))) (fun a hh r' hr=>?_) B args h r H' (Tr.eval_ask.2 ⟨⟨rfl,rfl⟩,rfl⟩)
  obtain ⟨⟨ea,eh⟩,hr2⟩:=Tr.eval_ask.1 hr
  clear hr
  subst ea;subst eh
  cases hr2
  obtain ⟨k,n,p,t,x,y,s,ha,hk⟩:=hk1
  unfold xrF0 at he
  split at he
  ·rename_i k' n' p' t' x' y'
   cases ha
   subst hk
   obtain ⟨ℓ,h1,h2⟩:=xrN_1 (n:=n) (p:=p) (t:=t) (x:=x) (y:=y)
   exact ⟨_,[],60,ℓ,h1,h2.trans he⟩
  ·rename_i k' n' p' t' x' y' c o m f
   cases ha
   subst hk
   obtain ⟨⟨g1,g2⟩,he'⟩:=Tr.eval_ask.1 he
   have g3:=g2 rfl
   subst g3
   have e1:some ⟨121,o,.row 5 c f⟩=rowP o c fun j=>decO (f j):=by rw [rowP,<-g1]
   rw [e1]
   obtain ⟨ℓ,h1,h2⟩:=xrS_1 (n:=n) (p:=p) (t:=t) (x:=x) (y:=y) (o:=o) (m:=c) (P:=fun j=>decO (f j))
   exact ⟨_,[],60,ℓ,h1,h2.trans he'⟩
  ·cases he
 ·refine known' KXR_ok Try.func104 (F:=fun a hh=>.need (yes (a=args/\hh=h)) (.ret (r,H'))) (fun a hh r' hr=>?_) B args h r H' (Tr.eval_ask.2 ⟨⟨rfl,rfl⟩,rfl⟩)
  obtain ⟨⟨ea,eh⟩,hr2⟩:=Tr.eval_ask.1 hr
  clear hr
  subst ea;subst eh
  cases hr2
  unfold xrF0 at he
  split at he
  ·rename_i k n p t x y
   exact ⟨_,_,_,(xrN_all fun hk=>hk1 ⟨k,n,p,t,x,y,_,rfl,hk⟩).trans he⟩
  ·rename_i k n p t x y c o m f
   obtain ⟨⟨g1,g2⟩,he'⟩:=Tr.eval_ask.1 he
   have e1:some ⟨121,o,.row 5 m f⟩=rowP o m fun j=>decO (f j):=by rw [rowP,<-g1]
   rw [e1]
   exact ⟨_,_,_,(xrS_all fun hk=>hk1 ⟨k,n,p,t,x,y,_,rfl,hk⟩).trans he'⟩
  ·cases he
end
section
open Go Go.RowKit
theorem one_same {q:Qd}(h:q.k=2\/q.k=6):SameB (some ⟨5,true,.lst 1 [[.v (.int .u8 (IntKind.u8.wrap q.k))]] [.v (.int .u8 0)]⟩) (rowU true (reqB q).length (gL (reqB q))):=by
 have e:reqB q=[IntKind.u8.wrap q.k]:=by
  unfold reqB
  rw [wrap_by8]
  rcases h with h|h <;> rw [h] <;> rfl
 rw [e]
 exact (lstU_same (own:=true) (l:=[[.v (.int .u8 (IntKind.u8.wrap q.k))]]) (xs:=[IntKind.u8.wrap q.k]) (z:=[.v (.int .u8 0)]) rfl).symm
theorem blk_same (q:Qd):SameB (bif q.k==2||q.k==6 then some ⟨5,true,.lst 1 [[.v (.int .u8 (IntKind.u8.wrap q.k))]] [.v (.int .u8 0)]⟩ else rowU true (reqB q).length (gL (reqB q))) (rowU true (reqB q).length (gL (reqB q))):=by
 by_cases h:q.k=2\/q.k=6
 ·have hb:(q.k==2||q.k==6)=true:=by
   rcases h with h|h <;> rw [h] <;> rfl
  rw [hb]
  exact one_same h
 ·have hb:(q.k==2||q.k==6)=false:=by
   rw [nb fun e=>h (.inl e),nb fun e=>h (.inr e)];rfl
  rw [hb]
  exact SameB.refl _
theorem xrF_ok:SpecOk Try.prog 104 reF0:=by
 refine SpecOk.same xrF0_ok fun args h r H' he=>?_
 unfold reF0 at he
 split at he
 ·rename_i k n p t x y
  by_cases hr:reqOk ⟨k,n,p,t,x,y,[]⟩
  ·rw [yes_of hr] at he
   cases he
   exact ⟨[],_,.nil,.cons (blk_same ⟨k,n,p,t,x,y,[]⟩) .nil,(show some (xrO 0 [] ⟨k,n,p,t,x,y,[]⟩)=_ by unfold xrO;rw [if_pos hr];rfl)⟩
  ·rw [yes_no hr] at he
   cases he
   exact ⟨[],[],.nil,.nil,(show some (xrO 0 [] ⟨k,n,p,t,x,y,[]⟩)=_ by unfold xrO;rw [if_neg hr])⟩
 ·rename_i k n p t x y c o m f
  obtain ⟨⟨h1,h2⟩,he'⟩:=Tr.eval_ask.1 he
  by_cases hr:reqOk ⟨k,n,p,t,x,y,opsP (fun j=>decO (f j)) c⟩
  ·rw [yes_of hr] at he'
   cases he'
   refine ⟨_,_,SameH.refl _,.cons (SameB.refl _) (.cons (blk_same ⟨k,n,p,t,x,y,opsP (fun j=>decO (f j)) c⟩) .nil),?_⟩
   refine Tr.eval_ask.2 ⟨⟨h1,fun e=>(h2 e).1⟩,?_⟩
   show some (xrO 1 _ _)=_
   unfold xrO;rw [if_pos hr];rfl
  ·rw [yes_no hr] at he'
   cases he'
   refine ⟨_,_,SameH.refl _,SameH.refl _,?_⟩
   refine Tr.eval_ask.2 ⟨⟨h1,fun e=>(h2 e).1⟩,?_⟩
   show some (xrO 1 _ _)=_
   unfold xrO;rw [if_neg hr]
 ·cases he
end
section
open Go Go.RowKit
noncomputable def KLQ:Known:=[(100,osF)]
theorem KLQ_ok:KnownOk KLQ:=consK osF_ok (by kernel_rfl) nilK
noncomputable def lqG:Ctx2:=GT KLQ (fun _=>[]) 0 []
theorem lq_t1 {own:Bool}{n:Int}{K:Nat}{f:Nat->Int}:(lfun lqG nol 60 Try.f112 [I64 n,.c (.sl 0 0 K)] [rowJ own K f]).go []=some ([true,decide ((0:Int)<=(and64 n 255).tmod 10),decide ((and64 n 255).tmod 10<((10:Nat):Int)),decide (0+((and64 n 255).tmod 10).toNat<10),true,true,decide (w64 (and64 (n.fdiv (2^min 8 IntKind.i64.bits)) 3-(1:Int))<(0:Int)),[(1:Int),(1:Int),(1:Int),(2:Int),(3:Int),(4:Int),(5:Int),(6:Int),(4:Int),(5:Int)].getD (0+((and64 n 255).tmod 10).toNat) (0:Int)==(1:Int),yes (0+K<=K/\(fun j=>v1 (f j))=fun j=>v1 (vd (v1 (f j))))],.agg [i64 ([(1:Int),(1:Int),(1:Int),(2:Int),(3:Int),(4:Int),(5:Int),(6:Int),(4:Int),(5:Int)].getD (0+((and64 n 255).tmod 10).toNat) (0:Int)),i64 0,i64 0,i64 0,i64 0,i64 0,.sl 1 0 (osN K)],[some ⟨2,own,.row 1 K fun j=>[.int .i64 (f j)]⟩,some ⟨121,true,.row 5 (osN K) fun j=>[.int .i64 (opsL (fun j=>vd (v1 (f (0+j)))) (osN K) j).k,.int .i64 (opsL (fun j=>vd (v1 (f (0+j)))) (osN K) j).i,.int .i64 (opsL (fun j=>vd (v1 (f (0+j)))) (osN K) j).a,.int .i64 (opsL (fun j=>vd (v1 (f (0+j)))) (osN K) j).b,.string (opsL (fun j=>vd (v1 (f (0+j)))) (osN K) j).s]⟩]):=by kernel_rfl
theorem lq_t3 {own:Bool}{n:Int}{K:Nat}{f:Nat->Int}:(lfun lqG nol 60 Try.f112 [I64 n,.c (.sl 0 0 K)] [rowJ own K f]).go (dN 8 127)=some ([true,decide ((0:Int)<=(and64 n 255).tmod 10),decide ((and64 n 255).tmod 10<((10:Nat):Int)),decide (0+((and64 n 255).tmod 10).toNat<10),true,true,decide (w64 (and64 (n.fdiv (2^min 8 IntKind.i64.bits)) 3-(1:Int))<(0:Int)),![(1:Int),(1:Int),(1:Int),(2:Int),(3:Int),(4:Int),(5:Int),(6:Int),(4:Int),(5:Int)].getD (0+((and64 n 255).tmod 10).toNat) (0:Int)==(1:Int),[(1:Int),(1:Int),(1:Int),(2:Int),(3:Int),(4:Int),(5:Int),(6:Int),(4:Int),(5:Int)].getD (0+((and64 n 255).tmod 10).toNat) (0:Int)==(3:Int)],.agg [i64 ([(1:Int),(1:Int),(1:Int),(2:Int),(3:Int),(4:Int),(5:Int),(6:Int),(4:Int),(5:Int)].getD (0+((and64 n 255).tmod 10).toNat) (0:Int)),i64 0,i64 (w64 (and64 (n.fdiv (2^min 8 IntKind.i64.bits)) 3-(1:Int))),i64 0,i64 0,i64 0,.v (.slice none 0 0)],[some ⟨2,own,.row 1 K fun j=>[.int .i64 (f j)]⟩]):=by kernel_rfl
theorem lq_t4 {own:Bool}{n:Int}{K:Nat}{f:Nat->Int}:(lfun lqG nol 60 Try.f112 [I64 n,.c (.sl 0 0 K)] [rowJ own K f]).go (dN 9 127)=some ([true,decide ((0:Int)<=(and64 n 255).tmod 10),decide ((and64 n 255).tmod 10<((10:Nat):Int)),decide (0+((and64 n 255).tmod 10).toNat<10),true,true,decide (w64 (and64 (n.fdiv (2^min 8 IntKind.i64.bits)) 3-(1:Int))<(0:Int)),![(1:Int),(1:Int),(1:Int),(2:Int),(3:Int),(4:Int),(5:Int),(6:Int),(4:Int),(5:Int)].getD (0+((and64 n 255).tmod 10).toNat) (0:Int)==(1:Int),![(1:Int),(1:Int),(1:Int),(2:Int),(3:Int),(4:Int),(5:Int),(6:Int),(4:Int),(5:Int)].getD (0+((and64 n 255).tmod 10).toNat) (0:Int)==(3:Int),[(1:Int),(1:Int),(1:Int),(2:Int),(3:Int),(4:Int),(5:Int),(6:Int),(4:Int),(5:Int)].getD (0+((and64 n 255).tmod 10).toNat) (0:Int)==(4:Int),true,true],.agg [i64 ([(1:Int),(1:Int),(1:Int),(2:Int),(3:Int),(4:Int),(5:Int),(6:Int),(4:Int),(5:Int)].getD (0+((and64 n 255).tmod 10).toNat) (0:Int)),i64 (w64 ((and64 (n.fdiv (2^min 16 IntKind.i64.bits)) 255).tmod 24-(1:Int))),i64 (w64 (and64 (n.fdiv (2^min 8 IntKind.i64.bits)) 3-(1:Int))),i64 0,i64 0,i64 0,.v (.slice none 0 0)],[some ⟨2,own,.row 1 K fun j=>[.int .i64 (f j)]⟩]):=by kernel_rfl
theorem lq_t5 {own:Bool}{n:Int}{K:Nat}{f:Nat->Int}:(lfun lqG nol 60 Try.f112 [I64 n,.c (.sl 0 0 K)] [rowJ own K f]).go (dN 10 127)=some ([true,decide ((0:Int)<=(and64 n 255).tmod 10),decide ((and64 n 255).tmod 10<((10:Nat):Int)),decide (0+((and64 n 255).tmod 10).toNat<10),true,true,decide (w64 (and64 (n.fdiv (2^min 8 IntKind.i64.bits)) 3-(1:Int))<(0:Int)),![(1:Int),(1:Int),(1:Int),(2:Int),(3:Int),(4:Int),(5:Int),(6:Int),(4:Int),(5:Int)].getD (0+((and64 n 255).tmod 10).toNat) (0:Int)==(1:Int),![(1:Int),(1:Int),(1:Int),(2:Int),(3:Int),(4:Int),(5:Int),(6:Int),(4:Int),(5:Int)].getD (0+((and64 n 255).tmod 10).toNat) (0:Int)==(3:Int),![(1:Int),(1:Int),(1:Int),(2:Int),(3:Int),(4:Int),(5:Int),(6:Int),(4:Int),(5:Int)].getD (0+((and64 n 255).tmod 10).toNat) (0:Int)==(4:Int),[(1:Int),(1:Int),(1:Int),(2:Int),(3:Int),(4:Int),(5:Int),(6:Int),(4:Int),(5:Int)].getD (0+((and64 n 255).tmod 10).toNat) (0:Int)==(5:Int),true,true],.agg [i64 ([(1:Int),(1:Int),(1:Int),(2:Int),(3:Int),(4:Int),(5:Int),(6:Int),(4:Int),(5:Int)].getD (0+((and64 n 255).tmod 10).toNat) (0:Int)),i64 0,i64 (w64 (and64 (n.fdiv (2^min 8 IntKind.i64.bits)) 3-(1:Int))),i64 0,i64 (w64 (and64 (n.fdiv (2^min 16 IntKind.i64.bits)) 65535-(100:Int))),i64 (w64 (and64 (n.fdiv (2^min 32 IntKind.i64.bits)) 4095-(100:Int))),.v (.slice none 0 0)],[some ⟨2,own,.row 1 K fun j=>[.int .i64 (f j)]⟩]):=by kernel_rfl
theorem lq_tx {own:Bool}{n:Int}{K:Nat}{f:Nat->Int}:(lfun lqG nol 60 Try.f112 [I64 n,.c (.sl 0 0 K)] [rowJ own K f]).go (dN 11 127)=some ([true,decide ((0:Int)<=(and64 n 255).tmod 10),decide ((and64 n 255).tmod 10<((10:Nat):Int)),decide (0+((and64 n 255).tmod 10).toNat<10),true,true,decide (w64 (and64 (n.fdiv (2^min 8 IntKind.i64.bits)) 3-(1:Int))<(0:Int)),![(1:Int),(1:Int),(1:Int),(2:Int),(3:Int),(4:Int),(5:Int),(6:Int),(4:Int),(5:Int)].getD (0+((and64 n 255).tmod 10).toNat) (0:Int)==(1:Int),![(1:Int),(1:Int),(1:Int),(2:Int),(3:Int),(4:Int),(5:Int),(6:Int),(4:Int),(5:Int)].getD (0+((and64 n 255).tmod 10).toNat) (0:Int)==(3:Int),![(1:Int),(1:Int),(1:Int),(2:Int),(3:Int),(4:Int),(5:Int),(6:Int),(4:Int),(5:Int)].getD (0+((and64 n 255).tmod 10).toNat) (0:Int)==(4:Int),![(1:Int),(1:Int),(1:Int),(2:Int),(3:Int),(4:Int),(5:Int),(6:Int),(4:Int),(5:Int)].getD (0+((and64 n 255).tmod 10).toNat) (0:Int)==(5:Int)],.agg [i64 ([(1:Int),(1:Int),(1:Int),(2:Int),(3:Int),(4:Int),(5:Int),(6:Int),(4:Int),(5:Int)].getD (0+((and64 n 255).tmod 10).toNat) (0:Int)),i64 0,i64 0,i64 0,i64 0,i64 0,.v (.slice none 0 0)],[some ⟨2,own,.row 1 K fun j=>[.int .i64 (f j)]⟩]):=by kernel_rfl
theorem lq_f1 {own:Bool}{n:Int}{K:Nat}{f:Nat->Int}:(lfun lqG nol 60 Try.f112 [I64 n,.c (.sl 0 0 K)] [rowJ own K f]).go (dN 7 63)=some ([true,decide ((0:Int)<=(and64 n 255).tmod 10),decide ((and64 n 255).tmod 10<((10:Nat):Int)),decide (0+((and64 n 255).tmod 10).toNat<10),true,true,!decide (w64 (and64 (n.fdiv (2^min 8 IntKind.i64.bits)) 3-(1:Int))<(0:Int)),[(1:Int),(1:Int),(1:Int),(2:Int),(3:Int),(4:Int),(5:Int),(6:Int),(4:Int),(5:Int)].getD (0+((and64 n 255).tmod 10).toNat) (0:Int)==(1:Int),yes (0+K<=K/\(fun j=>v1 (f j))=fun j=>v1 (vd (v1 (f j))))],.agg [i64 ([(1:Int),(1:Int),(1:Int),(2:Int),(3:Int),(4:Int),(5:Int),(6:Int),(4:Int),(5:Int)].getD (0+((and64 n 255).tmod 10).toNat) (0:Int)),i64 0,i64 0,i64 0,i64 0,i64 0,.sl 1 0 (osN K)],[some ⟨2,own,.row 1 K fun j=>[.int .i64 (f j)]⟩,some ⟨121,true,.row 5 (osN K) fun j=>[.int .i64 (opsL (fun j=>vd (v1 (f (0+j)))) (osN K) j).k,.int .i64 (opsL (fun j=>vd (v1 (f (0+j)))) (osN K) j).i,.int .i64 (opsL (fun j=>vd (v1 (f (0+j)))) (osN K) j).a,.int .i64 (opsL (fun j=>vd (v1 (f (0+j)))) (osN K) j).b,.string (opsL (fun j=>vd (v1 (f (0+j)))) (osN K) j).s]⟩]):=by kernel_rfl
theorem lq_f3 {own:Bool}{n:Int}{K:Nat}{f:Nat->Int}:(lfun lqG nol 60 Try.f112 [I64 n,.c (.sl 0 0 K)] [rowJ own K f]).go (dN 8 63)=some ([true,decide ((0:Int)<=(and64 n 255).tmod 10),decide ((and64 n 255).tmod 10<((10:Nat):Int)),decide (0+((and64 n 255).tmod 10).toNat<10),true,true,!decide (w64 (and64 (n.fdiv (2^min 8 IntKind.i64.bits)) 3-(1:Int))<(0:Int)),![(1:Int),(1:Int),(1:Int),(2:Int),(3:Int),(4:Int),(5:Int),(6:Int),(4:Int),(5:Int)].getD (0+((and64 n 255).tmod 10).toNat) (0:Int)==(1:Int),[(1:Int),(1:Int),(1:Int),(2:Int),(3:Int),(4:Int),(5:Int),(6:Int),(4:Int),(5:Int)].getD (0+((and64 n 255).tmod 10).toNat) (0:Int)==(3:Int)],.agg [i64 ([(1:Int),(1:Int),(1:Int),(2:Int),(3:Int),(4:Int),(5:Int),(6:Int),(4:Int),(5:Int)].getD (0+((and64 n 255).tmod 10).toNat) (0:Int)),i64 0,i64 (w64 (and64 (n.fdiv (2^min 8 IntKind.i64.bits)) 3-(1:Int))),i64 (w64 (and64 (n.fdiv (2^min 10 IntKind.i64.bits)) 3+(1:Int))),i64 0,i64 0,.v (.slice none 0 0)],[some ⟨2,own,.row 1 K fun j=>[.int .i64 (f j)]⟩]):=by kernel_rfl
theorem lq_f4 {own:Bool}{n:Int}{K:Nat}{f:Nat->Int}:(lfun lqG nol 60 Try.f112 [I64 n,.c (.sl 0 0 K)] [rowJ own K f]).go (dN 9 63)=some ([true,decide ((0:Int)<=(and64 n 255).tmod 10),decide ((and64 n 255).tmod 10<((10:Nat):Int)),decide (0+((and64 n 255).tmod 10).toNat<10),true,true,!decide (w64 (and64 (n.fdiv (2^min 8 IntKind.i64.bits)) 3-(1:Int))<(0:Int)),![(1:Int),(1:Int),(1:Int),(2:Int),(3:Int),(4:Int),(5:Int),(6:Int),(4:Int),(5:Int)].getD (0+((and64 n 255).tmod 10).toNat) (0:Int)==(1:Int),![(1:Int),(1:Int),(1:Int),(2:Int),(3:Int),(4:Int),(5:Int),(6:Int),(4:Int),(5:Int)].getD (0+((and64 n 255).tmod 10).toNat) (0:Int)==(3:Int),[(1:Int),(1:Int),(1:Int),(2:Int),(3:Int),(4:Int),(5:Int),(6:Int),(4:Int),(5:Int)].getD (0+((and64 n 255).tmod 10).toNat) (0:Int)==(4:Int),true,true],.agg [i64 ([(1:Int),(1:Int),(1:Int),(2:Int),(3:Int),(4:Int),(5:Int),(6:Int),(4:Int),(5:Int)].getD (0+((and64 n 255).tmod 10).toNat) (0:Int)),i64 (w64 ((and64 (n.fdiv (2^min 16 IntKind.i64.bits)) 255).tmod 24-(1:Int))),i64 (w64 (and64 (n.fdiv (2^min 8 IntKind.i64.bits)) 3-(1:Int))),i64 (w64 (and64 (n.fdiv (2^min 10 IntKind.i64.bits)) 3+(1:Int))),i64 0,i64 0,.v (.slice none 0 0)],[some ⟨2,own,.row 1 K fun j=>[.int .i64 (f j)]⟩]):=by kernel_rfl
theorem lq_f5 {own:Bool}{n:Int}{K:Nat}{f:Nat->Int}:(lfun lqG nol 60 Try.f112 [I64 n,.c (.sl 0 0 K)] [rowJ own K f]).go (dN 10 63)=some ([true,decide ((0:Int)<=(and64 n 255).tmod 10),decide ((and64 n 255).tmod 10<((10:Nat):Int)),decide (0+((and64 n 255).tmod 10).toNat<10),true,true,!decide (w64 (and64 (n.fdiv (2^min 8 IntKind.i64.bits)) 3-(1:Int))<(0:Int)),![(1:Int),(1:Int),(1:Int),(2:Int),(3:Int),(4:Int),(5:Int),(6:Int),(4:Int),(5:Int)].getD (0+((and64 n 255).tmod 10).toNat) (0:Int)==(1:Int),![(1:Int),(1:Int),(1:Int),(2:Int),(3:Int),(4:Int),(5:Int),(6:Int),(4:Int),(5:Int)].getD (0+((and64 n 255).tmod 10).toNat) (0:Int)==(3:Int),![(1:Int),(1:Int),(1:Int),(2:Int),(3:Int),(4:Int),(5:Int),(6:Int),(4:Int),(5:Int)].getD (0+((and64 n 255).tmod 10).toNat) (0:Int)==(4:Int),[(1:Int),(1:Int),(1:Int),(2:Int),(3:Int),(4:Int),(5:Int),(6:Int),(4:Int),(5:Int)].getD (0+((and64 n 255).tmod 10).toNat) (0:Int)==(5:Int),true,true],.agg [i64 ([(1:Int),(1:Int),(1:Int),(2:Int),(3:Int),(4:Int),(5:Int),(6:Int),(4:Int),(5:Int)].getD (0+((and64 n 255).tmod 10).toNat) (0:Int)),i64 0,i64 (w64 (and64 (n.fdiv (2^min 8 IntKind.i64.bits)) 3-(1:Int))),i64 (w64 (and64 (n.fdiv (2^min 10 IntKind.i64.bits)) 3+(1:Int))),i64 (w64 (and64 (n.fdiv (2^min 16 IntKind.i64.bits)) 65535-(100:Int))),i64 (w64 (and64 (n.fdiv (2^min 32 IntKind.i64.bits)) 4095-(100:Int))),.v (.slice none 0 0)],[some ⟨2,own,.row 1 K fun j=>[.int .i64 (f j)]⟩]):=by kernel_rfl
theorem lq_fx {own:Bool}{n:Int}{K:Nat}{f:Nat->Int}:(lfun lqG nol 60 Try.f112 [I64 n,.c (.sl 0 0 K)] [rowJ own K f]).go (dN 11 63)=some ([true,decide ((0:Int)<=(and64 n 255).tmod 10),decide ((and64 n 255).tmod 10<((10:Nat):Int)),decide (0+((and64 n 255).tmod 10).toNat<10),true,true,!decide (w64 (and64 (n.fdiv (2^min 8 IntKind.i64.bits)) 3-(1:Int))<(0:Int)),![(1:Int),(1:Int),(1:Int),(2:Int),(3:Int),(4:Int),(5:Int),(6:Int),(4:Int),(5:Int)].getD (0+((and64 n 255).tmod 10).toNat) (0:Int)==(1:Int),![(1:Int),(1:Int),(1:Int),(2:Int),(3:Int),(4:Int),(5:Int),(6:Int),(4:Int),(5:Int)].getD (0+((and64 n 255).tmod 10).toNat) (0:Int)==(3:Int),![(1:Int),(1:Int),(1:Int),(2:Int),(3:Int),(4:Int),(5:Int),(6:Int),(4:Int),(5:Int)].getD (0+((and64 n 255).tmod 10).toNat) (0:Int)==(4:Int),![(1:Int),(1:Int),(1:Int),(2:Int),(3:Int),(4:Int),(5:Int),(6:Int),(4:Int),(5:Int)].getD (0+((and64 n 255).tmod 10).toNat) (0:Int)==(5:Int)],.agg [i64 ([(1:Int),(1:Int),(1:Int),(2:Int),(3:Int),(4:Int),(5:Int),(6:Int),(4:Int),(5:Int)].getD (0+((and64 n 255).tmod 10).toNat) (0:Int)),i64 0,i64 0,i64 0,i64 0,i64 0,.v (.slice none 0 0)],[some ⟨2,own,.row 1 K fun j=>[.int .i64 (f j)]⟩]):=by kernel_rfl
end
section
open Go Go.RowKit
def lqK (n:Int):Int:=[(1:Int),1,1,2,3,4,5,6,4,5].getD (0+((and64 n 255).tmod 10).toNat) 0
def lqP0 (n:Int):Int:=w64 (and64 (n.fdiv ((2:Int)^min 8 IntKind.i64.bits)) 3-1)
def lqT0 (n:Int):Int:=bif decide (lqP0 n<0) then 0 else w64 (and64 (n.fdiv ((2:Int)^min 10 IntKind.i64.bits)) 3+1)
def lqN0 (n:Int):Int:=w64 ((and64 (n.fdiv ((2:Int)^min 16 IntKind.i64.bits)) 255).tmod 24-1)
def lqX0 (n:Int):Int:=w64 (and64 (n.fdiv ((2:Int)^min 16 IntKind.i64.bits)) 65535-100)
def lqY0 (n:Int):Int:=w64 (and64 (n.fdiv ((2:Int)^min 32 IntKind.i64.bits)) 4095-100)
def lqD (n:Int):Qd:=⟨lqK n,bif lqK n==4 then lqN0 n else 0,bif lqK n==3||lqK n==4||lqK n==5 then lqP0 n else 0,bif lqK n==3||lqK n==4||lqK n==5 then lqT0 n else 0,bif lqK n==5 then lqX0 n else 0,bif lqK n==5 then lqY0 n else 0,[]⟩
theorem lqK_in (n:Int):lqK n=1\/lqK n=2\/lqK n=3\/lqK n=4\/lqK n=5\/lqK n=6:=by
 have ha:and64 n 255=n % (2^8:Int):=and_mask 8 (by omega) n 255 (by decide)
 have hb:0<=n % (2^8:Int):=by omega
 have ht:(and64 n 255).tmod 10=(n % (2^8:Int)) % 10:=by rw [ha];exact Int.tmod_eq_emod_of_nonneg hb
 unfold lqK
 rw [ht]
 have hi:((n % (2^8:Int)) % 10).toNat<10:=by omega
 generalize ((n % (2^8:Int)) % 10).toNat=i at hi
 have:i=0\/i=1\/i=2\/i=3\/i=4\/i=5\/i=6\/i=7\/i=8\/i=9:=by omega
 rcases this with rfl|rfl|rfl|rfl|rfl|rfl|rfl|rfl|rfl|rfl <;> simp
theorem fits_of {x:Int}(h:-2147483648<=x/\x<2147483648):fits x=true:=by
 unfold fits;rw [decide_eq_true h.1,decide_eq_true h.2];rfl
theorem lqP_fits (n:Int):fits (lqP0 n)=true:=by
 have ha:=and_mask 2 (by omega) (n.fdiv ((2:Int)^min 8 IntKind.i64.bits)) 3 (by decide)
 refine fits_of ?_
 unfold lqP0;rw [ha,w64_id (by omega) (by omega)];omega
theorem lqT_fits (n:Int):fits (lqT0 n)=true:=by
 have ha:=and_mask 2 (by omega) (n.fdiv ((2:Int)^min 10 IntKind.i64.bits)) 3 (by decide)
 refine fits_of ?_
 unfold lqT0;rw [ha,w64_id (x:=_+1) (by omega) (by omega)]
 cases decide (lqP0 n<0)
 ·rw [cond_false];omega
 ·rw [cond_true];omega
theorem lqN_fits (n:Int):fits (lqN0 n)=true:=by
 have ha:=and_mask 8 (by omega) (n.fdiv ((2:Int)^min 16 IntKind.i64.bits)) 255 (by decide)
 refine fits_of ?_
 unfold lqN0
 rw [ha]
 generalize n.fdiv ((2:Int)^min 16 IntKind.i64.bits)=z
 have hb:0<=z % (2^8:Int):=by omega
 rw [Int.tmod_eq_emod_of_nonneg hb,w64_id (by omega) (by omega)];omega
theorem lqX_fits (n:Int):fits (lqX0 n)=true:=by
 have ha:=and_mask 16 (by omega) (n.fdiv ((2:Int)^min 16 IntKind.i64.bits)) 65535 (by decide)
 refine fits_of ?_
 unfold lqX0;rw [ha,w64_id (by omega) (by omega)];omega
theorem lqY_fits (n:Int):fits (lqY0 n)=true:=by
 have ha:=and_mask 12 (by omega) (n.fdiv ((2:Int)^min 32 IntKind.i64.bits)) 4095 (by decide)
 refine fits_of ?_
 unfold lqY0;rw [ha,w64_id (by omega) (by omega)];omega
def lqQ (n:Int) (os:List Opp):Qd:=⟨(lqD n).k,(lqD n).n,(lqD n).p,(lqD n).t,(lqD n).x,(lqD n).y,os⟩
theorem lq_ok {n:Int}{os:List Opp}(h1:lqK n=1->os.length<=100/\os.all opOk=true) (h2:lqK n ≠ 1->os=[]):reqOk (lqQ n os):=by
 unfold reqOk lqQ lqD wrOk bareQ
 rcases lqK_in n with h|h|h|h|h|h
 ·obtain ⟨g1,g2⟩:=h1 h
  simp only [h]
  refine ⟨?_,rfl⟩
  show (decide (os.length<=100)&&os.all opOk)=true
  rw [decide_eq_true g1,g2];rfl
 ·have:=h2 (by omega);subst this;simp only [h];exact ⟨rfl,rfl⟩
 ·have:=h2 (by omega);subst this;simp only [h]
  refine ⟨?_,rfl⟩
  show (fits (lqP0 n)&&fits (lqT0 n))=true
  rw [lqP_fits,lqT_fits];rfl
 ·have:=h2 (by omega);subst this;simp only [h]
  refine ⟨?_,rfl⟩
  show (fits (lqP0 n)&&fits (lqT0 n)&&fits (lqN0 n))=true
  rw [lqP_fits,lqT_fits,lqN_fits];rfl
 ·have:=h2 (by omega);subst this;simp only [h]
  refine ⟨?_,rfl⟩
  show (fits (lqP0 n)&&fits (lqT0 n)&&fits (lqX0 n)&&fits (lqY0 n))=true
  rw [lqP_fits,lqT_fits,lqX_fits,lqY_fits];rfl
 ·have:=h2 (by omega);subst this;simp only [h];exact ⟨rfl,rfl⟩
end
section
open Go Go.RowKit
noncomputable def lqO (own:Bool) (K:Nat) (f:Nat->Int) (n:Int):AV × AHeap:=bif lqK n==1 then (qV (lqD n) (.sl 1 0 (osN K)),[rowJ own K f,rowP true (osN K) (opsL (fun j=>f (0+j)) (osN K))]) else (qV (lqD n) (.v (.slice none 0 0)),[rowJ own K f])
theorem lq_eval (own:Bool) (K:Nat) (f:Nat->Int) (n:Int):(lfun lqG nol 60 Try.f112 [I64 n,.c (.sl 0 0 K)] [rowJ own K f]).eval=some (lqO own K f n):=by
 have hb:=tm (and64 n 255) 10 (m255 n).1 (by decide)
 cases hs:decide (lqP0 n<0) with
 | true=>
  have hs2:=hs
  have hT:lqT0 n=0:=by unfold lqT0;rw [hs];rfl
  rcases lqK_in n with hk|hk|hk|hk|hk|hk
  ·have hD:lqD n=⟨lqK n,0,0,0,0,0,[]⟩:=by unfold lqD;rw [hk];rfl
   have n3:(!(lqK n==(3:Int)))=true:=by rw [hk];rfl
   have n4:(!(lqK n==(4:Int)))=true:=by rw [hk];rfl
   have n5:(!(lqK n==(5:Int)))=true:=by rw [hk];rfl
   have kk:(lqK n==(1:Int))=true:=by rw [hk];rfl
   refine (Tr.go_eval lq_t1 ?_).trans ?_
   ·repeat' (first|exact AllT.nil|refine AllT.cons ?_ ?_)
    all_goals first|(with_reducible rfl)|exact decide_eq_true (by omega)|exact hs2|exact yes_of ⟨by omega,rfl⟩|exact n3|exact n4|exact n5|exact kk
   ·unfold lqO;rw [hD]
    have e1:(lqK n==(1:Int))=true:=by rw [hk];rfl
    rw [e1];rfl
  ·have hD:lqD n=⟨lqK n,0,0,0,0,0,[]⟩:=by unfold lqD;rw [hk];rfl
   have n1:(!(lqK n==(1:Int)))=true:=by rw [hk];rfl
   have n3:(!(lqK n==(3:Int)))=true:=by rw [hk];rfl
   have n4:(!(lqK n==(4:Int)))=true:=by rw [hk];rfl
   have n5:(!(lqK n==(5:Int)))=true:=by rw [hk];rfl
   refine (Tr.go_eval lq_tx ?_).trans ?_
   ·repeat' (first|exact AllT.nil|refine AllT.cons ?_ ?_)
    all_goals first|(with_reducible rfl)|exact decide_eq_true (by omega)|exact hs2|exact yes_of ⟨by omega,rfl⟩|exact n1|exact n3|exact n4|exact n5
   ·unfold lqO;rw [hD]
    have e1:(lqK n==(1:Int))=false:=by rw [hk];rfl
    rw [e1];rfl
  ·have hD:lqD n=⟨lqK n,0,lqP0 n,lqT0 n,0,0,[]⟩:=by unfold lqD;rw [hk];rfl
   have n1:(!(lqK n==(1:Int)))=true:=by rw [hk];rfl
   have n4:(!(lqK n==(4:Int)))=true:=by rw [hk];rfl
   have n5:(!(lqK n==(5:Int)))=true:=by rw [hk];rfl
   have kk:(lqK n==(3:Int))=true:=by rw [hk];rfl
   refine (Tr.go_eval lq_t3 ?_).trans ?_
   ·repeat' (first|exact AllT.nil|refine AllT.cons ?_ ?_)
    all_goals first|(with_reducible rfl)|exact decide_eq_true (by omega)|exact hs2|exact yes_of ⟨by omega,rfl⟩|exact n1|exact n4|exact n5|exact kk
   ·unfold lqO;rw [hD,hT]
    have e1:(lqK n==(1:Int))=false:=by rw [hk];rfl
    rw [e1];rfl
  ·have hD:lqD n=⟨lqK n,lqN0 n,lqP0 n,lqT0 n,0,0,[]⟩:=by unfold lqD;rw [hk];rfl
   have n1:(!(lqK n==(1:Int)))=true:=by rw [hk];rfl
   have n3:(!(lqK n==(3:Int)))=true:=by rw [hk];rfl
   have n5:(!(lqK n==(5:Int)))=true:=by rw [hk];rfl
   have kk:(lqK n==(4:Int))=true:=by rw [hk];rfl
   refine (Tr.go_eval lq_t4 ?_).trans ?_
   ·repeat' (first|exact AllT.nil|refine AllT.cons ?_ ?_)
    all_goals first|(with_reducible rfl)|exact decide_eq_true (by omega)|exact hs2|exact yes_of ⟨by omega,rfl⟩|exact n1|exact n3|exact n5|exact kk
   ·unfold lqO;rw [hD,hT]
    have e1:(lqK n==(1:Int))=false:=by rw [hk];rfl
    rw [e1];rfl
  ·have hD:lqD n=⟨lqK n,0,lqP0 n,lqT0 n,lqX0 n,lqY0 n,[]⟩:=by unfold lqD;rw [hk];rfl
   have n1:(!(lqK n==(1:Int)))=true:=by rw [hk];rfl
   have n3:(!(lqK n==(3:Int)))=true:=by rw [hk];rfl
   have n4:(!(lqK n==(4:Int)))=true:=by rw [hk];rfl
   have kk:(lqK n==(5:Int))=true:=by rw [hk];rfl
   refine (Tr.go_eval lq_t5 ?_).trans ?_
   ·repeat' (first|exact AllT.nil|refine AllT.cons ?_ ?_)
    all_goals first|(with_reducible rfl)|exact decide_eq_true (by omega)|exact hs2|exact yes_of ⟨by omega,rfl⟩|exact n1|exact n3|exact n4|exact kk
   ·unfold lqO;rw [hD,hT]
    have e1:(lqK n==(1:Int))=false:=by rw [hk];rfl
    rw [e1];rfl
  ·have hD:lqD n=⟨lqK n,0,0,0,0,0,[]⟩:=by unfold lqD;rw [hk];rfl
   have n1:(!(lqK n==(1:Int)))=true:=by rw [hk];rfl
   have n3:(!(lqK n==(3:Int)))=true:=by rw [hk];rfl
   have n4:(!(lqK n==(4:Int)))=true:=by rw [hk];rfl
   have n5:(!(lqK n==(5:Int)))=true:=by rw [hk];rfl
   refine (Tr.go_eval lq_tx ?_).trans ?_
   ·repeat' (first|exact AllT.nil|refine AllT.cons ?_ ?_)
    all_goals first|(with_reducible rfl)|exact decide_eq_true (by omega)|exact hs2|exact yes_of ⟨by omega,rfl⟩|exact n1|exact n3|exact n4|exact n5
   ·unfold lqO;rw [hD]
    have e1:(lqK n==(1:Int))=false:=by rw [hk];rfl
    rw [e1];rfl
 | false=>
  have hs2:(!decide (lqP0 n<0))=true:=by rw [hs];rfl
  have hT:lqT0 n=w64 (and64 (n.fdiv ((2:Int)^min 10 IntKind.i64.bits)) 3+1):=by unfold lqT0;rw [hs];rfl
  rcases lqK_in n with hk|hk|hk|hk|hk|hk
  ·have hD:lqD n=⟨lqK n,0,0,0,0,0,[]⟩:=by unfold lqD;rw [hk];rfl
   have n3:(!(lqK n==(3:Int)))=true:=by rw [hk];rfl
   have n4:(!(lqK n==(4:Int)))=true:=by rw [hk];rfl
   have n5:(!(lqK n==(5:Int)))=true:=by rw [hk];rfl
   have kk:(lqK n==(1:Int))=true:=by rw [hk];rfl
   refine (Tr.go_eval lq_f1 ?_).trans ?_
   ·repeat' (first|exact AllT.nil|refine AllT.cons ?_ ?_)
    all_goals first|(with_reducible rfl)|exact decide_eq_true (by omega)|exact hs2|exact yes_of ⟨by omega,rfl⟩|exact n3|exact n4|exact n5|exact kk
   ·unfold lqO;rw [hD]
    have e1:(lqK n==(1:Int))=true:=by rw [hk];rfl
    rw [e1];rfl
  ·have hD:lqD n=⟨lqK n,0,0,0,0,0,[]⟩:=by unfold lqD;rw [hk];rfl
   have n1:(!(lqK n==(1:Int)))=true:=by rw [hk];rfl
   have n3:(!(lqK n==(3:Int)))=true:=by rw [hk];rfl
   have n4:(!(lqK n==(4:Int)))=true:=by rw [hk];rfl
   have n5:(!(lqK n==(5:Int)))=true:=by rw [hk];rfl
   refine (Tr.go_eval lq_fx ?_).trans ?_
   ·repeat' (first|exact AllT.nil|refine AllT.cons ?_ ?_)
    all_goals first|(with_reducible rfl)|exact decide_eq_true (by omega)|exact hs2|exact yes_of ⟨by omega,rfl⟩|exact n1|exact n3|exact n4|exact n5
   ·unfold lqO;rw [hD]
    have e1:(lqK n==(1:Int))=false:=by rw [hk];rfl
    rw [e1];rfl
  ·have hD:lqD n=⟨lqK n,0,lqP0 n,lqT0 n,0,0,[]⟩:=by unfold lqD;rw [hk];rfl
   have n1:(!(lqK n==(1:Int)))=true:=by rw [hk];rfl
   have n4:(!(lqK n==(4:Int)))=true:=by rw [hk];rfl
   have n5:(!(lqK n==(5:Int)))=true:=by rw [hk];rfl
   have kk:(lqK n==(3:Int))=true:=by rw [hk];rfl
   refine (Tr.go_eval lq_f3 ?_).trans ?_
   ·repeat' (first|exact AllT.nil|refine AllT.cons ?_ ?_)
    all_goals first|(with_reducible rfl)|exact decide_eq_true (by omega)|exact hs2|exact yes_of ⟨by omega,rfl⟩|exact n1|exact n4|exact n5|exact kk
   ·unfold lqO;rw [hD,hT]
    have e1:(lqK n==(1:Int))=false:=by rw [hk];rfl
    rw [e1];rfl
  ·have hD:lqD n=⟨lqK n,lqN0 n,lqP0 n,lqT0 n,0,0,[]⟩:=by unfold lqD;rw [hk];rfl
   have n1:(!(lqK n==(1:Int)))=true:=by rw [hk];rfl
   have n3:(!(lqK n==(3:Int)))=true:=by rw [hk];rfl
   have n5:(!(lqK n==(5:Int)))=true:=by rw [hk];rfl
   have kk:(lqK n==(4:Int))=true:=by rw [hk];rfl
   refine (Tr.go_eval lq_f4 ?_).trans ?_
   ·repeat' (first|exact AllT.nil|refine AllT.cons ?_ ?_)
    all_goals first|(with_reducible rfl)|exact decide_eq_true (by omega)|exact hs2|exact yes_of ⟨by omega,rfl⟩|exact n1|exact n3|exact n5|exact kk
   ·unfold lqO;rw [hD,hT]
    have e1:(lqK n==(1:Int))=false:=by rw [hk];rfl
    rw [e1];rfl
  ·have hD:lqD n=⟨lqK n,0,lqP0 n,lqT0 n,lqX0 n,lqY0 n,[]⟩:=by unfold lqD;rw [hk];rfl
   have n1:(!(lqK n==(1:Int)))=true:=by rw [hk];rfl
   have n3:(!(lqK n==(3:Int)))=true:=by rw [hk];rfl
   have n4:(!(lqK n==(4:Int)))=true:=by rw [hk];rfl
   have kk:(lqK n==(5:Int))=true:=by rw [hk];rfl
   refine (Tr.go_eval lq_f5 ?_).trans ?_
   ·repeat' (first|exact AllT.nil|refine AllT.cons ?_ ?_)
    all_goals first|(with_reducible rfl)|exact decide_eq_true (by omega)|exact hs2|exact yes_of ⟨by omega,rfl⟩|exact n1|exact n3|exact n4|exact kk
   ·unfold lqO;rw [hD,hT]
    have e1:(lqK n==(1:Int))=false:=by rw [hk];rfl
    rw [e1];rfl
  ·have hD:lqD n=⟨lqK n,0,0,0,0,0,[]⟩:=by unfold lqD;rw [hk];rfl
   have n1:(!(lqK n==(1:Int)))=true:=by rw [hk];rfl
   have n3:(!(lqK n==(3:Int)))=true:=by rw [hk];rfl
   have n4:(!(lqK n==(4:Int)))=true:=by rw [hk];rfl
   have n5:(!(lqK n==(5:Int)))=true:=by rw [hk];rfl
   refine (Tr.go_eval lq_fx ?_).trans ?_
   ·repeat' (first|exact AllT.nil|refine AllT.cons ?_ ?_)
    all_goals first|(with_reducible rfl)|exact decide_eq_true (by omega)|exact hs2|exact yes_of ⟨by omega,rfl⟩|exact n1|exact n3|exact n4|exact n5
   ·unfold lqO;rw [hD]
    have e1:(lqK n==(1:Int))=false:=by rw [hk];rfl
    rw [e1];rfl
noncomputable def lqF:Spec:=fun args h=>match args,h with
 | [.c (.v (.int .i64 n)),.c (.sl 0 0 K)],[some ⟨2,own,.row 1 k f⟩]=>
  .need (yes (k=K/\f=fun j=>v1 (vd (f j))))
   (.ite (lqK n==1) (.ret (qV (lqD n) (.sl 1 0 (osN K)),[rowJ own K fun j=>vd (f j),rowP true (osN K) (opsL (fun j=>vd (f (0+j))) (osN K))])) (.ret (qV (lqD n) (.v (.slice none 0 0)),[rowJ own K fun j=>vd (f j)])))
 | _,_=>.fail
theorem lqF_ok:SpecOk Try.prog 112 lqF:=by
 refine knownS KLQ_ok Try.func112 fun args h r he=>?_
 unfold lqF at he
 split at he
 ·rename_i n K own k f
  obtain ⟨⟨h1,h2⟩,he'⟩:=Tr.eval_ask.1 he
  subst h1
  have e1:some ⟨2,own,.row 1 k f⟩=rowJ own k fun j=>vd (f j):=by rw [rowJ,<-h2]
  rw [e1]
  refine ⟨(fun _=>[]),[],60,nol,noLoopsS,(lq_eval own k (fun j=>vd (f j)) n).trans ?_⟩
  unfold lqO
  revert he'
  simp only [Tr.eval]
  cases lqK n==1 <;> exact id
 ·cases he
end
section
open Go Go.RowKit
noncomputable def bQ (q:Qd):List Int:=bif yes (reqOk q) then reqB q else []
noncomputable def bR (a:Rd):List Int:=bif yes (anOk a) then ansB a else []
theorem bQ_t {q:Qd}(h:reqOk q):bQ q=reqB q:=by unfold bQ;rw [yes_of h];rfl
theorem bQ_f {q:Qd}(h:¬ reqOk q):bQ q=[]:=by unfold bQ;rw [yes_no h];rfl
theorem bR_t {a:Rd}(h:anOk a):bR a=ansB a:=by unfold bR;rw [yes_of h];rfl
theorem bR_f {a:Rd}(h:¬ anOk a):bR a=[]:=by unfold bR;rw [yes_no h];rfl
noncomputable def reU:Spec:=fun args h=>match args,h with
 | [.agg [.v (.int .i64 k),.v (.int .i64 n),.v (.int .i64 p),.v (.int .i64 t),.v (.int .i64 x),.v (.int .i64 y),.v (.slice none 0 0)]],[]=>
  .ret (.tup [.c (.sl 0 0 (bQ ⟨k,n,p,t,x,y,[]⟩).length),Bo (yes (reqOk ⟨k,n,p,t,x,y,[]⟩))],[rowU true (bQ ⟨k,n,p,t,x,y,[]⟩).length (gL (bQ ⟨k,n,p,t,x,y,[]⟩))])
 | [.agg [.v (.int .i64 k),.v (.int .i64 n),.v (.int .i64 p),.v (.int .i64 t),.v (.int .i64 x),.v (.int .i64 y),.sl 0 0 c]],[some ⟨121,o,.row 5 m f⟩]=>
  .need (yes ((f=fun j=>encO (decO (f j)))/\(k=1->c=m/\wqLen (fun j=>decO (f j)) 2 m<=maxCells)))
  (.ret (.tup [.c (.sl 1 0 (bQ ⟨k,n,p,t,x,y,opsP (fun j=>decO (f j)) c⟩).length),Bo (yes (reqOk ⟨k,n,p,t,x,y,opsP (fun j=>decO (f j)) c⟩))],[rowP o m (fun j=>decO (f j)),rowU true (bQ ⟨k,n,p,t,x,y,opsP (fun j=>decO (f j)) c⟩).length (gL (bQ ⟨k,n,p,t,x,y,opsP (fun j=>decO (f j)) c⟩))]))
 | _,_=>.fail
theorem reU_ok {f:FuncId}(hF:SpecOk Try.prog f reF0):SpecOk Try.prog f reU:=by
 refine SpecOk.nil hF fun args H r' H' he=>?_
 unfold reU at he
 split at he
 ·rename_i k n p t x y
  cases he
  by_cases hr:reqOk ⟨k,n,p,t,x,y,[]⟩
  ·refine .inl ?_
   show (Tr.ite _ _ _).eval=_
   rw [bQ_t hr,yes_of hr];rfl
  ·refine .inr ⟨.tup [.c (.v (.slice none 0 0)),Bo false],[],⟨5,true,.row 1 0 fun j=>ub (gL [] j)⟩,?_,rfl,?_,?_⟩
   ·rw [bQ_f hr];rfl
   ·rw [bQ_f hr,yes_no hr];exact NilV.tup NilV.c
   ·show (Tr.ite _ _ _).eval=_
    rw [yes_no hr];rfl
 ·rename_i k n p t x y c o m f
  obtain ⟨hn,he'⟩:=Tr.eval_ask.1 he
  cases he'
  by_cases hr:reqOk ⟨k,n,p,t,x,y,opsP (fun j=>decO (f j)) c⟩
  ·refine .inl (Tr.eval_ask.2 ⟨hn,?_⟩)
   show (Tr.ite _ _ _).eval=_
   rw [bQ_t hr,yes_of hr];rfl
  ·refine .inr ⟨.tup [.c (.v (.slice none 0 0)),Bo false],[rowP o m fun j=>decO (f j)],⟨5,true,.row 1 0 fun j=>ub (gL [] j)⟩,?_,rfl,?_,?_⟩
   ·rw [bQ_f hr];rfl
   ·rw [bQ_f hr,yes_no hr];exact NilV.tup NilV.c
   ·refine Tr.eval_ask.2 ⟨hn,?_⟩
    show (Tr.ite _ _ _).eval=_
    rw [yes_no hr];rfl
 ·cases he
noncomputable def anU:Spec:=fun args h=>match args,h with
 | [.agg [.v (.int .i64 k),.v (.int .i64 e),.v (.int .i64 a),.v (.int .i64 n),.v (.int .i64 p),.v (.int .i64 t),.v (.int .i64 x),.v (.int .i64 y),.v (.int .i64 w),.v (.int .i64 hh)]],[]=>
  .ret (.tup [.c (.sl 0 0 (bR ⟨k,e,a,n,p,t,x,y,w,hh⟩).length),Bo (yes (anOk ⟨k,e,a,n,p,t,x,y,w,hh⟩))],[rowU true (bR ⟨k,e,a,n,p,t,x,y,w,hh⟩).length (gL (bR ⟨k,e,a,n,p,t,x,y,w,hh⟩))])
 | _,_=>.fail
theorem anU_ok {f:FuncId}(hF:SpecOk Try.prog f anF):SpecOk Try.prog f anU:=by
 refine SpecOk.nil hF fun args H r' H' he=>?_
 unfold anU at he
 split at he
 ·rename_i k e a n p t x y w hh
  cases he
  by_cases hr:anOk ⟨k,e,a,n,p,t,x,y,w,hh⟩
  ·refine .inl ?_
   show (Tr.ite _ _ _).eval=_
   rw [bR_t hr,yes_of hr];rfl
  ·refine .inr ⟨.tup [.c (.v (.slice none 0 0)),Bo false],[],⟨5,true,.row 1 0 fun j=>ub (gL [] j)⟩,?_,rfl,?_,?_⟩
   ·rw [bR_f hr];rfl
   ·rw [bR_f hr,yes_no hr];exact NilV.tup NilV.c
   ·show (Tr.ite _ _ _).eval=_
    rw [yes_no hr];rfl
 ·cases he
def zQ:Qd:=⟨0,0,0,0,0,0,[]⟩
def zR:Rd:=⟨0,0,0,0,0,0,0,0,0,0⟩
noncomputable def oQ (r:Qd × (List Int × Bool)):Qd:=bif yes (r.2=([],false)) then r.1 else zQ
noncomputable def oR (r:Rd × (List Int × Bool)):Rd:=bif yes (r.2=([],false)) then r.1 else zR
noncomputable def qyO (e:Bool->AV) (own:Bool) (m:Nat) (B:Nat->Int) (r:Qd × (List Int × Bool)):AV × AHeap:=
 (.tup [qV (oQ r) (.sl 1 0 (oQ r).o.length),e (yes (r.2=([],false)))],[rowU own m B,rowP true (oQ r).o.length (gP (oQ r).o)])
noncomputable def qyW (e:Bool->AV):Spec:=fun args h=>match args,h with
 | [.c (.sl 0 0 n)],[some ⟨5,own,.row 1 m f⟩]=>
  .need (yes (n<=m/\n<2^20/\(f=fun j=>ub (ud (f j)))/\rng fun j=>ud (f j))) (.ret (qyO e own m (fun j=>ud (f j)) (rqR (fun j=>ud (f j)) 0 n)))
 | _,_=>.fail
noncomputable def ryW (e:Bool->AV):Spec:=fun args h=>match args,h with
 | [.c (.sl 0 0 n)],[some ⟨5,own,.row 1 m f⟩]=>
  .need (yes (n<=m/\n<2^20/\(f=fun j=>ub (ud (f j)))/\rng fun j=>ud (f j))) (.ret (.tup [rV (oR (rrR (fun j=>ud (f j)) 0 n)),e (yes ((rrR (fun j=>ud (f j)) 0 n).2=([],false)))],[rowU own m (fun j=>ud (f j))]))
 | _,_=>.fail
def eEr (b:Bool):AV:=I64 (bif b then 0 else 16)
def eBo (b:Bool):AV:=Bo b
theorem qyO_nil {e:Bool->AV}{own:Bool}{m:Nat}{B:Nat->Int}{r:Qd × (List Int × Bool)}(h:(oQ r).o=[]) :
  (qyO e own m B r).2=[rowU own m B]++[some ⟨121,true,.row 5 0 fun j=>encO (gP [] j)⟩]/\NilV 1 (.tup [qV (oQ r) (.v (.slice none 0 0)),e (yes (r.2=([],false)))]) (qyO e own m B r).1:=by
 unfold qyO
 rw [h]
 exact ⟨rfl,NilV.tup (NilV.agg [i64 (oQ r).k,i64 (oQ r).n,i64 (oQ r).p,i64 (oQ r).t,i64 (oQ r).x,i64 (oQ r).y])⟩
theorem qyU_ok:SpecOk Try.prog 107 (qyW eEr):=by
 refine SpecOk.nil qyF0_ok fun args H r' H' he=>?_
 unfold qyW at he
 split at he
 ·rename_i n own m f
  obtain ⟨⟨h1,h2,h3,h4⟩,he'⟩:=Tr.eval_ask.1 he
  simp only [Tr.eval,Option.some.injEq] at he'
  have hq:∀ z,(qyT own m (fun j=>ud (f j)) (rqR (fun j=>ud (f j)) 0 n)).eval=z->(qyF0 [.c (.sl 0 0 n)] [some ⟨5,own,.row 1 m f⟩]).eval=z:=fun z hz=>by
   show (Tr.need _ _).eval=z
   show cond _ _ _=z
   rw [yes_of (show 0+n<=m/\(f=fun j=>ub (ud (f j)))/\rng fun j=>ud (f j) from ⟨by omega,h3,h4⟩)]
   exact hz
  generalize rqR (fun j=>ud (f j)) 0 n=r at he' hq
  have e1:r'=(qyO eEr own m (fun j=>ud (f j)) r).1:=(congrArg Prod.fst he').symm
  have e2:H'=(qyO eEr own m (fun j=>ud (f j)) r).2:=(congrArg Prod.snd he').symm
  by_cases hr:r.2=([],false)
  ·have ho:oQ r=r.1:=by unfold oQ;rw [yes_of hr];rfl
   by_cases hE:r.1.o=[]
   ·obtain ⟨g1,g2⟩:=qyO_nil (e:=eEr) (own:=own) (m:=m) (B:=fun j=>ud (f j)) (r:=r) (by rw [ho];exact hE)
    refine .inr ⟨_,_,_,e2.trans g1,rfl,e1 ▸ g2,hq _ ?_⟩
    unfold qyT
    simp only [Tr.eval]
    rw [yes_of hr,ho,hE];rfl
   ·refine .inl (hq _ ?_)
    unfold qyT
    simp only [Tr.eval]
    rw [e1,e2]
    unfold qyO
    rw [yes_of hr,ho]
    have:r.1.o.isEmpty=false:=by
     cases hx:r.1.o with
     | nil=>exact absurd hx hE
     | cons a l=>rfl
    rw [this];rfl
  ·have ho:oQ r=zQ:=by unfold oQ;rw [yes_no hr];rfl
   obtain ⟨g1,g2⟩:=qyO_nil (e:=eEr) (own:=own) (m:=m) (B:=fun j=>ud (f j)) (r:=r) (by rw [ho];rfl)
   refine .inr ⟨_,_,_,e2.trans g1,rfl,e1 ▸ g2,hq _ ?_⟩
   unfold qyT
   simp only [Tr.eval]
   rw [yes_no hr,ho];rfl
 ·cases he
theorem ryU_ok:SpecOk Try.prog 109 (ryW eEr):=by
 refine fun B0 args H r' H' he=>ryF0_ok B0 args H r' H' ?_
 unfold ryW at he
 split at he
 ·rename_i n own m f
  obtain ⟨⟨h1,h2,h3,h4⟩,he'⟩:=Tr.eval_ask.1 he
  refine Tr.eval_ask.2 ⟨⟨by omega,h3,h4⟩,?_⟩
  rw [<-he']
  unfold ryT oR
  simp only [Tr.eval]
  by_cases hr:(rrR (fun j=>ud (f j)) 0 n).2=([],false)
  ·rw [yes_of hr];rfl
  ·rw [yes_no hr];rfl
 ·cases he
noncomputable def lqC (n:Int) (K:Nat):Nat:=bif lqK n==1 then osN K else 0
noncomputable def lqU:Spec:=fun args h=>match args,h with
 | [.c (.v (.int .i64 n)),.c (.sl 0 0 K)],[some ⟨2,own,.row 1 k f⟩]=>
  .need (yes (k=K/\f=fun j=>v1 (vd (f j))))
   (.ret (qV (lqD n) (.sl 1 0 (lqC n K)),[rowJ own K fun j=>vd (f j),rowP true (lqC n K) (opsL (fun j=>vd (f (0+j))) (osN K))]))
 | _,_=>.fail
theorem lqU_ok:SpecOk Try.prog 112 lqU:=by
 refine SpecOk.nil lqF_ok fun args H r' H' he=>?_
 unfold lqU at he
 split at he
 ·rename_i n K own k f
  obtain ⟨hn,he'⟩:=Tr.eval_ask.1 he
  simp only [Tr.eval,Option.some.injEq,Prod.mk.injEq] at he'
  obtain ⟨rfl,rfl⟩:=he'
  cases hk:lqK n==1 with
  | true=>
   refine .inl (Tr.eval_ask.2 ⟨hn,?_⟩)
   simp only [Tr.eval,lqC,hk,cond_true]
  | false=>
   refine .inr ⟨qV (lqD n) (.v (.slice none 0 0)),[rowJ own K fun j=>vd (f j)],⟨121,true,.row 5 0 fun j=>encO (opsL (fun j=>vd (f (0+j))) (osN K) j)⟩,?_,rfl,?_,Tr.eval_ask.2 ⟨hn,?_⟩⟩
   ·simp only [lqC,hk,cond_false];rfl
   ·simp only [lqC,hk,cond_false]
    exact NilV.agg [i64 (lqD n).k,i64 (lqD n).n,i64 (lqD n).p,i64 (lqD n).t,i64 (lqD n).x,i64 (lqD n).y]
   ·simp only [Tr.eval,hk,cond_false]
 ·cases he
end
end Go.Proofs.Ytcpahifgdppkbaa.QAI
