/- Lemmas. -/
import Derived.Test.YtcpahifgdppkbaaQWireTells4
set_option linter.unusedVariables false
set_option linter.unusedSimpArgs false
set_option maxRecDepth 100000
namespace Go.Proofs.Ytcpahifgdppkbaa.QAI
section
open Go Go.RowKit
def dtT:List ByteArray:=[(⟨#[(97:UInt8)]⟩:ByteArray),(⟨#[(98:UInt8)]⟩:ByteArray),(⟨#[(32:UInt8)]⟩:ByteArray),(⟨#[(32:UInt8),(32:UInt8)]⟩:ByteArray),(⟨#[(10:UInt8)]⟩:ByteArray),(⟨#[(97:UInt8),(98:UInt8)]⟩:ByteArray),(⟨#[(99:UInt8),(32:UInt8)]⟩:ByteArray),(⟨#[]⟩:ByteArray)]
theorem sm_dtT (i:Nat):Sm 24 (dtT.getD i (⟨#[]⟩:ByteArray)):=sm_t dtT (by decide) i
abbrev dtK:List (Nat × Option TypeId):=[(0,none),(3,none),(4,none)]
noncomputable def dtG:Ctx2:=GT [] (fun k=>if k=3 then dtK else []) 0 []
theorem dtG_ok:XOk dtG:=GT_ok nilK _ _ _
def dtS (n:Int) (s:ByteArray) (i:Int):St:=⟨slots 21 [(0,I64 n),(3,StrA s),(4,I64 i)],[]⟩
theorem dt_go {n:Int}{s:ByteArray}{i:Int}:(rT dtG nol 0 54 (bodyOf Try.f158 0) dtK dtK (dtS n s i)).go [] =
 some ([decide (i<(10:Int)),decide ((0:Int)<=u64 (w64 ((3:Int)*i))),decide ((0:Int)<=and64 (n.fdiv ((2:Int)^min (u64 (w64 ((3:Int)*i))).toNat IntKind.i64.bits)) (7:Int)),decide (and64 (n.fdiv ((2:Int)^min (u64 (w64 ((3:Int)*i))).toNat IntKind.i64.bits)) (7:Int)<((8:Nat):Int)),decide (0+(and64 (n.fdiv ((2:Int)^min (u64 (w64 ((3:Int)*i))).toNat IntKind.i64.bits)) (7:Int)).toNat<8),decide (((s.size+(dtT.getD (0+(and64 (n.fdiv ((2:Int)^min (u64 (w64 ((3:Int)*i))).toNat IntKind.i64.bits)) (7:Int)).toNat) (⟨#[]⟩:ByteArray)).size:Nat):Int)<=IntKind.i64.max)],Ex.normal,{ sl:=slots 21 [(0,I64 n),(3,AV.c (AC.v (Value.string (s++dtT.getD (0+(and64 (n.fdiv ((2:Int)^min (u64 (w64 ((3:Int)*i))).toNat IntKind.i64.bits)) (7:Int)).toNat) (⟨#[]⟩:ByteArray))))),(4,I64 (w64 (i+(1:Int))))],h:=[] }):=by kernel_rfl
theorem dt_e {n:Int}{s:ByteArray}{i:Int}:(rT dtG nol 0 54 (bodyOf Try.f158 0) dtK dtK (dtS n s i)).go [false] =
 some ([!decide (i<(10:Int))],Ex.exit 0,{ sl:=slots 21 [(0,I64 n),(3,AV.c (AC.v (Value.string s))),(4,I64 i)],h:=[] }):=by kernel_rfl
theorem dt_w {n:Int}{z:Int}{s:ByteArray}:(lfun dtG (tell (bodyOf Try.f158 0) (dtS n ⟨#[]⟩ 0) (.exit 0,dtS n s z)) 60 Try.f158 [I64 n] []).go [] =
 some ([yes (wasS (bodyOf Try.f158 0) (dtS n ⟨#[]⟩ 0))],AV.c (AC.v (Value.string s)),[]):=by kernel_rfl
theorem u64_nn (x:Int):decide ((0:Int)<=u64 x)=true:=by
 refine decide_eq_true ?_
 unfold u64
 rw [IntKind.wrap_u64];omega
theorem dt_loop {n:Int}:∀ d (i:Nat) (s:ByteArray),i+d=10->Sm (24*i) s->∃ s':ByteArray,Sm 240 s'/\LoopR dtG 0 (bodyOf Try.f158 0) (dtS n s (i:Nat)) (.exit 0,dtS n s' (10:Nat))
 | 0,i,s,h,hs=>by
  have:i=10:=by omega
  subst this
  exact ⟨s,sm_le hs (by omega),LoopR.stop (by simp) (rT_sem dtG_ok noLoopsS ((rT_go (dt_e (i:=((10:Nat):Int))) ⟨by rw [decide_eq_false (by omega)];rfl,trivial⟩).trans rfl))⟩
 | d+1,i,s,h,hs=>by
  have e3:=succ64 (j:=i) (by omega)
  have ho:=sm_dtT (0+(and64 (n.fdiv ((2:Int)^min (u64 (w64 ((3:Int)*((i:Nat):Int)))).toNat IntKind.i64.bits)) (7:Int)).toNat)
  obtain ⟨s',h1,h2⟩:=dt_loop d (i+1) (s++dtT.getD (0+(and64 (n.fdiv ((2:Int)^min (u64 (w64 ((3:Int)*((i:Nat):Int)))).toNat IntKind.i64.bits)) (7:Int)).toNat) (⟨#[]⟩:ByteArray)) (by omega) (sm_le (sm_app hs ho) (by omega))
  refine ⟨s',h1,LoopR.next (rT_sem dtG_ok noLoopsS ((rT_go (dt_go (i:=((i:Nat):Int))) ?_).trans ?_)) h2⟩
  ·repeat' (first|exact AllT.nil|refine AllT.cons ?_ ?_)
   all_goals first|(with_reducible rfl)|(with_reducible exact u64_nn _)|(with_reducible exact k7a _)|(with_reducible exact k7b _)|(with_reducible exact k7c _)|(with_reducible exact sm_max hs ho (by omega))|exact decide_eq_true (by omega)
  ·simp only [e3];rfl
theorem dt_ex (n:Int):∃ s:ByteArray,Sm 240 s/\∃ ℓ,LoopsSem dtG 0 ℓ/\(lfun dtG ℓ 60 Try.f158 [I64 n] []).eval=some (StrA s,[]):=by
 obtain ⟨s,h1,h2⟩:=dt_loop (n:=n) 10 0 ⟨#[]⟩ (by omega) (by unfold Sm;decide)
 exact ⟨s,h1,_,tell_ok h2.sem,(Tr.go_eval (dt_w (z:=((10:Nat):Int))) ⟨yes_of ⟨rfl,rfl⟩,trivial⟩).trans rfl⟩
noncomputable def dtR (n:Int):ByteArray:=Classical.choose (dt_ex n)
theorem dtR_ok (n:Int):Sm 240 (dtR n)/\∃ ℓ,LoopsSem dtG 0 ℓ/\(lfun dtG ℓ 60 Try.f158 [I64 n] []).eval=some (StrA (dtR n),[]):=Classical.choose_spec (dt_ex n)
noncomputable def dtF:Spec:=fun args h=>match args,h with
 | [.c (.v (.int .i64 n))],[]=>.ret (StrA (dtR n),[])
 | _,_=>.fail
theorem dtF_ok:SpecOk Try.prog 158 dtF:=by
 refine knownS nilK Try.func158 fun args h r he=>?_
 unfold dtF at he
 split at he
 ·rename_i n
  cases he
  obtain ⟨ℓ,hl,hw⟩:=(dtR_ok n).2
  exact ⟨_,[],60,ℓ,hl,hw⟩
 ·cases he
end
section
open Go Go.RowKit
noncomputable def KOP:Known:=[(159,txF),(158,dtF)]
theorem KOP_ok:KnownOk KOP:=consK txF_ok (by kernel_rfl) (consK dtF_ok (by kernel_rfl) nilK)
noncomputable def opG:Ctx2:=GT KOP (fun _=>[]) 0 []
def opT:List Int:=[(1:Int),(1:Int),(2:Int),(3:Int),(4:Int),(5:Int),(6:Int),(1:Int),(2:Int),(5:Int),(3:Int),(7:Int)]
theorem op_tb {n m:Int}:(lfun opG nol 60 Try.f139 [I64 n,I64 m] []).go []=some ([true,decide ((0:Int)<=(and64 n 255).tmod 12),decide ((and64 n 255).tmod 12<((12:Nat):Int)),decide (0+((and64 n 255).tmod 12).toNat<12),true,true,true,true,true,and64 (n.fdiv (2^min 24 IntKind.i64.bits)) 3==(0:Int),true,true,opT.getD (0+((and64 n 255).tmod 12).toNat) (0:Int)==(2:Int),true,true,true,true],.agg [i64 (opT.getD (0+((and64 n 255).tmod 12).toNat) (0:Int)),i64 (w64 ((and64 (n.fdiv (2^min 8 IntKind.i64.bits)) 255).tmod 24-(1:Int))),i64 (w64 ((and64 (n.fdiv (2^min 16 IntKind.i64.bits)) 255).tmod 20-(1:Int))),i64 ((and64 (n.fdiv (2^min 26 IntKind.i64.bits)) 255).tmod 20),.v (.string (dtR m))],[]):=by kernel_rfl
theorem op_tc {n m:Int}:(lfun opG nol 60 Try.f139 [I64 n,I64 m] []).go (dN 16 4095)=some ([true,decide ((0:Int)<=(and64 n 255).tmod 12),decide ((and64 n 255).tmod 12<((12:Nat):Int)),decide (0+((and64 n 255).tmod 12).toNat<12),true,true,true,true,true,and64 (n.fdiv (2^min 24 IntKind.i64.bits)) 3==(0:Int),true,true,!opT.getD (0+((and64 n 255).tmod 12).toNat) (0:Int)==(2:Int),true,true,true,opT.getD (0+((and64 n 255).tmod 12).toNat) (0:Int)==(4:Int)],.agg [i64 (opT.getD (0+((and64 n 255).tmod 12).toNat) (0:Int)),i64 (w64 ((and64 (n.fdiv (2^min 8 IntKind.i64.bits)) 255).tmod 24-(1:Int))),i64 (w64 ((and64 (n.fdiv (2^min 16 IntKind.i64.bits)) 255).tmod 20-(1:Int))),i64 ((and64 (n.fdiv (2^min 26 IntKind.i64.bits)) 255).tmod 20),.v (.string (dtR m))],[]):=by kernel_rfl
theorem op_td {n m:Int}:(lfun opG nol 60 Try.f139 [I64 n,I64 m] []).go (dN 17 4095)=some ([true,decide ((0:Int)<=(and64 n 255).tmod 12),decide ((and64 n 255).tmod 12<((12:Nat):Int)),decide (0+((and64 n 255).tmod 12).toNat<12),true,true,true,true,true,and64 (n.fdiv (2^min 24 IntKind.i64.bits)) 3==(0:Int),true,true,!opT.getD (0+((and64 n 255).tmod 12).toNat) (0:Int)==(2:Int),true,true,true,!opT.getD (0+((and64 n 255).tmod 12).toNat) (0:Int)==(4:Int),true,and64 (n.fdiv (2^min 40 IntKind.i64.bits)) 15==(9:Int),decide ((0:Int)<=and64 m 3),decide (and64 m 3<((4:Nat):Int)),decide (0+(and64 m 3).toNat<4)],.agg [i64 (opT.getD (0+((and64 n 255).tmod 12).toNat) (0:Int)),i64 (w64 ((and64 (n.fdiv (2^min 8 IntKind.i64.bits)) 255).tmod 24-(1:Int))),i64 (w64 ((and64 (n.fdiv (2^min 16 IntKind.i64.bits)) 255).tmod 20-(1:Int))),i64 ((and64 (n.fdiv (2^min 26 IntKind.i64.bits)) 255).tmod 20),.v (.string ([(⟨#[120]⟩:ByteArray),(⟨#[119,105,100,116,104]⟩:ByteArray),(⟨#[99,111,108,111,114,58,32,114,101,100]⟩:ByteArray),(⟨#[119,105,100,116,104,58,32,45,49,112,120]⟩:ByteArray)].getD (0+(and64 m 3).toNat) (⟨#[]⟩:ByteArray)))],[]):=by kernel_rfl
theorem op_te {n m:Int}:(lfun opG nol 60 Try.f139 [I64 n,I64 m] []).go (dN 19 135167)=some ([true,decide ((0:Int)<=(and64 n 255).tmod 12),decide ((and64 n 255).tmod 12<((12:Nat):Int)),decide (0+((and64 n 255).tmod 12).toNat<12),true,true,true,true,true,and64 (n.fdiv (2^min 24 IntKind.i64.bits)) 3==(0:Int),true,true,!opT.getD (0+((and64 n 255).tmod 12).toNat) (0:Int)==(2:Int),true,true,true,!opT.getD (0+((and64 n 255).tmod 12).toNat) (0:Int)==(4:Int),true,!and64 (n.fdiv (2^min 40 IntKind.i64.bits)) 15==(9:Int),true,true,decInt (0:Int) (and64 m 3) 3,yes ((and64 m 3).toNat<=3/\(0:Int)=(0:Int))],.agg [i64 (opT.getD (0+((and64 n 255).tmod 12).toNat) (0:Int)),i64 (w64 ((and64 (n.fdiv (2^min 8 IntKind.i64.bits)) 255).tmod 24-(1:Int))),i64 (w64 ((and64 (n.fdiv (2^min 16 IntKind.i64.bits)) 255).tmod 20-(1:Int))),i64 ((and64 (n.fdiv (2^min 26 IntKind.i64.bits)) 255).tmod 20),.v (.string (txR m (m.fdiv (2^min 17 IntKind.i64.bits)) (m.fdiv (2^min 34 IntKind.i64.bits)) (and64 m 3).toNat))],[]):=by kernel_rfl
theorem op_fb {n m:Int}:(lfun opG nol 60 Try.f139 [I64 n,I64 m] []).go (dN 10 511)=some ([true,decide ((0:Int)<=(and64 n 255).tmod 12),decide ((and64 n 255).tmod 12<((12:Nat):Int)),decide (0+((and64 n 255).tmod 12).toNat<12),true,true,true,true,true,!and64 (n.fdiv (2^min 24 IntKind.i64.bits)) 3==(0:Int),opT.getD (0+((and64 n 255).tmod 12).toNat) (0:Int)==(2:Int),true,true,true,true],.agg [i64 (opT.getD (0+((and64 n 255).tmod 12).toNat) (0:Int)),i64 (w64 ((and64 (n.fdiv (2^min 8 IntKind.i64.bits)) 255).tmod 24-(1:Int))),i64 (w64 ((and64 (n.fdiv (2^min 16 IntKind.i64.bits)) 255).tmod 20-(1:Int))),i64 (-1:Int),.v (.string (dtR m))],[]):=by kernel_rfl
theorem op_fc {n m:Int}:(lfun opG nol 60 Try.f139 [I64 n,I64 m] []).go (dN 14 511)=some ([true,decide ((0:Int)<=(and64 n 255).tmod 12),decide ((and64 n 255).tmod 12<((12:Nat):Int)),decide (0+((and64 n 255).tmod 12).toNat<12),true,true,true,true,true,!and64 (n.fdiv (2^min 24 IntKind.i64.bits)) 3==(0:Int),!opT.getD (0+((and64 n 255).tmod 12).toNat) (0:Int)==(2:Int),true,true,true,opT.getD (0+((and64 n 255).tmod 12).toNat) (0:Int)==(4:Int)],.agg [i64 (opT.getD (0+((and64 n 255).tmod 12).toNat) (0:Int)),i64 (w64 ((and64 (n.fdiv (2^min 8 IntKind.i64.bits)) 255).tmod 24-(1:Int))),i64 (w64 ((and64 (n.fdiv (2^min 16 IntKind.i64.bits)) 255).tmod 20-(1:Int))),i64 (-1:Int),.v (.string (dtR m))],[]):=by kernel_rfl
theorem op_fd {n m:Int}:(lfun opG nol 60 Try.f139 [I64 n,I64 m] []).go (dN 15 511)=some ([true,decide ((0:Int)<=(and64 n 255).tmod 12),decide ((and64 n 255).tmod 12<((12:Nat):Int)),decide (0+((and64 n 255).tmod 12).toNat<12),true,true,true,true,true,!and64 (n.fdiv (2^min 24 IntKind.i64.bits)) 3==(0:Int),!opT.getD (0+((and64 n 255).tmod 12).toNat) (0:Int)==(2:Int),true,true,true,!opT.getD (0+((and64 n 255).tmod 12).toNat) (0:Int)==(4:Int),true,and64 (n.fdiv (2^min 40 IntKind.i64.bits)) 15==(9:Int),decide ((0:Int)<=and64 m 3),decide (and64 m 3<((4:Nat):Int)),decide (0+(and64 m 3).toNat<4)],.agg [i64 (opT.getD (0+((and64 n 255).tmod 12).toNat) (0:Int)),i64 (w64 ((and64 (n.fdiv (2^min 8 IntKind.i64.bits)) 255).tmod 24-(1:Int))),i64 (w64 ((and64 (n.fdiv (2^min 16 IntKind.i64.bits)) 255).tmod 20-(1:Int))),i64 (-1:Int),.v (.string ([(⟨#[120]⟩:ByteArray),(⟨#[119,105,100,116,104]⟩:ByteArray),(⟨#[99,111,108,111,114,58,32,114,101,100]⟩:ByteArray),(⟨#[119,105,100,116,104,58,32,45,49,112,120]⟩:ByteArray)].getD (0+(and64 m 3).toNat) (⟨#[]⟩:ByteArray)))],[]):=by kernel_rfl
theorem op_fe {n m:Int}:(lfun opG nol 60 Try.f139 [I64 n,I64 m] []).go (dN 17 33279)=some ([true,decide ((0:Int)<=(and64 n 255).tmod 12),decide ((and64 n 255).tmod 12<((12:Nat):Int)),decide (0+((and64 n 255).tmod 12).toNat<12),true,true,true,true,true,!and64 (n.fdiv (2^min 24 IntKind.i64.bits)) 3==(0:Int),!opT.getD (0+((and64 n 255).tmod 12).toNat) (0:Int)==(2:Int),true,true,true,!opT.getD (0+((and64 n 255).tmod 12).toNat) (0:Int)==(4:Int),true,!and64 (n.fdiv (2^min 40 IntKind.i64.bits)) 15==(9:Int),true,true,decInt (0:Int) (and64 m 3) 3,yes ((and64 m 3).toNat<=3/\(0:Int)=(0:Int))],.agg [i64 (opT.getD (0+((and64 n 255).tmod 12).toNat) (0:Int)),i64 (w64 ((and64 (n.fdiv (2^min 8 IntKind.i64.bits)) 255).tmod 24-(1:Int))),i64 (w64 ((and64 (n.fdiv (2^min 16 IntKind.i64.bits)) 255).tmod 20-(1:Int))),i64 (-1:Int),.v (.string (txR m (m.fdiv (2^min 17 IntKind.i64.bits)) (m.fdiv (2^min 34 IntKind.i64.bits)) (and64 m 3).toNat))],[]):=by kernel_rfl
def encA (o:Opp):List AC:=[i64 o.k,i64 o.i,i64 o.a,i64 o.b,.v (.string o.s)]
theorem opT_by:∀ (l:List Int),l.all byOk=true->∀ i,byOk (l.getD i (0:Int))=true
 | [],_,i=>rfl
 | x::l,h,i=>by
  simp only [List.all_cons,Bool.and_eq_true] at h
  cases i with
  | zero=>exact h.1
  | succ j=>exact opT_by l h.2 j
theorem bt2 (b:Bool):b=true\/(!b)=true:=by cases b <;> simp
theorem t12 (a:Int):0<=(and64 a (255:Int)).tmod (12:Int)/\(and64 a (255:Int)).tmod (12:Int)<12:=tm (and64 a 255) 12 (m255 a).1 (by decide)
theorem t12a (a:Int):decide ((0:Int)<=(and64 a (255:Int)).tmod (12:Int))=true:=by have:=t12 a;exact decide_eq_true (by omega)
theorem t12b (a:Int):decide ((and64 a (255:Int)).tmod (12:Int)<((12:Nat):Int))=true:=by have:=t12 a;exact decide_eq_true (by omega)
theorem t12c (a:Int):decide (0+((and64 a (255:Int)).tmod (12:Int)).toNat<12)=true:=by have:=t12 a;exact decide_eq_true (by omega)
theorem k3d (a:Int):decInt (0:Int) (and64 a (3:Int)) (3:Nat)=true:=by
 have:=m3 a
 unfold decInt;simp only [Bool.and_eq_true,decide_eq_true_eq];omega
theorem k3y (a:Int):yes ((and64 a (3:Int)).toNat<=3/\(0:Int)=0)=true:=by have:=m3 a;exact yes_of ⟨by omega,rfl⟩
theorem fi20 (a:Int):fits (w64 ((and64 a (255:Int)).tmod (20:Int)-(1:Int)))=true:=by
 have h:=tm (and64 a 255) 20 (m255 a).1 (by decide)
 rw [w64_id (by omega) (by omega)];unfold fits;simp only [Bool.and_eq_true,decide_eq_true_eq];omega
theorem fi24 (a:Int):fits (w64 ((and64 a (255:Int)).tmod (24:Int)-(1:Int)))=true:=by
 have h:=tm (and64 a 255) 24 (m255 a).1 (by decide)
 rw [w64_id (by omega) (by omega)];unfold fits;simp only [Bool.and_eq_true,decide_eq_true_eq];omega
theorem fi0 (a:Int):fits ((and64 a (255:Int)).tmod (20:Int))=true:=by
 have h:=tm (and64 a 255) 20 (m255 a).1 (by decide)
 unfold fits;simp only [Bool.and_eq_true,decide_eq_true_eq];omega
theorem op_ok {o:Opp}(h1:byOk o.k=true) (h2:fits o.i=true) (h3:fits o.a=true) (h4:fits o.b=true) (h5:Sm 303 o.s):opOk o=true:=by
 unfold opOk;rw [h1,h2,h3,h4];unfold Sm at h5;simp only [Bool.true_and,decide_eq_true_eq];omega
def opTx:List ByteArray:=[(⟨#[120]⟩:ByteArray),(⟨#[119,105,100,116,104]⟩:ByteArray),(⟨#[99,111,108,111,114,58,32,114,101,100]⟩:ByteArray),(⟨#[119,105,100,116,104,58,32,45,49,112,120]⟩:ByteArray)]
theorem sm_opTx (i:Nat):Sm 24 (opTx.getD i (⟨#[]⟩:ByteArray)):=sm_t opTx (by decide) i
def OpRes (n m:Int) (o:Opp):Prop:=opOk o=true/\(lfun opG nol 60 Try.f139 [I64 n,I64 m] []).eval=some (.agg (encA o),[])
theorem op_exi (n m:Int):∃ o,OpRes n m o:=by
 have hk:=m3 m
 have ht:=(txR_ok m (m.fdiv ((2:Int)^min 17 IntKind.i64.bits)) (m.fdiv ((2:Int)^min 34 IntKind.i64.bits)) (k:=(and64 m 3).toNat) (by omega)).1
 rcases bt2 (and64 (n.fdiv ((2:Int)^min 24 IntKind.i64.bits)) (3:Int)==(0:Int)) with hA|hA <;>
 rcases bt2 (opT.getD (0+((and64 n (255:Int)).tmod (12:Int)).toNat) (0:Int)==(2:Int)) with hB|hB
 ·exact ⟨⟨_,_,_,_,_⟩,op_ok (opT_by opT (by decide) _) (fi24 _) (fi20 _) (fi0 _) (sm_le (dtR_ok _).1 (by decide)),(Tr.go_eval op_tb (by ((repeat' (first|exact AllT.nil|refine AllT.cons ?_ ?_));all_goals first|(with_reducible rfl)|(with_reducible assumption)|with_reducible exact t12a _|with_reducible exact t12b _|with_reducible exact t12c _|with_reducible exact k3a _|with_reducible exact k3b _|with_reducible exact k3c _|with_reducible exact k3d _|with_reducible exact k3y _))).trans rfl⟩
 ·rcases bt2 (opT.getD (0+((and64 n (255:Int)).tmod (12:Int)).toNat) (0:Int)==(4:Int)) with hC|hC
  ·exact ⟨⟨_,_,_,_,_⟩,op_ok (opT_by opT (by decide) _) (fi24 _) (fi20 _) (fi0 _) (sm_le (dtR_ok _).1 (by decide)),(Tr.go_eval op_tc (by ((repeat' (first|exact AllT.nil|refine AllT.cons ?_ ?_));all_goals first|(with_reducible rfl)|(with_reducible assumption)|with_reducible exact t12a _|with_reducible exact t12b _|with_reducible exact t12c _|with_reducible exact k3a _|with_reducible exact k3b _|with_reducible exact k3c _|with_reducible exact k3d _|with_reducible exact k3y _))).trans rfl⟩
  ·rcases bt2 (and64 (n.fdiv ((2:Int)^min 40 IntKind.i64.bits)) (15:Int)==(9:Int)) with hD|hD
   ·exact ⟨⟨_,_,_,_,_⟩,op_ok (opT_by opT (by decide) _) (fi24 _) (fi20 _) (fi0 _) (sm_le (sm_opTx _) (by decide)),(Tr.go_eval op_td (by ((repeat' (first|exact AllT.nil|refine AllT.cons ?_ ?_));all_goals first|(with_reducible rfl)|(with_reducible assumption)|with_reducible exact t12a _|with_reducible exact t12b _|with_reducible exact t12c _|with_reducible exact k3a _|with_reducible exact k3b _|with_reducible exact k3c _|with_reducible exact k3d _|with_reducible exact k3y _))).trans rfl⟩
   ·exact ⟨⟨_,_,_,_,_⟩,op_ok (opT_by opT (by decide) _) (fi24 _) (fi20 _) (fi0 _) ht,(Tr.go_eval op_te (by ((repeat' (first|exact AllT.nil|refine AllT.cons ?_ ?_));all_goals first|(with_reducible rfl)|(with_reducible assumption)|with_reducible exact t12a _|with_reducible exact t12b _|with_reducible exact t12c _|with_reducible exact k3a _|with_reducible exact k3b _|with_reducible exact k3c _|with_reducible exact k3d _|with_reducible exact k3y _))).trans rfl⟩
 ·exact ⟨⟨_,_,_,_,_⟩,op_ok (opT_by opT (by decide) _) (fi24 _) (fi20 _) (by decide:fits (-1)=true) (sm_le (dtR_ok _).1 (by decide)),(Tr.go_eval op_fb (by ((repeat' (first|exact AllT.nil|refine AllT.cons ?_ ?_));all_goals first|(with_reducible rfl)|(with_reducible assumption)|with_reducible exact t12a _|with_reducible exact t12b _|with_reducible exact t12c _|with_reducible exact k3a _|with_reducible exact k3b _|with_reducible exact k3c _|with_reducible exact k3d _|with_reducible exact k3y _))).trans rfl⟩
 ·rcases bt2 (opT.getD (0+((and64 n (255:Int)).tmod (12:Int)).toNat) (0:Int)==(4:Int)) with hC|hC
  ·exact ⟨⟨_,_,_,_,_⟩,op_ok (opT_by opT (by decide) _) (fi24 _) (fi20 _) (by decide:fits (-1)=true) (sm_le (dtR_ok _).1 (by decide)),(Tr.go_eval op_fc (by ((repeat' (first|exact AllT.nil|refine AllT.cons ?_ ?_));all_goals first|(with_reducible rfl)|(with_reducible assumption)|with_reducible exact t12a _|with_reducible exact t12b _|with_reducible exact t12c _|with_reducible exact k3a _|with_reducible exact k3b _|with_reducible exact k3c _|with_reducible exact k3d _|with_reducible exact k3y _))).trans rfl⟩
  ·rcases bt2 (and64 (n.fdiv ((2:Int)^min 40 IntKind.i64.bits)) (15:Int)==(9:Int)) with hD|hD
   ·exact ⟨⟨_,_,_,_,_⟩,op_ok (opT_by opT (by decide) _) (fi24 _) (fi20 _) (by decide:fits (-1)=true) (sm_le (sm_opTx _) (by decide)),(Tr.go_eval op_fd (by ((repeat' (first|exact AllT.nil|refine AllT.cons ?_ ?_));all_goals first|(with_reducible rfl)|(with_reducible assumption)|with_reducible exact t12a _|with_reducible exact t12b _|with_reducible exact t12c _|with_reducible exact k3a _|with_reducible exact k3b _|with_reducible exact k3c _|with_reducible exact k3d _|with_reducible exact k3y _))).trans rfl⟩
   ·exact ⟨⟨_,_,_,_,_⟩,op_ok (opT_by opT (by decide) _) (fi24 _) (fi20 _) (by decide:fits (-1)=true) ht,(Tr.go_eval op_fe (by ((repeat' (first|exact AllT.nil|refine AllT.cons ?_ ?_));all_goals first|(with_reducible rfl)|(with_reducible assumption)|with_reducible exact t12a _|with_reducible exact t12b _|with_reducible exact t12c _|with_reducible exact k3a _|with_reducible exact k3b _|with_reducible exact k3c _|with_reducible exact k3d _|with_reducible exact k3y _))).trans rfl⟩
noncomputable def opV (n m:Int):Opp:=Classical.choose (op_exi n m)
theorem opV_ok (n m:Int):OpRes n m (opV n m):=Classical.choose_spec (op_exi n m)
noncomputable def opF:Spec:=fun args h=>match args,h with
 | [.c (.v (.int .i64 n)),.c (.v (.int .i64 m))],[]=>.ret (.agg (encA (opV n m)),[])
 | _,_=>.fail
theorem opF_ok:SpecOk Try.prog 139 opF:=by
 refine knownS KOP_ok Try.func139 fun args h r he=>?_
 unfold opF at he
 split at he
 ·rename_i n m
  cases he
  exact ⟨_,[],60,nol,noLoopsS,(opV_ok n m).2⟩
 ·cases he
end
section
open Go Go.RowKit
def rowJ (own:Bool) (n:Nat) (g:Nat->Int):Option ABlk:=some ⟨2,own,.row 1 n fun j=>v1 (g j)⟩
end
section
open Go Go.RowKit
noncomputable def KOS:Known:=[(139,opF)]
theorem KOS_ok:KnownOk KOS:=consK opF_ok (by kernel_rfl) nilK
abbrev osK:List (Nat × Option TypeId):=[(0,none),(3,some 121),(4,none)]
noncomputable def osG:Ctx2:=GT KOS (fun k=>if k=3 then osK else []) 0 []
theorem osG_ok:XOk osG:=GT_ok KOS_ok _ _ _
def rowP (own:Bool) (n:Nat) (P:Nat->Opp):Option ABlk:=some ⟨121,own,.row 5 n fun j=>encO (P j)⟩
def osO (own:Bool) (o K n:Nat) (g:Nat->Int) (na:Nat) (P:Nat->Opp) (i:Int):St:=
 ⟨slots 30 [(0,.c (.sl 0 o K)),(3,.c (.sl 1 0 na)),(4,I64 i)],[rowJ own n g,rowP true na P]⟩
theorem os_go {own:Bool}{o K n:Nat}{g:Nat->Int}{na:Nat}{P:Nat->Opp}{i:Int}:(rT osG nol 1 54 (bodyOf Try.f100 0) osK osK (osO own o K n g na P i)).go []=some ([decide (w64 (i+(1:Int))<((K:Nat):Int)),true,true,decide (i<(60:Int)),decide ((0:Int)<=i),decide (i<((K:Nat):Int)),decide (o+i.toNat<n),decide ((0:Int)<=w64 (i+(1:Int))),decide (w64 (i+(1:Int))<((K:Nat):Int)),decide (o+(w64 (i+(1:Int))).toNat<n),decide (na=na),true,decide ((na+1)*48<=maxCells)],Ex.normal,{ sl:=slots 30 [(0,.c (.sl 0 o K)),(3,.c (.sl 1 0 (na+1))),(4,I64 (w64 (i+(2:Int))))],h:=[some ⟨2,own,.row 1 n fun j=>[.int .i64 (g j)]⟩,some ⟨121,true,.row 5 (na+1) fun k=>[.int .i64 (bif decide (k=na) then (opV (g (o+i.toNat)) (g (o+(w64 (i+(1:Int))).toNat))).k else (P k).k),.int .i64 (bif decide (k=na) then (opV (g (o+i.toNat)) (g (o+(w64 (i+(1:Int))).toNat))).i else (P k).i),.int .i64 (bif decide (k=na) then (opV (g (o+i.toNat)) (g (o+(w64 (i+(1:Int))).toNat))).a else (P k).a),.int .i64 (bif decide (k=na) then (opV (g (o+i.toNat)) (g (o+(w64 (i+(1:Int))).toNat))).b else (P k).b),.string (bif decide (k=na) then (opV (g (o+i.toNat)) (g (o+(w64 (i+(1:Int))).toNat))).s else (P k).s)]⟩] }):=by kernel_rfl
theorem os_e1 {own:Bool}{o K n:Nat}{g:Nat->Int}{na:Nat}{P:Nat->Opp}{i:Int}:(rT osG nol 1 54 (bodyOf Try.f100 0) osK osK (osO own o K n g na P i)).go (dN 4 0)=some ([!decide (w64 (i+(1:Int))<((K:Nat):Int)),true,true,true],Ex.exit 0,{ sl:=slots 30 [(0,.c (.sl 0 o K)),(3,.c (.sl 1 0 na)),(4,I64 i)],h:=[some ⟨2,own,.row 1 n fun j=>[.int .i64 (g j)]⟩,some ⟨121,true,.row 5 na fun j=>[.int .i64 (P j).k,.int .i64 (P j).i,.int .i64 (P j).a,.int .i64 (P j).b,.string (P j).s]⟩] }):=by kernel_rfl
theorem os_e2 {own:Bool}{o K n:Nat}{g:Nat->Int}{na:Nat}{P:Nat->Opp}{i:Int}:(rT osG nol 1 54 (bodyOf Try.f100 0) osK osK (osO own o K n g na P i)).go (dN 4 7)=some ([decide (w64 (i+(1:Int))<((K:Nat):Int)),true,true,!decide (i<(60:Int))],Ex.exit 0,{ sl:=slots 30 [(0,.c (.sl 0 o K)),(3,.c (.sl 1 0 na)),(4,I64 i)],h:=[some ⟨2,own,.row 1 n fun j=>[.int .i64 (g j)]⟩,some ⟨121,true,.row 5 na fun j=>[.int .i64 (P j).k,.int .i64 (P j).i,.int .i64 (P j).a,.int .i64 (P j).b,.string (P j).s]⟩] }):=by kernel_rfl
theorem os_w {own:Bool}{o K n:Nat}{g:Nat->Int}{na:Nat}{P:Nat->Opp}{z:Int}:(lfun osG (tell (bodyOf Try.f100 0) (osO own o K n g 0 (fun _=>zOpp) 0) (.exit 0,osO own o K n g na P z)) 60 Try.f100 [.c (.sl 0 o K)] [rowJ own n g]).go []=some ([yes (wasS (bodyOf Try.f100 0) (osO own o K n g 0 (fun _=>zOpp) 0))],.c (.sl 1 0 na),[some ⟨2,own,.row 1 n fun j=>[.int .i64 (g j)]⟩,some ⟨121,true,.row 5 na fun j=>[.int .i64 (P j).k,.int .i64 (P j).i,.int .i64 (P j).a,.int .i64 (P j).b,.string (P j).s]⟩]):=by kernel_rfl
def appP (P:Nat->Opp) (n:Nat) (x:Opp):Nat->Opp:=fun q=>⟨bif decide (q=n) then x.k else (P q).k,bif decide (q=n) then x.i else (P q).i,bif decide (q=n) then x.a else (P q).a,bif decide (q=n) then x.b else (P q).b,bif decide (q=n) then x.s else (P q).s⟩
theorem appP_self (P:Nat->Opp) (n:Nat) (x:Opp):appP P n x n=x:=by simp [appP]
theorem appP_ne (P:Nat->Opp) (n:Nat) (x:Opp) {q:Nat}(h:q ≠ n):appP P n x q=P q:=by simp [appP,h]
noncomputable def opsL (g:Nat->Int):Nat->Nat->Opp
 | 0=>fun _=>zOpp
 | j+1=>appP (opsL g j) j (opV (g (2*j)) (g (2*j+1)))
theorem opsL_ok (g:Nat->Int):∀ N q,q<N->opOk (opsL g N q)=true
 | N+1,q,h=>by
  unfold opsL
  by_cases e:q=N
  ·rw [e,appP_self];exact (opV_ok _ _).1
  ·rw [appP_ne _ _ _ e];exact opsL_ok g N q (by omega)
def osN (K:Nat):Nat:=min (K / 2) 30
theorem os_loop {own:Bool}{o K n:Nat}{g:Nat->Int}(hn:o+K<=n) :
  CodeSem osG 1 (.loop (bodyOf Try.f100 0)) (osO own o K n g 0 (fun _=>zOpp) 0) (.exit 0,osO own o K n g (osN K) (opsL (fun j=>g (o+j)) (osN K)) ((2*osN K:Nat):Int)):=by
 have hN:osN K=min (K / 2) 30:=rfl
 generalize osN K=N at hN
 refine loop_of (fun i=>osO own o K n g i (opsL (fun j=>g (o+j)) i) ((2*i:Nat):Int)) N (by simp) ?_ fun j hj=>?_
 ·have e1:=succ64 (j:=2*N) (by omega)
  by_cases h:2*N+1<K
  ·have h2:N=30:=by omega
   subst h2
   exact rT_sem osG_ok noLoopsS (rT_go os_e2 ⟨by rw [e1];exact decide_eq_true (by omega),rfl,rfl,rfl,trivial⟩)
  ·exact rT_sem osG_ok noLoopsS (rT_go os_e1 ⟨by rw [e1,decide_eq_false (by omega)];rfl,rfl,rfl,rfl,trivial⟩)
 ·have e1:=succ64 (j:=2*j) (by omega)
  have e2:w64 (((2*j:Nat):Int)+2)=((2*(j+1):Nat):Int):=by rw [w64_id (by omega) (by omega)];omega
  refine rT_sem osG_ok noLoopsS ((rT_go (os_go (own:=own) (o:=o) (K:=K) (n:=n) (g:=g) (na:=j) (P:=opsL (fun j=>g (o+j)) j) (i:=((2*j:Nat):Int))) ?_).trans ?_)
  ·simp only [e1,Int.toNat_natCast]
   repeat' (first|exact AllT.nil|refine AllT.cons ?_ ?_)
   all_goals first|(with_reducible rfl)|exact decide_eq_true (by omega)|exact decide_eq_true trivial|exact decide_eq_true (by unfold maxCells;omega)
  ·simp only [e1,e2,Int.toNat_natCast]
   rfl
noncomputable def osF:Spec:=fun args h=>match args,h with
 | [.c (.sl 0 o k)],[some ⟨2,own,.row 1 n f⟩]=>
  .need (yes (o+k<=n/\f=fun j=>v1 (vd (f j)))) (.ret (.c (.sl 1 0 (osN k)),[some ⟨2,own,.row 1 n f⟩,rowP true (osN k) (opsL (fun j=>vd (f (o+j))) (osN k))]))
 | _,_=>.fail
theorem osF_ok:SpecOk Try.prog 100 osF:=by
 refine knownS KOS_ok Try.func100 fun args h r he=>?_
 unfold osF at he
 split at he
 ·rename_i o k own n f
  obtain ⟨⟨h1,h2⟩,he⟩:=Tr.eval_ask.1 he
  cases he
  refine ⟨_,[],60,_,tell_ok (os_loop (own:=own) (g:=fun j=>vd (f j)) h1),?_⟩
  have e1:some ⟨2,own,.row 1 n f⟩=rowJ own n fun j=>vd (f j):=by rw [rowJ,<-h2]
  rw [e1]
  exact Tr.go_eval os_w ⟨yes_of ⟨rfl,rfl⟩,trivial⟩
 ·cases he
end
section
open Go Go.RowKit
noncomputable def KWO:Known:=[(140,wbF),(143,wnF),(160,wtF)]
theorem KWO_ok:KnownOk KWO:=consK wbF_ok (by kernel_rfl) (consK wnF_ok (by kernel_rfl) (consK wtF_ok (by kernel_rfl) nilK))
abbrev wqK:List (Nat × Option TypeId):=[(0,none),(22,none),(23,none),(24,none)]
noncomputable def wqG:Ctx2:=GT KWO (fun k=>if k=3 then wqK else []) 0 []
theorem wqG_ok:XOk wqG:=GT_ok KWO_ok _ _ _
def wqS (own:Bool) (m:Nat) (P:Nat->Opp) (bad:Bool) (k:Nat) (B:Nat->Int) (i:Int):St:=
 ⟨slots 49 [(0,.c (.ptr 0 0 0)),(22,.c (.sl 1 0 m)),(23,I64 m),(24,I64 i)],[some ⟨168,true,.one [.sl 3 0 k,.v (.bool bad)]⟩,rowP own m P,none,rowU true k B]⟩
theorem wq_go {own:Bool}{m:Nat}{P:Nat->Opp}{bad:Bool}{k:Nat}{B:Nat->Int}{i:Int}:(rT wqG nol 3 55 (bodyOf Try.f141 0) wqK wqK (wqS own m P bad k B i)).go []=some ([decide (i<((m:Nat):Int)),decide ((0:Int)<=i),decide (i<((m:Nat):Int)),decide (0+i.toNat<m),yes (k+1<=maxCells/\k=k/\(fun j=>ub (B j))=fun j=>ub (ud (ub (B j)))),yes (k+1+4<=maxCells/\k+1=k+1/\(fun j=>ub (appB (fun j=>ud (ub (B j))) k (IntKind.u8.wrap (P (0+i.toNat)).k) j))=fun j=>ub (ud (ub (appB (fun j=>ud (ub (B j))) k (IntKind.u8.wrap (P (0+i.toNat)).k) j)))),yes (k+1+1+1+1+1+4<=maxCells/\k+1+1+1+1+1=k+1+1+1+1+1/\(fun j=>ub (fourB (fun j=>ud (ub (appB (fun j=>ud (ub (B j))) k (IntKind.u8.wrap (P (0+i.toNat)).k) j))) (k+1) (P (0+i.toNat)).i j))=fun j=>ub (ud (ub (fourB (fun j=>ud (ub (appB (fun j=>ud (ub (B j))) k (IntKind.u8.wrap (P (0+i.toNat)).k) j))) (k+1) (P (0+i.toNat)).i j)))),yes (k+1+1+1+1+1+1+1+1+1+4<=maxCells/\k+1+1+1+1+1+1+1+1+1=k+1+1+1+1+1+1+1+1+1/\(fun j=>ub (fourB (fun j=>ud (ub (fourB (fun j=>ud (ub (appB (fun j=>ud (ub (B j))) k (IntKind.u8.wrap (P (0+i.toNat)).k) j))) (k+1) (P (0+i.toNat)).i j))) (k+1+1+1+1+1) (P (0+i.toNat)).a j))=fun j=>ub (ud (ub (fourB (fun j=>ud (ub (fourB (fun j=>ud (ub (appB (fun j=>ud (ub (B j))) k (IntKind.u8.wrap (P (0+i.toNat)).k) j))) (k+1) (P (0+i.toNat)).i j))) (k+1+1+1+1+1) (P (0+i.toNat)).a j)))),yes (k+1+1+1+1+1+1+1+1+1+1+1+1+1+2+(P (0+i.toNat)).s.size<=maxCells/\k+1+1+1+1+1+1+1+1+1+1+1+1+1=k+1+1+1+1+1+1+1+1+1+1+1+1+1/\(fun j=>ub (fourB (fun j=>ud (ub (fourB (fun j=>ud (ub (fourB (fun j=>ud (ub (appB (fun j=>ud (ub (B j))) k (IntKind.u8.wrap (P (0+i.toNat)).k) j))) (k+1) (P (0+i.toNat)).i j))) (k+1+1+1+1+1) (P (0+i.toNat)).a j))) (k+1+1+1+1+1+1+1+1+1) (P (0+i.toNat)).b j))=fun j=>ub (ud (ub (fourB (fun j=>ud (ub (fourB (fun j=>ud (ub (fourB (fun j=>ud (ub (appB (fun j=>ud (ub (B j))) k (IntKind.u8.wrap (P (0+i.toNat)).k) j))) (k+1) (P (0+i.toNat)).i j))) (k+1+1+1+1+1) (P (0+i.toNat)).a j))) (k+1+1+1+1+1+1+1+1+1) (P (0+i.toNat)).b j))))],Ex.normal,{ sl:=slots 49 [(0,.c (.ptr 0 0 0)),(22,.c (.sl 1 0 m)),(23,I64 ((m:Nat):Int)),(24,I64 (w64 (i+(1:Int))))],h:=[some ⟨168,true,.one [.sl 3 0 (k+1+1+1+1+1+1+1+1+1+1+1+1+1+2+(P (0+i.toNat)).s.size),.v (.bool (bad||!byOk (P (0+i.toNat)).k||!fits (P (0+i.toNat)).i||!fits (P (0+i.toNat)).a||!fits (P (0+i.toNat)).b||decide ((((P (0+i.toNat)).s.size:Nat):Int)>(2000:Int))))]⟩,some ⟨121,own,.row 5 m fun j=>[.int .i64 (P j).k,.int .i64 (P j).i,.int .i64 (P j).a,.int .i64 (P j).b,.string (P j).s]⟩,none,some ⟨5,true,.row 1 (k+1+1+1+1+1+1+1+1+1+1+1+1+1+2+(P (0+i.toNat)).s.size) fun j=>[.int .u8 (txB (fun j=>ud (ub (fourB (fun j=>ud (ub (fourB (fun j=>ud (ub (fourB (fun j=>ud (ub (appB (fun j=>ud (ub (B j))) k (IntKind.u8.wrap (P (0+i.toNat)).k) j))) (k+1) (P (0+i.toNat)).i j))) (k+1+1+1+1+1) (P (0+i.toNat)).a j))) (k+1+1+1+1+1+1+1+1+1) (P (0+i.toNat)).b j))) (k+1+1+1+1+1+1+1+1+1+1+1+1+1) (P (0+i.toNat)).s j)]⟩] }):=by kernel_rfl
theorem wq_e {own:Bool}{m:Nat}{P:Nat->Opp}{bad:Bool}{k:Nat}{B:Nat->Int}{i:Int}:(rT wqG nol 3 55 (bodyOf Try.f141 0) wqK wqK (wqS own m P bad k B i)).go [false]=some ([!decide (i<((m:Nat):Int))],Ex.exit 0,{ sl:=slots 49 [(0,.c (.ptr 0 0 0)),(22,.c (.sl 1 0 m)),(23,I64 ((m:Nat):Int)),(24,I64 i)],h:=[some ⟨168,true,.one [.sl 3 0 k,.v (.bool bad)]⟩,some ⟨121,own,.row 5 m fun j=>[.int .i64 (P j).k,.int .i64 (P j).i,.int .i64 (P j).a,.int .i64 (P j).b,.string (P j).s]⟩,none,some ⟨5,true,.row 1 k fun j=>[.int .u8 (B j)]⟩] }):=by kernel_rfl
def oneB (B:Nat->Int) (k:Nat) (o:Opp):Nat->Int:=txB (fourB (fourB (fourB (appB B k (IntKind.u8.wrap o.k)) (k+1) o.i) (k+1+1+1+1+1) o.a) (k+1+1+1+1+1+1+1+1+1) o.b) (k+1+1+1+1+1+1+1+1+1+1+1+1+1) o.s
def oneBad (bad:Bool) (o:Opp):Bool:=((((bad||!byOk o.k)||!fits o.i)||!fits o.a)||!fits o.b)||decide (((o.s.size:Nat):Int)>2000)
def wqLen (P:Nat->Opp) (k:Nat):Nat->Nat
 | 0=>k
 | i+1=>wqLen P k i+1+1+1+1+1+1+1+1+1+1+1+1+1+2+(P i).s.size
def wqBad (P:Nat->Opp) (bad:Bool):Nat->Bool
 | 0=>bad
 | i+1=>oneBad (wqBad P bad i) (P i)
def wqBs (P:Nat->Opp) (k:Nat) (B:Nat->Int):Nat->Nat->Int
 | 0=>B
 | i+1=>oneB (wqBs P k B i) (wqLen P k i) (P i)
theorem wqLen_le (P:Nat->Opp) (k:Nat) (i:Nat):∀ d,wqLen P k i+15*d<=wqLen P k (i+d)
 | 0=>Nat.le_refl _
 | d+1=>by
  have h:=wqLen_le P k i d
  show _<=wqLen P k (i+d+1)
  simp only [wqLen]
  omega
theorem wq_loop {own:Bool}{m:Nat}{P:Nat->Opp}{bad:Bool}{k:Nat}{B:Nat->Int}(hm:wqLen P k m<=maxCells) :
  CodeSem wqG 3 (.loop (bodyOf Try.f141 0)) (wqS own m P bad k B 0) (.exit 0,wqS own m P (wqBad P bad m) (wqLen P k m) (wqBs P k B m) (m:Nat)):=by
 have h0:=wqLen_le P k 0 m
 rw [Nat.zero_add] at h0
 have hM:maxCells<2^60:=by unfold maxCells;omega
 refine loop_of (fun i=>wqS own m P (wqBad P bad i) (wqLen P k i) (wqBs P k B i) (i:Nat)) m (by simp) ?_ fun j hj=>?_
 ·exact rT_sem wqG_ok noLoopsS (rT_go wq_e ⟨by rw [decide_eq_false (by omega)];rfl,trivial⟩)
 ·have e1:=succ64 (j:=j) (by omega)
  have h1:=wqLen_le P k (j+1) (m-(j+1))
  rw [show j+1+(m-(j+1))=m by omega] at h1
  have h2:wqLen P k (j+1)=wqLen P k j+1+1+1+1+1+1+1+1+1+1+1+1+1+2+(P j).s.size:=rfl
  refine rT_sem wqG_ok noLoopsS ((rT_go (wq_go (own:=own) (m:=m) (P:=P) (bad:=wqBad P bad j) (k:=wqLen P k j) (B:=wqBs P k B j) (i:=((j:Nat):Int))) ?_).trans ?_)
  ·simp only [Int.toNat_natCast,Nat.zero_add]
   repeat' (first|exact AllT.nil|refine AllT.cons ?_ ?_)
   all_goals first|(with_reducible rfl)|exact decide_eq_true (by omega)|exact yes_of ⟨by omega,by first|rfl|trivial,by first|rfl|trivial⟩
  ·simp only [Int.toNat_natCast,Nat.zero_add,e1]
   rfl
end
section
open Go Go.RowKit
def wqA (own:Bool) (m:Nat) (P:Nat->Opp) (bad:Bool) (k:Nat) (B:Nat->Int):AHeap:=[some ⟨168,true,.one [.sl 2 0 k,.v (.bool bad)]⟩,rowP own m P,rowU true k B]
def wq0 (own:Bool) (m:Nat) (P:Nat->Opp) (bad:Bool) (k:Nat) (B:Nat->Int):St:=wqS own m P (bad||!byOk (m:Nat)) (k+1) (appB B k (IntKind.u8.wrap (m:Nat))) 0
def wqE (own:Bool) (m:Nat) (P:Nat->Opp) (bad:Bool) (k:Nat) (B:Nat->Int) (z:Int):St:=wqS own m P bad k B z
theorem wq_wt {own:Bool}{m:Nat}{P:Nat->Opp}{k:Nat}{B:Nat->Int}{b2:Bool}{k2:Nat}{B2:Nat->Int}{z:Int}:(lfun wqG (tell (bodyOf Try.f141 0) (wq0 own m P true k B) (.exit 0,wqE own m P b2 k2 B2 z)) 60 Try.f141 [.c (.ptr 0 0 0),.c (.sl 1 0 m)] (wqA own m P true k B)).go [] =
 some
  ([true,true,true,true,
    yes (k+1<=maxCells/\k=k/\(fun j=>ub (B j))=fun j=>ub (ud (ub (B j)))),yes (wasS (bodyOf Try.f141 0) (wq0 own m P true k B))],
   AV.tup [],
   [some { t:=168,own:=true,c:=Cont.one [AC.sl 3 0 k2,AC.v (Value.bool b2)] },
    some
     {t:=121,own:=own,
      c:=
       Cont.row 5 m fun j=>
        [Value.int IntKind.i64 (P j).k,Value.int IntKind.i64 (P j).i,Value.int IntKind.i64 (P j).a,
         Value.int IntKind.i64 (P j).b,Value.string (P j).s] },
    none,some { t:=5,own:=true,c:=Cont.row 1 k2 fun j=>[Value.int IntKind.u8 (B2 j)] }]):=by kernel_rfl
theorem wq_wf {own:Bool}{m:Nat}{P:Nat->Opp}{k:Nat}{B:Nat->Int}{b2:Bool}{k2:Nat}{B2:Nat->Int}{z:Int}:(lfun wqG (tell (bodyOf Try.f141 0) (wq0 own m P (decide (((m:Nat):Int)>100)) k B) (.exit 0,wqE own m P b2 k2 B2 z)) 60 Try.f141 [.c (.ptr 0 0 0),.c (.sl 1 0 m)] (wqA own m P false k B)).go (dN 4 0) =
 some
  ([true,true,true,true,
    yes (k+1<=maxCells/\k=k/\(fun j=>ub (B j))=fun j=>ub (ud (ub (B j)))),yes (wasS (bodyOf Try.f141 0) (wq0 own m P (decide (((m:Nat):Int)>100)) k B))],
   AV.tup [],
   [some { t:=168,own:=true,c:=Cont.one [AC.sl 3 0 k2,AC.v (Value.bool b2)] },
    some
     {t:=121,own:=own,
      c:=
       Cont.row 5 m fun j=>
        [Value.int IntKind.i64 (P j).k,Value.int IntKind.i64 (P j).i,Value.int IntKind.i64 (P j).a,
         Value.int IntKind.i64 (P j).b,Value.string (P j).s] },
    none,some { t:=5,own:=true,c:=Cont.row 1 k2 fun j=>[Value.int IntKind.u8 (B2 j)] }]):=by kernel_rfl
def wqZ (m:Nat) (bad:Bool):Bool:=bad||decide (((m:Nat):Int)>100)
noncomputable def wqF:Spec:=fun args h=>match args,h with
 | [.c (.ptr 0 0 0),.c (.sl 1 0 m)],[some ⟨168,true,.one [.sl 2 0 k,.v (.bool bad)]⟩,some ⟨121,own,.row 5 m' g⟩,some ⟨5,true,.row 1 k' f⟩]=>
  .need (yes (m'=m/\k'=k/\(g=fun j=>encO (decO (g j)))/\(f=fun j=>ub (ud (f j)))/\wqLen (fun j=>decO (g j)) (k+1) m<=maxCells))
   (.ret (.tup [],[some ⟨168,true,.one [.sl 3 0 (wqLen (fun j=>decO (g j)) (k+1) m),.v (.bool (wqBad (fun j=>decO (g j)) (wqZ m bad||!byOk (m:Nat)) m))]⟩,rowP own m (fun j=>decO (g j)),none,rowU true (wqLen (fun j=>decO (g j)) (k+1) m) (wqBs (fun j=>decO (g j)) (k+1) (appB (fun j=>ud (f j)) k (IntKind.u8.wrap (m:Nat))) m)]))
 | _,_=>.fail
theorem wqF_ok:SpecOk Try.prog 141 wqF:=by
 refine knownS KWO_ok Try.func141 fun args h r he=>?_
 unfold wqF at he
 split at he
 ·rename_i m k bad own m' g k' f
  obtain ⟨⟨h1,h2,h3,h4,h5⟩,he'⟩:=Tr.eval_ask.1 he
  subst h1
  subst h2
  cases he'
  have e1:some ⟨5,true,.row 1 k' f⟩=rowU true k' fun j=>ud (f j):=by rw [rowU,<-h4]
  have e2:some ⟨121,own,.row 5 m' g⟩=rowP own m' fun j=>decO (g j):=by rw [rowP,<-h3]
  rw [e1,e2]
  have h6:=wqLen_le (fun j=>decO (g j)) (k'+1) 0 m'
  rw [Nat.zero_add] at h6
  have h7:wqLen (fun j=>decO (g j)) (k'+1) 0=k'+1:=rfl
  have hl:=wq_loop (own:=own) (m:=m') (P:=fun j=>decO (g j)) (bad:=wqZ m' bad||!byOk (m':Nat)) (k:=k'+1) (B:=appB (fun j=>ud (f j)) k' (IntKind.u8.wrap (m':Nat))) h5
  cases bad
  ·exact ⟨_,[],60,_,tell_ok hl,(Tr.go_eval wq_wf ⟨rfl,rfl,rfl,rfl,yes_of ⟨by omega,rfl,rfl⟩,yes_of ⟨rfl,rfl⟩,trivial⟩).trans rfl⟩
  ·exact ⟨_,[],60,_,tell_ok hl,(Tr.go_eval wq_wt ⟨rfl,rfl,rfl,rfl,yes_of ⟨by omega,rfl,rfl⟩,yes_of ⟨rfl,rfl⟩,trivial⟩).trans rfl⟩
 ·cases he
end
section
open Go Go.RowKit
noncomputable def haG:Ctx2:=GT KWO (fun _=>[]) 0 []
theorem ha_w {bad:Bool}{k:Nat}{B:Nat->Int}{a b:Int}:(lfun haG nol 60 Try.f142 [.c (.ptr 0 0 0),.agg [i64 a,i64 b]] [wrB bad k,rowU true k B]).go [] =
 some
  ([yes (k+4<=maxCells/\k=k/\(fun j=>ub (B j))=fun j=>ub (ud (ub (B j)))),
    yes
     (k+1+1+1+1+4<=maxCells ∧
      k+1+1+1+1=k+1+1+1+1 ∧
       (fun j=>ub (fourB (fun j=>ud (ub (B j))) k a j))=fun j=>
        ub (ud (ub (fourB (fun j=>ud (ub (B j))) k a j))))],
   AV.tup [],
   [some
     {t:=168,own:=true,
      c:=
       Cont.one
        [AC.sl 2 0
          (k+1+1+1+1+1+1+1+1),
         AC.v (Value.bool (bad||!fits a||!fits b))] },
    none,
    some
     {t:=5,own:=true,
      c:=
       Cont.row 1
        (k+1+1+1+1+1+1+1+1)
        fun j=>
        [Value.int IntKind.u8
          (fourB (fun j=>ud (ub (fourB (fun j=>ud (ub (B j))) k a j)))
           (k+1+1+1+1) b j)] }]):=by kernel_rfl
def rdX (B:Nat->Int) (i n:Nat):Int:=bif ((n:Nat):Int)==(0:Int) then 0 else w64 (B i)
def rdI (i n:Nat):Nat:=bif ((n:Nat):Int)==(0:Int) then i else i+1
theorem rb_eval {bad own:Bool}{i n m:Nat}{B:Nat->Int}(h:i+n<=m):(lfun niG nol 60 Try.f162 [.c (.ptr 0 0 0)] [rdB bad i n,rowU own m B]).eval =
  some (I64 (rdX B i n),[some ⟨175,true,.one [.sl 1 (rdI i n) (n-1),.v (.bool (bad||((n:Nat):Int)==(0:Int)))]⟩,rowU own m B]):=by
 rw [rb_nf]
 unfold rdX rdI
 by_cases h0:n=0
 ·subst h0
  cases bad <;> rfl
 ·have e1:(((n:Nat):Int)==(0:Int))=false:=by simp only [beq_eq_false_iff_ne];omega
  have e2:decide ((0:Int)<((n:Nat):Int))=true:=decide_eq_true (by omega)
  have e3:decide (i<m)=true:=decide_eq_true (by omega)
  have e4:decInt (1:Int) ((n:Nat):Int) n=true:=by unfold decInt;simp only [Bool.and_eq_true,decide_eq_true_eq];omega
  simp only [e1,e2,e3,e4,cond_true,cond_false,Bool.or_false]
  rfl
noncomputable def rbF:Spec:=fun args h=>match args,h with
 | [.c (.ptr 0 0 0)],[some ⟨175,true,.one [.sl 1 i n,.v (.bool bad)]⟩,some ⟨5,own,.row 1 m f⟩]=>
  .need (yes (i+n<=m/\f=fun j=>ub (ud (f j)))) (.ret (I64 (rdX (fun j=>ud (f j)) i n),[some ⟨175,true,.one [.sl 1 (rdI i n) (n-1),.v (.bool (bad||((n:Nat):Int)==(0:Int)))]⟩,rowU own m (fun j=>ud (f j))]))
 | _,_=>.fail
theorem rbF_ok:SpecOk Try.prog 162 rbF:=by
 refine knownS nilK Try.func162 fun args h r he=>?_
 unfold rbF at he
 split at he
 ·rename_i i n bad own m f
  obtain ⟨⟨h1,h2⟩,he'⟩:=Tr.eval_ask.1 he
  cases he'
  have e1:some ⟨5,own,.row 1 m f⟩=rowU own m fun j=>ud (f j):=by rw [rowU,<-h2]
  exact ⟨_,[],60,nol,noLoopsS,by rw [e1];exact rb_eval h1⟩
 ·cases he
end
section
open Go Go.RowKit
noncomputable def haF:Spec:=fun args h=>match args,h with
 | [.c (.ptr 0 0 0),.agg [.v (.int .i64 a),.v (.int .i64 b)]],[some ⟨168,true,.one [.sl 1 0 k,.v (.bool bad)]⟩,some ⟨5,true,.row 1 k' f⟩]=>
  .need (yes (k+8<=maxCells/\k'=k/\f=fun j=>ub (ud (f j)))) (.ret (.tup [],[some ⟨168,true,.one [.sl 2 0 (k+1+1+1+1+1+1+1+1),.v (.bool (bad||!fits a||!fits b))]⟩,none,rowU true (k+1+1+1+1+1+1+1+1) (fourB (fourB (fun j=>ud (f j)) k a) (k+1+1+1+1) b)]))
 | _,_=>.fail
theorem haF_ok:SpecOk Try.prog 142 haF:=by
 refine knownS KWO_ok Try.func142 fun args h r he=>?_
 unfold haF at he
 split at he
 ·rename_i a b k bad k' f
  obtain ⟨⟨h1,h2,h3⟩,he'⟩:=Tr.eval_ask.1 he
  subst h2
  cases he'
  have e1:some ⟨5,true,.row 1 k' f⟩=rowU true k' fun j=>ud (f j):=by rw [rowU,<-h3]
  rw [e1]
  exact ⟨_,[],60,nol,noLoopsS,(Tr.go_eval ha_w ⟨yes_of ⟨by omega,rfl,rfl⟩,yes_of ⟨by omega,rfl,rfl⟩,trivial⟩).trans rfl⟩
 ·cases he
noncomputable def KRD:Known:=[(162,rbF)]
theorem KRD_ok:KnownOk KRD:=consK rbF_ok (by kernel_rfl) nilK
noncomputable def rnmG:Ctx2:=GK KRD (fun k=>if k=3 then [(0,none),(3,none),(4,none)] else []) 6
theorem rnm_nf {bad own:Bool}{i n m:Nat}{B:Nat->Int}:(afun rnmG 60 Try.f163 [.c (.ptr 0 0 0)] [rdB bad i n,rowU own m B]).eval=bif yes (i+n<=m/\(fun j=>ub (B j))=fun j=>ub (ud (ub (B j)))) then bif yes (rdI i n+(n-1)<=m/\(fun j=>ub (ud (ub (B j))))=fun j=>ub (ud (ub (ud (ub (B j)))))) then bif yes (rdI (rdI i n) (n-1)+(n-1-1)<=m/\(fun j=>ub (ud (ub (ud (ub (B j))))))=fun j=>ub (ud (ub (ud (ub (ud (ub (B j)))))))) then bif yes (rdI (rdI (rdI i n) (n-1)) (n-1-1)+(n-1-1-1)<=m/\(fun j=>ub (ud (ub (ud (ub (ud (ub (B j))))))))=fun j=>ub (ud (ub (ud (ub (ud (ub (ud (ub (B j)))))))))) then some (I64 (w64 (IntKind.i32.wrap (IntKind.u32.wrap (((BitVec.ofInt IntKind.u32.bits (IntKind.u32.wrap (IntKind.u32.wrap (((BitVec.ofInt IntKind.u32.bits (IntKind.u32.wrap (IntKind.u32.wrap (((BitVec.ofInt IntKind.u32.bits (IntKind.u32.wrap (IntKind.u32.wrap (((BitVec.ofInt IntKind.u32.bits (IntKind.u32.wrap ((0:Int)*(2:Int)^min 8 IntKind.u32.bits)) ||| BitVec.ofInt IntKind.u32.bits (IntKind.u32.wrap (rdX (fun j=>ud (ub (B j))) i n))).toNat:Nat):Int)*(2:Int)^min 8 IntKind.u32.bits)) ||| BitVec.ofInt IntKind.u32.bits (IntKind.u32.wrap (rdX (fun j=>ud (ub (ud (ub (B j))))) (rdI i n) (n-1)))).toNat:Nat):Int)*(2:Int)^min 8 IntKind.u32.bits)) ||| BitVec.ofInt IntKind.u32.bits (IntKind.u32.wrap (rdX (fun j=>ud (ub (ud (ub (ud (ub (B j))))))) (rdI (rdI i n) (n-1)) (n-1-1)))).toNat:Nat):Int)*(2:Int)^min 8 IntKind.u32.bits)) ||| BitVec.ofInt IntKind.u32.bits (IntKind.u32.wrap (rdX (fun j=>ud (ub (ud (ub (ud (ub (ud (ub (B j))))))))) (rdI (rdI (rdI i n) (n-1)) (n-1-1)) (n-1-1-1)))).toNat:Nat):Int)))),[some ⟨175,true,.one [.sl 1 (rdI (rdI (rdI (rdI i n) (n-1)) (n-1-1)) (n-1-1-1)) (n-1-1-1-1),.v (.bool (bad||((n:Nat):Int)==(0:Int)||((n-1:Nat):Int)==(0:Int)||((n-1-1:Nat):Int)==(0:Int)||((n-1-1-1:Nat):Int)==(0:Int)))]⟩,some ⟨5,own,.row 1 m fun j=>[.int .u8 (ud (ub (ud (ub (ud (ub (ud (ub (B j)))))))))]⟩]) else none else none else none else none:=by kernel_rfl
end
section
open Go Go.RowKit
theorem bif_yes {p:Prop}{α:Type}{a b:α}(h:p):(bif yes p then a else b)=a:=by rw [yes_of h];rfl
theorem rdI_le {i n m:Nat}(h:i+n<=m):rdI i n+(n-1)<=m:=by
 unfold rdI
 by_cases h0:n=0
 ·subst h0
  simpa using h
 ·have e1:(((n:Nat):Int)==(0:Int))=false:=by simp only [beq_eq_false_iff_ne];omega
  rw [e1,cond_false];omega
def nbS (a x:Int):Int:=(((BitVec.ofInt IntKind.u32.bits (IntKind.u32.wrap (a*(2:Int)^min 8 IntKind.u32.bits)) ||| BitVec.ofInt IntKind.u32.bits (IntKind.u32.wrap x)).toNat:Nat):Int)
def nbX (x0 x1 x2 x3:Int):Int:=w64 (IntKind.i32.wrap (IntKind.u32.wrap (nbS (IntKind.u32.wrap (nbS (IntKind.u32.wrap (nbS (IntKind.u32.wrap (nbS 0 x0)) x1)) x2)) x3)))
def rnV4 (B:Nat->Int) (i n:Nat):Int:=nbX (rdX B i n) (rdX B (rdI i n) (n-1)) (rdX B (rdI (rdI i n) (n-1)) (n-1-1)) (rdX B (rdI (rdI (rdI i n) (n-1)) (n-1-1)) (n-1-1-1))
def rdI4 (i n:Nat):Nat:=rdI (rdI (rdI (rdI i n) (n-1)) (n-1-1)) (n-1-1-1)
def rdB4 (bad:Bool) (n:Nat):Bool:=(((bad||((n:Nat):Int)==(0:Int))||((n-1:Nat):Int)==(0:Int))||((n-1-1:Nat):Int)==(0:Int))||((n-1-1-1:Nat):Int)==(0:Int)
theorem rnm_eval {bad own:Bool}{i n m:Nat}{B:Nat->Int}(h:i+n<=m):(afun rnmG 60 Try.f163 [.c (.ptr 0 0 0)] [rdB bad i n,rowU own m B]).eval =
  some (I64 (rnV4 B i n),[some ⟨175,true,.one [.sl 1 (rdI4 i n) (n-1-1-1-1),.v (.bool (rdB4 bad n))]⟩,rowU own m B]):=by
 rw [rnm_nf]
 have h2:=rdI_le h
 have h3:=rdI_le h2
 have h4:=rdI_le h3
 refine Eq.trans (bif_yes ?_) ?_
 ·exact ⟨h,rfl⟩
 refine Eq.trans (bif_yes ?_) ?_
 ·exact ⟨h2,rfl⟩
 refine Eq.trans (bif_yes ?_) ?_
 ·exact ⟨h3,rfl⟩
 refine Eq.trans (bif_yes ?_) ?_
 ·exact ⟨h4,rfl⟩
 rfl
noncomputable def rnmF:Spec:=fun args h=>match args,h with
 | [.c (.ptr 0 0 0)],[some ⟨175,true,.one [.sl 1 i n,.v (.bool bad)]⟩,some ⟨5,own,.row 1 m f⟩]=>
  .need (yes (i+n<=m/\f=fun j=>ub (ud (f j)))) (.ret (I64 (rnV4 (fun j=>ud (f j)) i n),[some ⟨175,true,.one [.sl 1 (rdI4 i n) (n-1-1-1-1),.v (.bool (rdB4 bad n))]⟩,rowU own m (fun j=>ud (f j))]))
 | _,_=>.fail
theorem rnmF_ok:SpecOk Try.prog 163 rnmF:=by
 refine known' KRD_ok Try.func163 fun args h r he=>?_
 unfold rnmF at he
 split at he
 ·rename_i i n bad own m f
  obtain ⟨⟨h1,h2⟩,he'⟩:=Tr.eval_ask.1 he
  cases he'
  have e1:some ⟨5,own,.row 1 m f⟩=rowU own m fun j=>ud (f j):=by rw [rowU,<-h2]
  exact ⟨_,_,_,by rw [e1];exact rnm_eval h1⟩
 ·cases he
end
section
open Go Go.RowKit
noncomputable def KRN:Known:=[(162,rbF),(163,rnmF)]
theorem KRN_ok:KnownOk KRN:=consK rbF_ok (by kernel_rfl) (consK rnmF_ok (by kernel_rfl) nilK)
noncomputable def rhG:Ctx2:=GT KRN (fun _=>[]) 0 []
theorem rh_nf {bad own:Bool}{i n m:Nat}{B:Nat->Int}:(lfun rhG nol 60 Try.f165 [.c (.ptr 0 0 0)] [rdB bad i n,rowU own m B]).eval=bif yes (i+n<=m/\(fun j=>ub (B j))=fun j=>ub (ud (ub (B j)))) then bif yes (rdI4 i n+(n-1-1-1-1)<=m/\(fun j=>ub (ud (ub (B j))))=fun j=>ub (ud (ub (ud (ub (B j)))))) then some (.agg [i64 (rnV4 (fun j=>ud (ub (B j))) i n),i64 (rnV4 (fun j=>ud (ub (ud (ub (B j))))) (rdI4 i n) (n-1-1-1-1))],[some ⟨175,true,.one [.sl 1 (rdI4 (rdI4 i n) (n-1-1-1-1)) (n-1-1-1-1-1-1-1-1),.v (.bool (rdB4 (rdB4 bad n) (n-1-1-1-1)))]⟩,some ⟨5,own,.row 1 m fun j=>[.int .u8 (ud (ub (ud (ub (B j)))))]⟩]) else none else none:=by kernel_rfl
theorem rt_nf {bad own:Bool}{i n m:Nat}{B:Nat->Int}:(lfun rhG nol 60 Try.f164 [.c (.ptr 0 0 0)] [rdB bad i n,rowU own m B]).eval=bif yes (i+n<=m/\(fun j=>ub (B j))=fun j=>ub (ud (ub (B j)))) then bif yes (rdI i n+(n-1)<=m/\(fun j=>ub (ud (ub (B j))))=fun j=>ub (ud (ub (ud (ub (B j)))))) then bif bad||((n:Nat):Int)==(0:Int)||((n-1:Nat):Int)==(0:Int) then some (.c (.v (.string (⟨#[]⟩:ByteArray))),[some ⟨175,true,.one [.sl 1 (rdI (rdI i n) (n-1)) (n-1-1),.v (.bool true)]⟩,some ⟨5,own,.row 1 m fun j=>[.int .u8 (ud (ub (ud (ub (B j)))))]⟩]) else bif decide (w64 (((BitVec.ofInt IntKind.i64.bits (w64 (rdX (fun j=>ud (ub (B j))) i n*(2:Int)^min 8 IntKind.i64.bits)) ||| BitVec.ofInt IntKind.i64.bits (rdX (fun j=>ud (ub (ud (ub (B j))))) (rdI i n) (n-1))).toNat:Nat):Int)>((n-1-1:Nat):Int)) then some (.c (.v (.string (⟨#[]⟩:ByteArray))),[some ⟨175,true,.one [.sl 1 (rdI (rdI i n) (n-1)) (n-1-1),.v (.bool true)]⟩,some ⟨5,own,.row 1 m fun j=>[.int .u8 (ud (ub (ud (ub (B j)))))]⟩]) else bif decInt (0:Int) (w64 (((BitVec.ofInt IntKind.i64.bits (w64 (rdX (fun j=>ud (ub (B j))) i n*(2:Int)^min 8 IntKind.i64.bits)) ||| BitVec.ofInt IntKind.i64.bits (rdX (fun j=>ud (ub (ud (ub (B j))))) (rdI i n) (n-1))).toNat:Nat):Int)) (n-1-1) then bif decide (rdI (rdI i n) (n-1)+(w64 (((BitVec.ofInt IntKind.i64.bits (w64 (rdX (fun j=>ud (ub (B j))) i n*(2:Int)^min 8 IntKind.i64.bits)) ||| BitVec.ofInt IntKind.i64.bits (rdX (fun j=>ud (ub (ud (ub (B j))))) (rdI i n) (n-1))).toNat:Nat):Int)).toNat<=m) then bif allB (w64 (((BitVec.ofInt IntKind.i64.bits (w64 (rdX (fun j=>ud (ub (B j))) i n*(2:Int)^min 8 IntKind.i64.bits)) ||| BitVec.ofInt IntKind.i64.bits (rdX (fun j=>ud (ub (ud (ub (B j))))) (rdI i n) (n-1))).toNat:Nat):Int)).toNat fun k=>isU8 (ub (ud (ub (ud (ub (B (rdI (rdI i n) (n-1)+k))))))) then bif decInt (w64 (((BitVec.ofInt IntKind.i64.bits (w64 (rdX (fun j=>ud (ub (B j))) i n*(2:Int)^min 8 IntKind.i64.bits)) ||| BitVec.ofInt IntKind.i64.bits (rdX (fun j=>ud (ub (ud (ub (B j))))) (rdI i n) (n-1))).toNat:Nat):Int)) (((n-1-1:Nat):Int)) (n-1-1) then some (.c (.v (.string (bytesOf (fun j=>ub (ud (ub (ud (ub (B j)))))) (rdI (rdI i n) (n-1)) (w64 (((BitVec.ofInt IntKind.i64.bits (w64 (rdX (fun j=>ud (ub (B j))) i n*(2:Int)^min 8 IntKind.i64.bits)) ||| BitVec.ofInt IntKind.i64.bits (rdX (fun j=>ud (ub (ud (ub (B j))))) (rdI i n) (n-1))).toNat:Nat):Int)).toNat))),[some ⟨175,true,.one [.sl 1 (rdI (rdI i n) (n-1)+(w64 (((BitVec.ofInt IntKind.i64.bits (w64 (rdX (fun j=>ud (ub (B j))) i n*(2:Int)^min 8 IntKind.i64.bits)) ||| BitVec.ofInt IntKind.i64.bits (rdX (fun j=>ud (ub (ud (ub (B j))))) (rdI i n) (n-1))).toNat:Nat):Int)).toNat) (n-1-1-(w64 (((BitVec.ofInt IntKind.i64.bits (w64 (rdX (fun j=>ud (ub (B j))) i n*(2:Int)^min 8 IntKind.i64.bits)) ||| BitVec.ofInt IntKind.i64.bits (rdX (fun j=>ud (ub (ud (ub (B j))))) (rdI i n) (n-1))).toNat:Nat):Int)).toNat),.v (.bool (bad||((n:Nat):Int)==(0:Int)||((n-1:Nat):Int)==(0:Int)))]⟩,some ⟨5,own,.row 1 m fun j=>[.int .u8 (ud (ub (ud (ub (B j)))))]⟩]) else none else none else none else none else none else none:=by kernel_rfl
end
section
open Go Go.RowKit
theorem rdI4_le {i n m:Nat}(h:i+n<=m):rdI4 i n+(n-1-1-1-1)<=m:=rdI_le (rdI_le (rdI_le (rdI_le h)))
theorem rh_eval {bad own:Bool}{i n m:Nat}{B:Nat->Int}(h:i+n<=m):(lfun rhG nol 60 Try.f165 [.c (.ptr 0 0 0)] [rdB bad i n,rowU own m B]).eval =
  some (.agg [i64 (rnV4 B i n),i64 (rnV4 B (rdI4 i n) (n-1-1-1-1))],[some ⟨175,true,.one [.sl 1 (rdI4 (rdI4 i n) (n-1-1-1-1)) (n-1-1-1-1-1-1-1-1),.v (.bool (rdB4 (rdB4 bad n) (n-1-1-1-1)))]⟩,rowU own m B]):=by
 rw [rh_nf]
 refine Eq.trans (bif_yes ?_) ?_
 ·exact ⟨h,rfl⟩
 refine Eq.trans (bif_yes ?_) ?_
 ·exact ⟨rdI4_le h,rfl⟩
 rfl
noncomputable def rhF:Spec:=fun args h=>match args,h with
 | [.c (.ptr 0 0 0)],[some ⟨175,true,.one [.sl 1 i n,.v (.bool bad)]⟩,some ⟨5,own,.row 1 m f⟩]=>
  .need (yes (i+n<=m/\f=fun j=>ub (ud (f j)))) (.ret (.agg [i64 (rnV4 (fun j=>ud (f j)) i n),i64 (rnV4 (fun j=>ud (f j)) (rdI4 i n) (n-1-1-1-1))],[some ⟨175,true,.one [.sl 1 (rdI4 (rdI4 i n) (n-1-1-1-1)) (n-1-1-1-1-1-1-1-1),.v (.bool (rdB4 (rdB4 bad n) (n-1-1-1-1)))]⟩,rowU own m (fun j=>ud (f j))]))
 | _,_=>.fail
theorem rhF_ok:SpecOk Try.prog 165 rhF:=by
 refine knownS KRN_ok Try.func165 fun args h r he=>?_
 unfold rhF at he
 split at he
 ·rename_i i n bad own m f
  obtain ⟨⟨h1,h2⟩,he'⟩:=Tr.eval_ask.1 he
  cases he'
  have e1:some ⟨5,own,.row 1 m f⟩=rowU own m fun j=>ud (f j):=by rw [rowU,<-h2]
  exact ⟨_,[],60,nol,noLoopsS,by rw [e1];exact rh_eval h1⟩
 ·cases he
end
section
open Go Go.RowKit
def rtL (B:Nat->Int) (i n:Nat):Int:=w64 (((BitVec.ofInt IntKind.i64.bits (w64 (rdX B i n*(2:Int)^min 8 IntKind.i64.bits)) ||| BitVec.ofInt IntKind.i64.bits (rdX B (rdI i n) (n-1))).toNat:Nat):Int)
def rtI (i n:Nat):Nat:=rdI (rdI i n) (n-1)
def rtB (bad:Bool) (n:Nat):Bool:=(bad||((n:Nat):Int)==(0:Int))||((n-1:Nat):Int)==(0:Int)
def rtE (bad:Bool) (B:Nat->Int) (i n:Nat):Bool:=rtB bad n||decide (rtL B i n>((n-1-1:Nat):Int))
def rtS (bad:Bool) (B:Nat->Int) (i n:Nat):ByteArray:=bif rtE bad B i n then ⟨#[]⟩ else bytesOf (fun j=>ub (B j)) (rtI i n) (rtL B i n).toNat
def rtJ (bad:Bool) (B:Nat->Int) (i n:Nat):Nat:=bif rtE bad B i n then rtI i n else rtI i n+(rtL B i n).toNat
def rtN (bad:Bool) (B:Nat->Int) (i n:Nat):Nat:=bif rtE bad B i n then n-1-1 else n-1-1-(rtL B i n).toNat
theorem bif_t {c:Bool}{α:Type}{a b:α}(h:c=true):(bif c then a else b)=a:=by rw [h];rfl
theorem bif_f {c:Bool}{α:Type}{a b:α}(h:c=false):(bif c then a else b)=b:=by rw [h];rfl
theorem allB_u8 (f:Nat->List Value) (h:∀ k,isU8 (f k)=true) (n:Nat):allB n (fun k=>isU8 (f k))=true:=by
 unfold allB
 rw [List.all_eq_true]
 exact fun k _=>h k
theorem rt_eval {bad own:Bool}{i n m:Nat}{B:Nat->Int}(h:i+n<=m) (hL:0<=rtL B i n):(lfun rhG nol 60 Try.f164 [.c (.ptr 0 0 0)] [rdB bad i n,rowU own m B]).eval =
  some (StrA (rtS bad B i n),[some ⟨175,true,.one [.sl 1 (rtJ bad B i n) (rtN bad B i n),.v (.bool (rtE bad B i n))]⟩,rowU own m B]):=by
 rw [rt_nf]
 refine Eq.trans (bif_yes ?_) ?_
 ·exact ⟨h,rfl⟩
 refine Eq.trans (bif_yes ?_) ?_
 ·exact ⟨rdI_le h,rfl⟩
 have h3:rtI i n+(n-1-1)<=m:=rdI_le (rdI_le h)
 cases hb:rtB bad n with
 | true=>
  have he:rtE bad B i n=true:=by unfold rtE;rw [hb];rfl
  refine Eq.trans (bif_t hb) ?_
  unfold rtS rtJ rtN
  rw [he]
  rfl
 | false=>
  refine Eq.trans (bif_f hb) ?_
  by_cases ho:rtL B i n>((n-1-1:Nat):Int)
  ·have he:rtE bad B i n=true:=by unfold rtE;rw [decide_eq_true ho,Bool.or_true]
   refine Eq.trans (bif_t (decide_eq_true ho)) ?_
   unfold rtS rtJ rtN
   rw [he]
   rfl
  ·have he:rtE bad B i n=false:=by unfold rtE;rw [decide_eq_false ho,hb];rfl
   refine Eq.trans (bif_f (decide_eq_false ho)) ?_
   refine Eq.trans (bif_t ?_) ?_
   ·show decInt 0 (rtL B i n) (n-1-1)=true
    unfold decInt;simp only [Bool.and_eq_true,decide_eq_true_eq];omega
   refine Eq.trans (bif_t ?_) ?_
   ·show decide (rtI i n+(rtL B i n).toNat<=m)=true
    exact decide_eq_true (by omega)
   refine Eq.trans (bif_t ?_) ?_
   ·exact allB_u8 _ (fun _=>rfl) _
   refine Eq.trans (bif_t ?_) ?_
   ·show decInt (rtL B i n) ((n-1-1:Nat):Int) (n-1-1)=true
    unfold decInt;simp only [Bool.and_eq_true,decide_eq_true_eq];omega
   unfold rtS rtJ rtN
   rw [he]
   have hb':((bad||((n:Nat):Int)==(0:Int))||((n-1:Nat):Int)==(0:Int))=false:=hb
   simp only [hb',cond_false]
   rfl
noncomputable def rtF:Spec:=fun args h=>match args,h with
 | [.c (.ptr 0 0 0)],[some ⟨175,true,.one [.sl 1 i n,.v (.bool bad)]⟩,some ⟨5,own,.row 1 m f⟩]=>
  .need (yes (i+n<=m/\(f=fun j=>ub (ud (f j)))/\0<=rtL (fun j=>ud (f j)) i n)) (.ret (StrA (rtS bad (fun j=>ud (f j)) i n),[some ⟨175,true,.one [.sl 1 (rtJ bad (fun j=>ud (f j)) i n) (rtN bad (fun j=>ud (f j)) i n),.v (.bool (rtE bad (fun j=>ud (f j)) i n))]⟩,rowU own m (fun j=>ud (f j))]))
 | _,_=>.fail
theorem rtF_ok:SpecOk Try.prog 164 rtF:=by
 refine knownS KRN_ok Try.func164 fun args h r he=>?_
 unfold rtF at he
 split at he
 ·rename_i i n bad own m f
  obtain ⟨⟨h1,h2,h3⟩,he'⟩:=Tr.eval_ask.1 he
  cases he'
  have e1:some ⟨5,own,.row 1 m f⟩=rowU own m fun j=>ud (f j):=by rw [rowU,<-h2]
  exact ⟨_,[],60,nol,noLoopsS,by rw [e1];exact rt_eval h1 h3⟩
 ·cases he
end
section
open Go Go.RowKit
noncomputable def KRQ:Known:=[(162,rbF),(163,rnmF),(164,rtF),(165,rhF)]
theorem KRQ_ok:KnownOk KRQ:=consK rbF_ok (by kernel_rfl) (consK rnmF_ok (by kernel_rfl) (consK rtF_ok (by kernel_rfl) (consK rhF_ok (by kernel_rfl) nilK)))
abbrev rqK:List (Nat × Option TypeId):=[(0,none),(2,none),(3,none),(4,none),(5,none),(11,none)]
noncomputable def rqG:Ctx2:=GT KRQ (fun k=>if k=8 then rqK else []) 0 []
theorem rqG_ok:XOk rqG:=GT_ok KRQ_ok _ _ _
def rqZ:Option ABlk:=some ⟨128,true,.one [i64 0,i64 0,i64 0,i64 0,i64 0,i64 0,.v (.slice none 0 0)]⟩
def rqS (own:Bool) (m:Nat) (B:Nat->Int) (bad:Bool) (i n:Nat) (q c j:Int) (na:Nat) (P:Nat->Opp):St:=
 ⟨slots 104 [(0,.c (.ptr 0 0 0)),(2,.c (.ptr 2 0 0)),(3,.c (.ptr 3 0 0)),(4,I64 c),(5,I64 j),(11,I64 q)],[rdB bad i n,rowU own m B,rqZ,some ⟨128,true,.one [i64 q,i64 0,i64 0,i64 0,i64 0,i64 0,.sl 4 0 na]⟩,rowP true na P]⟩
theorem rq_t {own:Bool}{m:Nat}{B:Nat->Int}{bad:Bool}{i n:Nat}{q c j:Int}{na:Nat}{P:Nat->Opp}:(rT rqG nol 2 48 (bodyOf Try.f145 0) rqK rqK (rqS own m B bad i n q c j na P)).go []=some ([decide (j<c),true,true,true,true,true,!bad,yes (i+n<=m/\(fun j=>ub (B j))=fun j=>ub (ud (ub (B j)))),yes (rdI i n+(n-1)<=m/\(fun j=>ub (ud (ub (B j))))=fun j=>ub (ud (ub (ud (ub (B j)))))),yes (rdI4 (rdI i n) (n-1)+(n-1-1-1-1-1)<=m/\(fun j=>ub (ud (ub (ud (ub (B j))))))=fun j=>ub (ud (ub (ud (ub (ud (ub (B j)))))))),yes (rdI4 (rdI4 (rdI i n) (n-1)) (n-1-1-1-1-1)+(n-1-1-1-1-1-1-1-1-1)<=m/\(fun j=>ub (ud (ub (ud (ub (ud (ub (B j))))))))=fun j=>ub (ud (ub (ud (ub (ud (ub (ud (ub (B j)))))))))),yes (rdI4 (rdI4 (rdI4 (rdI i n) (n-1)) (n-1-1-1-1-1)) (n-1-1-1-1-1-1-1-1-1)+(n-1-1-1-1-1-1-1-1-1-1-1-1-1)<=m/\((fun j=>ub (ud (ub (ud (ub (ud (ub (ud (ub (B j))))))))))=fun j=>ub (ud (ub (ud (ub (ud (ub (ud (ub (ud (ub (B j))))))))))))/\(0:Int)<=rtL (fun j=>ud (ub (ud (ub (ud (ub (ud (ub (ud (ub (B j))))))))))) (rdI4 (rdI4 (rdI4 (rdI i n) (n-1)) (n-1-1-1-1-1)) (n-1-1-1-1-1-1-1-1-1)) (n-1-1-1-1-1-1-1-1-1-1-1-1-1)),rtE (rdB4 (rdB4 (rdB4 (bad||((n:Nat):Int)==(0:Int)) (n-1)) (n-1-1-1-1-1)) (n-1-1-1-1-1-1-1-1-1)) (fun j=>ud (ub (ud (ub (ud (ub (ud (ub (ud (ub (B j))))))))))) (rdI4 (rdI4 (rdI4 (rdI i n) (n-1)) (n-1-1-1-1-1)) (n-1-1-1-1-1-1-1-1-1)) (n-1-1-1-1-1-1-1-1-1-1-1-1-1),true,true,true,true,decide (na=na),true,decide ((na+1)*48<=maxCells)],Ex.normal,{ sl:=slots 104 [(0,.c (.ptr 0 0 0)),(2,.c (.ptr 2 0 0)),(3,.c (.ptr 3 0 0)),(4,I64 c),(5,I64 (w64 (j+(1:Int)))),(11,I64 q)],h:=[some ⟨175,true,.one [.sl 1 (rtJ (rdB4 (rdB4 (rdB4 (bad||((n:Nat):Int)==(0:Int)) (n-1)) (n-1-1-1-1-1)) (n-1-1-1-1-1-1-1-1-1)) (fun j=>ud (ub (ud (ub (ud (ub (ud (ub (ud (ub (B j))))))))))) (rdI4 (rdI4 (rdI4 (rdI i n) (n-1)) (n-1-1-1-1-1)) (n-1-1-1-1-1-1-1-1-1)) (n-1-1-1-1-1-1-1-1-1-1-1-1-1)) (rtN (rdB4 (rdB4 (rdB4 (bad||((n:Nat):Int)==(0:Int)) (n-1)) (n-1-1-1-1-1)) (n-1-1-1-1-1-1-1-1-1)) (fun j=>ud (ub (ud (ub (ud (ub (ud (ub (ud (ub (B j))))))))))) (rdI4 (rdI4 (rdI4 (rdI i n) (n-1)) (n-1-1-1-1-1)) (n-1-1-1-1-1-1-1-1-1)) (n-1-1-1-1-1-1-1-1-1-1-1-1-1)),.v (.bool true)]⟩,some ⟨5,own,.row 1 m fun j=>[.int .u8 (ud (ub (ud (ub (ud (ub (ud (ub (ud (ub (B j)))))))))))]⟩,some ⟨128,true,.one [i64 0,i64 0,i64 0,i64 0,i64 0,i64 0,.v (.slice none 0 0)]⟩,some ⟨128,true,.one [i64 q,i64 0,i64 0,i64 0,i64 0,i64 0,.sl 4 0 (na+1)]⟩,some ⟨121,true,.row 5 (na+1) fun k=>[.int .i64 (bif decide (k=na) then rdX (fun j=>ud (ub (B j))) i n else (P k).k),.int .i64 (bif decide (k=na) then rnV4 (fun j=>ud (ub (ud (ub (B j))))) (rdI i n) (n-1) else (P k).i),.int .i64 (bif decide (k=na) then rnV4 (fun j=>ud (ub (ud (ub (ud (ub (B j))))))) (rdI4 (rdI i n) (n-1)) (n-1-1-1-1-1) else (P k).a),.int .i64 (bif decide (k=na) then rnV4 (fun j=>ud (ub (ud (ub (ud (ub (ud (ub (B j))))))))) (rdI4 (rdI4 (rdI i n) (n-1)) (n-1-1-1-1-1)) (n-1-1-1-1-1-1-1-1-1) else (P k).b),.string (bif decide (k=na) then rtS (rdB4 (rdB4 (rdB4 (bad||((n:Nat):Int)==(0:Int)) (n-1)) (n-1-1-1-1-1)) (n-1-1-1-1-1-1-1-1-1)) (fun j=>ud (ub (ud (ub (ud (ub (ud (ub (ud (ub (B j))))))))))) (rdI4 (rdI4 (rdI4 (rdI i n) (n-1)) (n-1-1-1-1-1)) (n-1-1-1-1-1-1-1-1-1)) (n-1-1-1-1-1-1-1-1-1-1-1-1-1) else (P k).s)]⟩] }):=by kernel_rfl
theorem rq_f {own:Bool}{m:Nat}{B:Nat->Int}{bad:Bool}{i n:Nat}{q c j:Int}{na:Nat}{P:Nat->Opp}:(rT rqG nol 2 48 (bodyOf Try.f145 0) rqK rqK (rqS own m B bad i n q c j na P)).go (dN 17 4095)=some ([decide (j<c),true,true,true,true,true,!bad,yes (i+n<=m/\(fun j=>ub (B j))=fun j=>ub (ud (ub (B j)))),yes (rdI i n+(n-1)<=m/\(fun j=>ub (ud (ub (B j))))=fun j=>ub (ud (ub (ud (ub (B j)))))),yes (rdI4 (rdI i n) (n-1)+(n-1-1-1-1-1)<=m/\(fun j=>ub (ud (ub (ud (ub (B j))))))=fun j=>ub (ud (ub (ud (ub (ud (ub (B j)))))))),yes (rdI4 (rdI4 (rdI i n) (n-1)) (n-1-1-1-1-1)+(n-1-1-1-1-1-1-1-1-1)<=m/\(fun j=>ub (ud (ub (ud (ub (ud (ub (B j))))))))=fun j=>ub (ud (ub (ud (ub (ud (ub (ud (ub (B j)))))))))),yes (rdI4 (rdI4 (rdI4 (rdI i n) (n-1)) (n-1-1-1-1-1)) (n-1-1-1-1-1-1-1-1-1)+(n-1-1-1-1-1-1-1-1-1-1-1-1-1)<=m/\((fun j=>ub (ud (ub (ud (ub (ud (ub (ud (ub (B j))))))))))=fun j=>ub (ud (ub (ud (ub (ud (ub (ud (ub (ud (ub (B j))))))))))))/\(0:Int)<=rtL (fun j=>ud (ub (ud (ub (ud (ub (ud (ub (ud (ub (B j))))))))))) (rdI4 (rdI4 (rdI4 (rdI i n) (n-1)) (n-1-1-1-1-1)) (n-1-1-1-1-1-1-1-1-1)) (n-1-1-1-1-1-1-1-1-1-1-1-1-1)),!rtE (rdB4 (rdB4 (rdB4 (bad||((n:Nat):Int)==(0:Int)) (n-1)) (n-1-1-1-1-1)) (n-1-1-1-1-1-1-1-1-1)) (fun j=>ud (ub (ud (ub (ud (ub (ud (ub (ud (ub (B j))))))))))) (rdI4 (rdI4 (rdI4 (rdI i n) (n-1)) (n-1-1-1-1-1)) (n-1-1-1-1-1-1-1-1-1)) (n-1-1-1-1-1-1-1-1-1-1-1-1-1),true,true,true,true,decide (na=na),true,decide ((na+1)*48<=maxCells)],Ex.normal,{ sl:=slots 104 [(0,.c (.ptr 0 0 0)),(2,.c (.ptr 2 0 0)),(3,.c (.ptr 3 0 0)),(4,I64 c),(5,I64 (w64 (j+(1:Int)))),(11,I64 q)],h:=[some ⟨175,true,.one [.sl 1 (rtJ (rdB4 (rdB4 (rdB4 (bad||((n:Nat):Int)==(0:Int)) (n-1)) (n-1-1-1-1-1)) (n-1-1-1-1-1-1-1-1-1)) (fun j=>ud (ub (ud (ub (ud (ub (ud (ub (ud (ub (B j))))))))))) (rdI4 (rdI4 (rdI4 (rdI i n) (n-1)) (n-1-1-1-1-1)) (n-1-1-1-1-1-1-1-1-1)) (n-1-1-1-1-1-1-1-1-1-1-1-1-1)) (rtN (rdB4 (rdB4 (rdB4 (bad||((n:Nat):Int)==(0:Int)) (n-1)) (n-1-1-1-1-1)) (n-1-1-1-1-1-1-1-1-1)) (fun j=>ud (ub (ud (ub (ud (ub (ud (ub (ud (ub (B j))))))))))) (rdI4 (rdI4 (rdI4 (rdI i n) (n-1)) (n-1-1-1-1-1)) (n-1-1-1-1-1-1-1-1-1)) (n-1-1-1-1-1-1-1-1-1-1-1-1-1)),.v (.bool (decide ((((rtS (rdB4 (rdB4 (rdB4 (bad||((n:Nat):Int)==(0:Int)) (n-1)) (n-1-1-1-1-1)) (n-1-1-1-1-1-1-1-1-1)) (fun j=>ud (ub (ud (ub (ud (ub (ud (ub (ud (ub (B j))))))))))) (rdI4 (rdI4 (rdI4 (rdI i n) (n-1)) (n-1-1-1-1-1)) (n-1-1-1-1-1-1-1-1-1)) (n-1-1-1-1-1-1-1-1-1-1-1-1-1)).size:Nat):Int)>(2000:Int))))]⟩,some ⟨5,own,.row 1 m fun j=>[.int .u8 (ud (ub (ud (ub (ud (ub (ud (ub (ud (ub (B j)))))))))))]⟩,some ⟨128,true,.one [i64 0,i64 0,i64 0,i64 0,i64 0,i64 0,.v (.slice none 0 0)]⟩,some ⟨128,true,.one [i64 q,i64 0,i64 0,i64 0,i64 0,i64 0,.sl 4 0 (na+1)]⟩,some ⟨121,true,.row 5 (na+1) fun k=>[.int .i64 (bif decide (k=na) then rdX (fun j=>ud (ub (B j))) i n else (P k).k),.int .i64 (bif decide (k=na) then rnV4 (fun j=>ud (ub (ud (ub (B j))))) (rdI i n) (n-1) else (P k).i),.int .i64 (bif decide (k=na) then rnV4 (fun j=>ud (ub (ud (ub (ud (ub (B j))))))) (rdI4 (rdI i n) (n-1)) (n-1-1-1-1-1) else (P k).a),.int .i64 (bif decide (k=na) then rnV4 (fun j=>ud (ub (ud (ub (ud (ub (ud (ub (B j))))))))) (rdI4 (rdI4 (rdI i n) (n-1)) (n-1-1-1-1-1)) (n-1-1-1-1-1-1-1-1-1) else (P k).b),.string (bif decide (k=na) then rtS (rdB4 (rdB4 (rdB4 (bad||((n:Nat):Int)==(0:Int)) (n-1)) (n-1-1-1-1-1)) (n-1-1-1-1-1-1-1-1-1)) (fun j=>ud (ub (ud (ub (ud (ub (ud (ub (ud (ub (B j))))))))))) (rdI4 (rdI4 (rdI4 (rdI i n) (n-1)) (n-1-1-1-1-1)) (n-1-1-1-1-1-1-1-1-1)) (n-1-1-1-1-1-1-1-1-1-1-1-1-1) else (P k).s)]⟩] }):=by kernel_rfl
theorem rq_e1 {own:Bool}{m:Nat}{B:Nat->Int}{bad:Bool}{i n:Nat}{q c j:Int}{na:Nat}{P:Nat->Opp}:(rT rqG nol 2 48 (bodyOf Try.f145 0) rqK rqK (rqS own m B bad i n q c j na P)).go (dN 7 0)=some ([!decide (j<c),true,true,true,true,true,true],Ex.exit 1,{ sl:=slots 104 [(0,.c (.ptr 0 0 0)),(2,.c (.ptr 2 0 0)),(3,.c (.ptr 3 0 0)),(4,I64 c),(5,I64 j),(11,I64 q)],h:=[some ⟨175,true,.one [.sl 1 i n,.v (.bool bad)]⟩,some ⟨5,own,.row 1 m fun j=>[.int .u8 (B j)]⟩,some ⟨128,true,.one [i64 0,i64 0,i64 0,i64 0,i64 0,i64 0,.v (.slice none 0 0)]⟩,some ⟨128,true,.one [i64 q,i64 0,i64 0,i64 0,i64 0,i64 0,.sl 4 0 na]⟩,some ⟨121,true,.row 5 na fun j=>[.int .i64 (P j).k,.int .i64 (P j).i,.int .i64 (P j).a,.int .i64 (P j).b,.string (P j).s]⟩] }):=by kernel_rfl
theorem rq_e2 {own:Bool}{m:Nat}{B:Nat->Int}{bad:Bool}{i n:Nat}{q c j:Int}{na:Nat}{P:Nat->Opp}:(rT rqG nol 2 48 (bodyOf Try.f145 0) rqK rqK (rqS own m B bad i n q c j na P)).go (dN 7 63)=some ([decide (j<c),true,true,true,true,true,!!bad],Ex.exit 1,{ sl:=slots 104 [(0,.c (.ptr 0 0 0)),(2,.c (.ptr 2 0 0)),(3,.c (.ptr 3 0 0)),(4,I64 c),(5,I64 j),(11,I64 q)],h:=[some ⟨175,true,.one [.sl 1 i n,.v (.bool bad)]⟩,some ⟨5,own,.row 1 m fun j=>[.int .u8 (B j)]⟩,some ⟨128,true,.one [i64 0,i64 0,i64 0,i64 0,i64 0,i64 0,.v (.slice none 0 0)]⟩,some ⟨128,true,.one [i64 q,i64 0,i64 0,i64 0,i64 0,i64 0,.sl 4 0 na]⟩,some ⟨121,true,.row 5 na fun j=>[.int .i64 (P j).k,.int .i64 (P j).i,.int .i64 (P j).a,.int .i64 (P j).b,.string (P j).s]⟩] }):=by kernel_rfl
end
section
open Go Go.RowKit
theorem rr_1 {own:Bool}{m:Nat}{B:Nat->Int}{i n:Nat}:(lfun rqG nol 60 Try.f149 [.c (.ptr 0 0 0)] [rdB false i n,rowU own m B]).go []=some ([yes (i+n<=m/\(fun j=>ub (B j))=fun j=>ub (ud (ub (B j)))),rdX (fun j=>ud (ub (B j))) i n==(1:Int)],.agg [i64 (rdX (fun j=>ud (ub (B j))) i n),i64 0,i64 0,i64 0,i64 0,i64 0,i64 0,i64 0,i64 0,i64 0],[some ⟨175,true,.one [.sl 1 (rdI i n) (n-1),.v (.bool (false||((n:Nat):Int)==(0:Int)))]⟩,some ⟨5,own,.row 1 m fun j=>[.int .u8 (ud (ub (B j)))]⟩]):=by kernel_rfl
theorem rr_2 {own:Bool}{m:Nat}{B:Nat->Int}{i n:Nat}:(lfun rqG nol 60 Try.f149 [.c (.ptr 0 0 0)] [rdB false i n,rowU own m B]).go [true,false]=some ([yes (i+n<=m/\(fun j=>ub (B j))=fun j=>ub (ud (ub (B j)))),!rdX (fun j=>ud (ub (B j))) i n==(1:Int),rdX (fun j=>ud (ub (B j))) i n==(2:Int),yes (rdI i n+(n-1)<=m/\(fun j=>ub (ud (ub (B j))))=fun j=>ub (ud (ub (ud (ub (B j)))))),yes (rdI (rdI i n) (n-1)+(n-1-1)<=m/\(fun j=>ub (ud (ub (ud (ub (B j))))))=fun j=>ub (ud (ub (ud (ub (ud (ub (B j))))))))],.agg [i64 (rdX (fun j=>ud (ub (B j))) i n),i64 (rdX (fun j=>ud (ub (ud (ub (B j))))) (rdI i n) (n-1)),i64 (rnV4 (fun j=>ud (ub (ud (ub (ud (ub (B j))))))) (rdI (rdI i n) (n-1)) (n-1-1)),i64 0,i64 0,i64 0,i64 0,i64 0,i64 0,i64 0],[some ⟨175,true,.one [.sl 1 (rdI4 (rdI (rdI i n) (n-1)) (n-1-1)) (n-1-1-1-1-1-1),.v (.bool (rdB4 (false||((n:Nat):Int)==(0:Int)||((n-1:Nat):Int)==(0:Int)) (n-1-1)))]⟩,some ⟨5,own,.row 1 m fun j=>[.int .u8 (ud (ub (ud (ub (ud (ub (B j)))))))]⟩]):=by kernel_rfl
theorem rr_3 {own:Bool}{m:Nat}{B:Nat->Int}{i n:Nat}:(lfun rqG nol 60 Try.f149 [.c (.ptr 0 0 0)] [rdB false i n,rowU own m B]).go (dN 3 1)=some ([yes (i+n<=m/\(fun j=>ub (B j))=fun j=>ub (ud (ub (B j)))),!rdX (fun j=>ud (ub (B j))) i n==(1:Int),!rdX (fun j=>ud (ub (B j))) i n==(2:Int),rdX (fun j=>ud (ub (B j))) i n==(3:Int),yes (rdI i n+(n-1)<=m/\(fun j=>ub (ud (ub (B j))))=fun j=>ub (ud (ub (ud (ub (B j))))))],.agg [i64 (rdX (fun j=>ud (ub (B j))) i n),i64 0,i64 0,i64 0,i64 (rnV4 (fun j=>ud (ub (ud (ub (B j))))) (rdI i n) (n-1)),i64 (rnV4 (fun j=>ud (ub (ud (ub (B j))))) (rdI4 (rdI i n) (n-1)) (n-1-1-1-1-1)),i64 0,i64 0,i64 0,i64 0],[some ⟨175,true,.one [.sl 1 (rdI4 (rdI4 (rdI i n) (n-1)) (n-1-1-1-1-1)) (n-1-1-1-1-1-1-1-1-1),.v (.bool (rdB4 (rdB4 (false||((n:Nat):Int)==(0:Int)) (n-1)) (n-1-1-1-1-1)))]⟩,some ⟨5,own,.row 1 m fun j=>[.int .u8 (ud (ub (ud (ub (B j)))))]⟩]):=by kernel_rfl
theorem rr_4 {own:Bool}{m:Nat}{B:Nat->Int}{i n:Nat}:(lfun rqG nol 60 Try.f149 [.c (.ptr 0 0 0)] [rdB false i n,rowU own m B]).go (dN 4 1)=some ([yes (i+n<=m/\(fun j=>ub (B j))=fun j=>ub (ud (ub (B j)))),!rdX (fun j=>ud (ub (B j))) i n==(1:Int),!rdX (fun j=>ud (ub (B j))) i n==(2:Int),!rdX (fun j=>ud (ub (B j))) i n==(3:Int),rdX (fun j=>ud (ub (B j))) i n==(4:Int),yes (rdI i n+(n-1)<=m/\(fun j=>ub (ud (ub (B j))))=fun j=>ub (ud (ub (ud (ub (B j)))))),yes (rdI4 (rdI i n) (n-1)+(n-1-1-1-1-1)<=m/\(fun j=>ub (ud (ub (ud (ub (B j))))))=fun j=>ub (ud (ub (ud (ub (ud (ub (B j)))))))),yes (rdI4 (rdI4 (rdI i n) (n-1)) (n-1-1-1-1-1)+(n-1-1-1-1-1-1-1-1-1)<=m/\(fun j=>ub (ud (ub (ud (ub (ud (ub (B j))))))))=fun j=>ub (ud (ub (ud (ub (ud (ub (ud (ub (B j)))))))))),yes (rdI4 (rdI4 (rdI4 (rdI i n) (n-1)) (n-1-1-1-1-1)) (n-1-1-1-1-1-1-1-1-1)+(n-1-1-1-1-1-1-1-1-1-1-1-1-1)<=m/\(fun j=>ub (ud (ub (ud (ub (ud (ub (ud (ub (B j))))))))))=fun j=>ub (ud (ub (ud (ub (ud (ub (ud (ub (ud (ub (B j))))))))))))],.agg [i64 (rdX (fun j=>ud (ub (B j))) i n),i64 0,i64 0,i64 0,i64 0,i64 0,i64 (rnV4 (fun j=>ud (ub (ud (ub (B j))))) (rdI i n) (n-1)),i64 (rnV4 (fun j=>ud (ub (ud (ub (ud (ub (B j))))))) (rdI4 (rdI i n) (n-1)) (n-1-1-1-1-1)),i64 (rnV4 (fun j=>ud (ub (ud (ub (ud (ub (ud (ub (B j))))))))) (rdI4 (rdI4 (rdI i n) (n-1)) (n-1-1-1-1-1)) (n-1-1-1-1-1-1-1-1-1)),i64 (rnV4 (fun j=>ud (ub (ud (ub (ud (ub (ud (ub (ud (ub (B j))))))))))) (rdI4 (rdI4 (rdI4 (rdI i n) (n-1)) (n-1-1-1-1-1)) (n-1-1-1-1-1-1-1-1-1)) (n-1-1-1-1-1-1-1-1-1-1-1-1-1))],[some ⟨175,true,.one [.sl 1 (rdI4 (rdI4 (rdI4 (rdI4 (rdI i n) (n-1)) (n-1-1-1-1-1)) (n-1-1-1-1-1-1-1-1-1)) (n-1-1-1-1-1-1-1-1-1-1-1-1-1)) (n-1-1-1-1-1-1-1-1-1-1-1-1-1-1-1-1-1),.v (.bool (rdB4 (rdB4 (rdB4 (rdB4 (false||((n:Nat):Int)==(0:Int)) (n-1)) (n-1-1-1-1-1)) (n-1-1-1-1-1-1-1-1-1)) (n-1-1-1-1-1-1-1-1-1-1-1-1-1)))]⟩,some ⟨5,own,.row 1 m fun j=>[.int .u8 (ud (ub (ud (ub (ud (ub (ud (ub (ud (ub (B j)))))))))))]⟩]):=by kernel_rfl
theorem rr_5 {own:Bool}{m:Nat}{B:Nat->Int}{i n:Nat}:(lfun rqG nol 60 Try.f149 [.c (.ptr 0 0 0)] [rdB false i n,rowU own m B]).go (dN 5 1)=some ([yes (i+n<=m/\(fun j=>ub (B j))=fun j=>ub (ud (ub (B j)))),!rdX (fun j=>ud (ub (B j))) i n==(1:Int),!rdX (fun j=>ud (ub (B j))) i n==(2:Int),!rdX (fun j=>ud (ub (B j))) i n==(3:Int),!rdX (fun j=>ud (ub (B j))) i n==(4:Int),rdX (fun j=>ud (ub (B j))) i n==(5:Int),true,yes (rdI i n+(n-1)<=m/\(fun j=>ub (ud (ub (B j))))=fun j=>ub (ud (ub (ud (ub (B j))))))],.agg [i64 (rdX (fun j=>ud (ub (B j))) i n),i64 0,i64 0,i64 (rnV4 (fun j=>ud (ub (ud (ub (B j))))) (rdI i n) (n-1)),i64 0,i64 0,i64 0,i64 0,i64 0,i64 0],[some ⟨175,true,.one [.sl 1 (rdI4 (rdI i n) (n-1)) (n-1-1-1-1-1),.v (.bool (rdB4 (false||((n:Nat):Int)==(0:Int)) (n-1)))]⟩,some ⟨5,own,.row 1 m fun j=>[.int .u8 (ud (ub (ud (ub (B j)))))]⟩]):=by kernel_rfl
theorem rr_6 {own:Bool}{m:Nat}{B:Nat->Int}{i n:Nat}:(lfun rqG nol 60 Try.f149 [.c (.ptr 0 0 0)] [rdB false i n,rowU own m B]).go (dN 6 1)=some ([yes (i+n<=m/\(fun j=>ub (B j))=fun j=>ub (ud (ub (B j)))),!rdX (fun j=>ud (ub (B j))) i n==(1:Int),!rdX (fun j=>ud (ub (B j))) i n==(2:Int),!rdX (fun j=>ud (ub (B j))) i n==(3:Int),!rdX (fun j=>ud (ub (B j))) i n==(4:Int),!rdX (fun j=>ud (ub (B j))) i n==(5:Int),rdX (fun j=>ud (ub (B j))) i n==(6:Int),yes (rdI i n+(n-1)<=m/\(fun j=>ub (ud (ub (B j))))=fun j=>ub (ud (ub (ud (ub (B j))))))],.agg [i64 (rdX (fun j=>ud (ub (B j))) i n),i64 0,i64 0,i64 (rnV4 (fun j=>ud (ub (ud (ub (B j))))) (rdI i n) (n-1)),i64 0,i64 0,i64 0,i64 0,i64 0,i64 0],[some ⟨175,true,.one [.sl 1 (rdI4 (rdI i n) (n-1)) (n-1-1-1-1-1),.v (.bool (rdB4 (false||((n:Nat):Int)==(0:Int)) (n-1)))]⟩,some ⟨5,own,.row 1 m fun j=>[.int .u8 (ud (ub (ud (ub (B j)))))]⟩]):=by kernel_rfl
theorem rr_x {own:Bool}{m:Nat}{B:Nat->Int}{i n:Nat}:(lfun rqG nol 60 Try.f149 [.c (.ptr 0 0 0)] [rdB false i n,rowU own m B]).go (dN 7 1)=some ([yes (i+n<=m/\(fun j=>ub (B j))=fun j=>ub (ud (ub (B j)))),!rdX (fun j=>ud (ub (B j))) i n==(1:Int),!rdX (fun j=>ud (ub (B j))) i n==(2:Int),!rdX (fun j=>ud (ub (B j))) i n==(3:Int),!rdX (fun j=>ud (ub (B j))) i n==(4:Int),!rdX (fun j=>ud (ub (B j))) i n==(5:Int),!rdX (fun j=>ud (ub (B j))) i n==(6:Int)],.agg [i64 (rdX (fun j=>ud (ub (B j))) i n),i64 0,i64 0,i64 0,i64 0,i64 0,i64 0,i64 0,i64 0,i64 0],[some ⟨175,true,.one [.sl 1 (rdI i n) (n-1),.v (.bool true)]⟩,some ⟨5,own,.row 1 m fun j=>[.int .u8 (ud (ub (B j)))]⟩]):=by kernel_rfl
end
section
open Go Go.RowKit
def rq0S (own:Bool) (m:Nat) (B:Nat->Int) (bad:Bool) (i n:Nat) (q c j:Int):St:=
 ⟨slots 104 [(0,.c (.ptr 0 0 0)),(2,.c (.ptr 2 0 0)),(3,.c (.ptr 3 0 0)),(4,I64 c),(5,I64 j),(11,I64 q)],[rdB bad i n,rowU own m B,rqZ,some ⟨128,true,.one [i64 q,i64 0,i64 0,i64 0,i64 0,i64 0,.v (.slice none 0 0)]⟩]⟩
theorem rq0_t {own:Bool}{m:Nat}{B:Nat->Int}{bad:Bool}{i n:Nat}{q c j:Int}:(rT rqG nol 2 48 (bodyOf Try.f145 0) rqK rqK (rq0S own m B bad i n q c j)).go []=some ([decide (j<c),true,true,true,true,true,!bad,yes (i+n<=m/\(fun j=>ub (B j))=fun j=>ub (ud (ub (B j)))),yes (rdI i n+(n-1)<=m/\(fun j=>ub (ud (ub (B j))))=fun j=>ub (ud (ub (ud (ub (B j)))))),yes (rdI4 (rdI i n) (n-1)+(n-1-1-1-1-1)<=m/\(fun j=>ub (ud (ub (ud (ub (B j))))))=fun j=>ub (ud (ub (ud (ub (ud (ub (B j)))))))),yes (rdI4 (rdI4 (rdI i n) (n-1)) (n-1-1-1-1-1)+(n-1-1-1-1-1-1-1-1-1)<=m/\(fun j=>ub (ud (ub (ud (ub (ud (ub (B j))))))))=fun j=>ub (ud (ub (ud (ub (ud (ub (ud (ub (B j)))))))))),yes (rdI4 (rdI4 (rdI4 (rdI i n) (n-1)) (n-1-1-1-1-1)) (n-1-1-1-1-1-1-1-1-1)+(n-1-1-1-1-1-1-1-1-1-1-1-1-1)<=m/\((fun j=>ub (ud (ub (ud (ub (ud (ub (ud (ub (B j))))))))))=fun j=>ub (ud (ub (ud (ub (ud (ub (ud (ub (ud (ub (B j))))))))))))/\(0:Int)<=rtL (fun j=>ud (ub (ud (ub (ud (ub (ud (ub (ud (ub (B j))))))))))) (rdI4 (rdI4 (rdI4 (rdI i n) (n-1)) (n-1-1-1-1-1)) (n-1-1-1-1-1-1-1-1-1)) (n-1-1-1-1-1-1-1-1-1-1-1-1-1)),rtE (rdB4 (rdB4 (rdB4 (bad||((n:Nat):Int)==(0:Int)) (n-1)) (n-1-1-1-1-1)) (n-1-1-1-1-1-1-1-1-1)) (fun j=>ud (ub (ud (ub (ud (ub (ud (ub (ud (ub (B j))))))))))) (rdI4 (rdI4 (rdI4 (rdI i n) (n-1)) (n-1-1-1-1-1)) (n-1-1-1-1-1-1-1-1-1)) (n-1-1-1-1-1-1-1-1-1-1-1-1-1),true,true,true,true,true,true,true],Ex.normal,{ sl:=slots 104 [(0,.c (.ptr 0 0 0)),(2,.c (.ptr 2 0 0)),(3,.c (.ptr 3 0 0)),(4,I64 c),(5,I64 (w64 (j+(1:Int)))),(11,I64 q)],h:=[some ⟨175,true,.one [.sl 1 (rtJ (rdB4 (rdB4 (rdB4 (bad||((n:Nat):Int)==(0:Int)) (n-1)) (n-1-1-1-1-1)) (n-1-1-1-1-1-1-1-1-1)) (fun j=>ud (ub (ud (ub (ud (ub (ud (ub (ud (ub (B j))))))))))) (rdI4 (rdI4 (rdI4 (rdI i n) (n-1)) (n-1-1-1-1-1)) (n-1-1-1-1-1-1-1-1-1)) (n-1-1-1-1-1-1-1-1-1-1-1-1-1)) (rtN (rdB4 (rdB4 (rdB4 (bad||((n:Nat):Int)==(0:Int)) (n-1)) (n-1-1-1-1-1)) (n-1-1-1-1-1-1-1-1-1)) (fun j=>ud (ub (ud (ub (ud (ub (ud (ub (ud (ub (B j))))))))))) (rdI4 (rdI4 (rdI4 (rdI i n) (n-1)) (n-1-1-1-1-1)) (n-1-1-1-1-1-1-1-1-1)) (n-1-1-1-1-1-1-1-1-1-1-1-1-1)),.v (.bool true)]⟩,some ⟨5,own,.row 1 m fun j=>[.int .u8 (ud (ub (ud (ub (ud (ub (ud (ub (ud (ub (B j)))))))))))]⟩,some ⟨128,true,.one [i64 0,i64 0,i64 0,i64 0,i64 0,i64 0,.v (.slice none 0 0)]⟩,some ⟨128,true,.one [i64 q,i64 0,i64 0,i64 0,i64 0,i64 0,.sl 4 0 1]⟩,some ⟨121,true,.row 5 1 fun k=>[.int .i64 (bif decide (k=0) then rdX (fun j=>ud (ub (B j))) i n else (0:Int)),.int .i64 (bif decide (k=0) then rnV4 (fun j=>ud (ub (ud (ub (B j))))) (rdI i n) (n-1) else (0:Int)),.int .i64 (bif decide (k=0) then rnV4 (fun j=>ud (ub (ud (ub (ud (ub (B j))))))) (rdI4 (rdI i n) (n-1)) (n-1-1-1-1-1) else (0:Int)),.int .i64 (bif decide (k=0) then rnV4 (fun j=>ud (ub (ud (ub (ud (ub (ud (ub (B j))))))))) (rdI4 (rdI4 (rdI i n) (n-1)) (n-1-1-1-1-1)) (n-1-1-1-1-1-1-1-1-1) else (0:Int)),.string (bif decide (k=0) then rtS (rdB4 (rdB4 (rdB4 (bad||((n:Nat):Int)==(0:Int)) (n-1)) (n-1-1-1-1-1)) (n-1-1-1-1-1-1-1-1-1)) (fun j=>ud (ub (ud (ub (ud (ub (ud (ub (ud (ub (B j))))))))))) (rdI4 (rdI4 (rdI4 (rdI i n) (n-1)) (n-1-1-1-1-1)) (n-1-1-1-1-1-1-1-1-1)) (n-1-1-1-1-1-1-1-1-1-1-1-1-1) else (⟨#[]⟩:ByteArray))]⟩] }):=by kernel_rfl
theorem rq0_f {own:Bool}{m:Nat}{B:Nat->Int}{bad:Bool}{i n:Nat}{q c j:Int}:(rT rqG nol 2 48 (bodyOf Try.f145 0) rqK rqK (rq0S own m B bad i n q c j)).go (dN 17 4095)=some ([decide (j<c),true,true,true,true,true,!bad,yes (i+n<=m/\(fun j=>ub (B j))=fun j=>ub (ud (ub (B j)))),yes (rdI i n+(n-1)<=m/\(fun j=>ub (ud (ub (B j))))=fun j=>ub (ud (ub (ud (ub (B j)))))),yes (rdI4 (rdI i n) (n-1)+(n-1-1-1-1-1)<=m/\(fun j=>ub (ud (ub (ud (ub (B j))))))=fun j=>ub (ud (ub (ud (ub (ud (ub (B j)))))))),yes (rdI4 (rdI4 (rdI i n) (n-1)) (n-1-1-1-1-1)+(n-1-1-1-1-1-1-1-1-1)<=m/\(fun j=>ub (ud (ub (ud (ub (ud (ub (B j))))))))=fun j=>ub (ud (ub (ud (ub (ud (ub (ud (ub (B j)))))))))),yes (rdI4 (rdI4 (rdI4 (rdI i n) (n-1)) (n-1-1-1-1-1)) (n-1-1-1-1-1-1-1-1-1)+(n-1-1-1-1-1-1-1-1-1-1-1-1-1)<=m/\((fun j=>ub (ud (ub (ud (ub (ud (ub (ud (ub (B j))))))))))=fun j=>ub (ud (ub (ud (ub (ud (ub (ud (ub (ud (ub (B j))))))))))))/\(0:Int)<=rtL (fun j=>ud (ub (ud (ub (ud (ub (ud (ub (ud (ub (B j))))))))))) (rdI4 (rdI4 (rdI4 (rdI i n) (n-1)) (n-1-1-1-1-1)) (n-1-1-1-1-1-1-1-1-1)) (n-1-1-1-1-1-1-1-1-1-1-1-1-1)),!rtE (rdB4 (rdB4 (rdB4 (bad||((n:Nat):Int)==(0:Int)) (n-1)) (n-1-1-1-1-1)) (n-1-1-1-1-1-1-1-1-1)) (fun j=>ud (ub (ud (ub (ud (ub (ud (ub (ud (ub (B j))))))))))) (rdI4 (rdI4 (rdI4 (rdI i n) (n-1)) (n-1-1-1-1-1)) (n-1-1-1-1-1-1-1-1-1)) (n-1-1-1-1-1-1-1-1-1-1-1-1-1),true,true,true,true,true,true,true],Ex.normal,{ sl:=slots 104 [(0,.c (.ptr 0 0 0)),(2,.c (.ptr 2 0 0)),(3,.c (.ptr 3 0 0)),(4,I64 c),(5,I64 (w64 (j+(1:Int)))),(11,I64 q)],h:=[some ⟨175,true,.one [.sl 1 (rtJ (rdB4 (rdB4 (rdB4 (bad||((n:Nat):Int)==(0:Int)) (n-1)) (n-1-1-1-1-1)) (n-1-1-1-1-1-1-1-1-1)) (fun j=>ud (ub (ud (ub (ud (ub (ud (ub (ud (ub (B j))))))))))) (rdI4 (rdI4 (rdI4 (rdI i n) (n-1)) (n-1-1-1-1-1)) (n-1-1-1-1-1-1-1-1-1)) (n-1-1-1-1-1-1-1-1-1-1-1-1-1)) (rtN (rdB4 (rdB4 (rdB4 (bad||((n:Nat):Int)==(0:Int)) (n-1)) (n-1-1-1-1-1)) (n-1-1-1-1-1-1-1-1-1)) (fun j=>ud (ub (ud (ub (ud (ub (ud (ub (ud (ub (B j))))))))))) (rdI4 (rdI4 (rdI4 (rdI i n) (n-1)) (n-1-1-1-1-1)) (n-1-1-1-1-1-1-1-1-1)) (n-1-1-1-1-1-1-1-1-1-1-1-1-1)),.v (.bool (decide ((((rtS (rdB4 (rdB4 (rdB4 (bad||((n:Nat):Int)==(0:Int)) (n-1)) (n-1-1-1-1-1)) (n-1-1-1-1-1-1-1-1-1)) (fun j=>ud (ub (ud (ub (ud (ub (ud (ub (ud (ub (B j))))))))))) (rdI4 (rdI4 (rdI4 (rdI i n) (n-1)) (n-1-1-1-1-1)) (n-1-1-1-1-1-1-1-1-1)) (n-1-1-1-1-1-1-1-1-1-1-1-1-1)).size:Nat):Int)>(2000:Int))))]⟩,some ⟨5,own,.row 1 m fun j=>[.int .u8 (ud (ub (ud (ub (ud (ub (ud (ub (ud (ub (B j)))))))))))]⟩,some ⟨128,true,.one [i64 0,i64 0,i64 0,i64 0,i64 0,i64 0,.v (.slice none 0 0)]⟩,some ⟨128,true,.one [i64 q,i64 0,i64 0,i64 0,i64 0,i64 0,.sl 4 0 1]⟩,some ⟨121,true,.row 5 1 fun k=>[.int .i64 (bif decide (k=0) then rdX (fun j=>ud (ub (B j))) i n else (0:Int)),.int .i64 (bif decide (k=0) then rnV4 (fun j=>ud (ub (ud (ub (B j))))) (rdI i n) (n-1) else (0:Int)),.int .i64 (bif decide (k=0) then rnV4 (fun j=>ud (ub (ud (ub (ud (ub (B j))))))) (rdI4 (rdI i n) (n-1)) (n-1-1-1-1-1) else (0:Int)),.int .i64 (bif decide (k=0) then rnV4 (fun j=>ud (ub (ud (ub (ud (ub (ud (ub (B j))))))))) (rdI4 (rdI4 (rdI i n) (n-1)) (n-1-1-1-1-1)) (n-1-1-1-1-1-1-1-1-1) else (0:Int)),.string (bif decide (k=0) then rtS (rdB4 (rdB4 (rdB4 (bad||((n:Nat):Int)==(0:Int)) (n-1)) (n-1-1-1-1-1)) (n-1-1-1-1-1-1-1-1-1)) (fun j=>ud (ub (ud (ub (ud (ub (ud (ub (ud (ub (B j))))))))))) (rdI4 (rdI4 (rdI4 (rdI i n) (n-1)) (n-1-1-1-1-1)) (n-1-1-1-1-1-1-1-1-1)) (n-1-1-1-1-1-1-1-1-1-1-1-1-1) else (⟨#[]⟩:ByteArray))]⟩] }):=by kernel_rfl
theorem rq0_e1 {own:Bool}{m:Nat}{B:Nat->Int}{bad:Bool}{i n:Nat}{q c j:Int}:(rT rqG nol 2 48 (bodyOf Try.f145 0) rqK rqK (rq0S own m B bad i n q c j)).go (dN 7 0)=some ([!decide (j<c),true,true,true,true,true,true],Ex.exit 1,{ sl:=slots 104 [(0,.c (.ptr 0 0 0)),(2,.c (.ptr 2 0 0)),(3,.c (.ptr 3 0 0)),(4,I64 c),(5,I64 j),(11,I64 q)],h:=[some ⟨175,true,.one [.sl 1 i n,.v (.bool bad)]⟩,some ⟨5,own,.row 1 m fun j=>[.int .u8 (B j)]⟩,some ⟨128,true,.one [i64 0,i64 0,i64 0,i64 0,i64 0,i64 0,.v (.slice none 0 0)]⟩,some ⟨128,true,.one [i64 q,i64 0,i64 0,i64 0,i64 0,i64 0,.v (.slice none 0 0)]⟩] }):=by kernel_rfl
theorem rq0_e2 {own:Bool}{m:Nat}{B:Nat->Int}{bad:Bool}{i n:Nat}{q c j:Int}:(rT rqG nol 2 48 (bodyOf Try.f145 0) rqK rqK (rq0S own m B bad i n q c j)).go (dN 7 63)=some ([decide (j<c),true,true,true,true,true,!!bad],Ex.exit 1,{ sl:=slots 104 [(0,.c (.ptr 0 0 0)),(2,.c (.ptr 2 0 0)),(3,.c (.ptr 3 0 0)),(4,I64 c),(5,I64 j),(11,I64 q)],h:=[some ⟨175,true,.one [.sl 1 i n,.v (.bool bad)]⟩,some ⟨5,own,.row 1 m fun j=>[.int .u8 (B j)]⟩,some ⟨128,true,.one [i64 0,i64 0,i64 0,i64 0,i64 0,i64 0,.v (.slice none 0 0)]⟩,some ⟨128,true,.one [i64 q,i64 0,i64 0,i64 0,i64 0,i64 0,.v (.slice none 0 0)]⟩] }):=by kernel_rfl
end
section
open Go Go.RowKit
def gL (L:List Int):Nat->Int:=fun j=>L.getD j 0
def gP (l:List Opp):Nat->Opp:=fun j=>l.getD j zOpp
def lst (B:Nat->Int) (i n:Nat):List Int:=(List.range n).map fun j=>B (i+j)
def rng (B:Nat->Int):Prop:=∀ j,0<=B j/\B j<256
theorem getD_app {α:Type}(l:List α) (x z:α) (j:Nat):(l++[x]).getD j z=bif decide (j=l.length) then x else l.getD j z:=by
 by_cases h:j=l.length
 ·subst h;simp
 ·rw [decide_eq_false h,cond_false]
  by_cases h2:j<l.length
  ·simp [List.getD_eq_getElem?_getD,List.getElem?_append_left h2]
  ·rw [List.getD_eq_getElem?_getD,List.getD_eq_getElem?_getD,List.getElem?_eq_none (by simp;omega),List.getElem?_eq_none (by omega)]
theorem gL_app (L:List Int) (x:Int):appB (gL L) L.length x=gL (L++[x]):=by funext j;unfold appB gL;rw [getD_app]
theorem gP_app (l:List Opp) (o:Opp):appP (gP l) l.length o=gP (l++[o]):=by
 funext q;unfold appP gP;rw [getD_app];cases decide (q=l.length) <;> rfl
theorem gL_app' (L:List Int) (k:Nat) (hk:k=L.length) (x:Int):appB (gL L) k x=gL (L++[x]):=by subst hk;exact gL_app L x
theorem wrap_by8 (n:Int):IntKind.u8.wrap n=by8 n:=by rw [IntKind.wrap_u8];rfl
theorem fdiv_k (n k:Int) (h:0<=k):n.fdiv k=n / k:=Int.fdiv_eq_ediv_of_nonneg n h
theorem gL_four (L:List Int) (k:Nat) (hk:k=L.length) (n:Int):fourB (gL L) k n=gL (L++four n):=by
 subst hk
 have e1:((2:Int)^min 24 IntKind.i64.bits)=16777216:=rfl
 have e2:((2:Int)^min 16 IntKind.i64.bits)=65536:=rfl
 have e3:((2:Int)^min 8 IntKind.i64.bits)=256:=rfl
 have e4:((2:Int)^min 0 IntKind.i64.bits)=1:=rfl
 unfold fourB
 rw [e1,e2,e3,e4,fdiv_k _ _ (by omega),fdiv_k _ _ (by omega),fdiv_k _ _ (by omega),fdiv_k _ _ (by omega),Int.ediv_one]
 simp only [wrap_by8]
 rw [gL_app,gL_app' _ _ (by simp),gL_app' _ _ (by simp),gL_app' _ _ (by simp)]
 simp [four]
theorem getD_app2 (A C:List Int) (j:Nat):(A++C).getD j 0=bif decide (j<A.length) then A.getD j 0 else C.getD (j-A.length) 0:=by
 by_cases h:j<A.length
 ·rw [decide_eq_true h,cond_true];simp [List.getD_eq_getElem?_getD,List.getElem?_append_left h]
 ·rw [decide_eq_false h,cond_false];simp [List.getD_eq_getElem?_getD,List.getElem?_append_right (by omega:A.length<=j)]
theorem bt_bsW (s:ByteArray) (j:Nat):bt s ((j:Nat):Int)=(bs s).getD j 0:=by
 unfold bt bs
 rw [Int.toNat_natCast]
 simp only [List.getD_eq_getElem?_getD,List.getElem?_map]
 cases s.data.toList[j]? <;> rfl
theorem gL_tx (L:List Int) (k:Nat) (hk:k=L.length) (s:ByteArray):txB (gL L) k s=gL (L++([by8 ((s.size:Int) / 256),by8 (s.size:Int)]++bs s)):=by
 subst hk
 have e3:((2:Int)^min 8 IntKind.i64.bits)=256:=rfl
 funext j
 unfold txB
 rw [e3,fdiv_k _ _ (by omega),wrap_by8,wrap_by8,gL_app,gL_app' _ _ (by simp)]
 have e9:gL (L++[by8 ((s.size:Int) / 256)]++[by8 (s.size:Int)])=gL (L++[by8 ((s.size:Int) / 256),by8 (s.size:Int)]):=by rw [List.append_assoc];rfl
 rw [e9]
 show _=(L++([by8 ((s.size:Int) / 256),by8 (s.size:Int)]++bs s)).getD j 0
 rw [<-List.append_assoc,getD_app2]
 have hl:(L++[by8 ((s.size:Int) / 256),by8 (s.size:Int)]).length=L.length+2:=by simp
 rw [hl]
 by_cases h:j<L.length+2
 ·rw [decide_eq_true h,cond_true,cond_true];rfl
 ·rw [decide_eq_false h,cond_false,cond_false,Nat.zero_add,bt_bsW]
  by_cases h2:j<L.length+2+s.size
  ·rw [decide_eq_true h2];rfl
  ·rw [decide_eq_false h2,cond_false,List.getD_eq_getElem?_getD,List.getElem?_eq_none (by rw [bs_len];omega)];rfl
theorem gL_op (L:List Int) (k:Nat) (hk:k=L.length) (o:Opp):oneB (gL L) k o=gL (L++opB o):=by
 subst hk
 unfold oneB
 rw [wrap_by8,gL_app,gL_four _ _ (by simp),gL_four _ _ (by simp [four]),gL_four _ _ (by simp [four]),gL_tx _ _ (by simp [four])]
 simp [opB]
theorem gP_get (os:List Opp) (i:Nat) (h:i<os.length):gP os i=os[i]:=by simp [gP,List.getD_eq_getElem?_getD,h]
theorem wq_list (os:List Opp) (L:List Int):∀ i,i<=os.length->wqLen (gP os) L.length i=(L++(os.take i).flatMap opB).length/\wqBs (gP os) L.length (gL L) i=gL (L++(os.take i).flatMap opB)
 | 0,_=>by simp [wqLen,wqBs]
 | i+1,h=>by
  obtain ⟨h1,h2⟩:=wq_list os L i (by omega)
  have e:os.take (i+1)=os.take i++[os[i]]:=by simp
  have eP:=gP_get os i (by omega)
  refine ⟨?_,?_⟩
  ·simp only [wqLen,h1,e,eP,List.flatMap_append,List.flatMap_singleton,List.length_append,opB_len];omega
  ·simp only [wqBs]
   rw [h2,eP,gL_op _ _ h1,e,List.flatMap_append,List.append_assoc,List.flatMap_singleton]
def allOk (os:List Opp):Bool:=os.all opOk
theorem oneBad_eq (bad:Bool) (o:Opp):oneBad bad o=(bad||!opOk o):=by
 have e:decide (((o.s.size:Nat):Int)>2000)=!decide (o.s.size<=2000):=by
  by_cases h:o.s.size<=2000
  ·rw [decide_eq_true h,decide_eq_false (by omega)];rfl
  ·rw [decide_eq_false h,decide_eq_true (by omega)];rfl
 unfold oneBad opOk
 rw [e]
 cases bad <;> cases byOk o.k <;> cases fits o.i <;> cases fits o.a <;> cases fits o.b <;> cases decide (o.s.size<=2000) <;> rfl
theorem wqBad_eq (os:List Opp) (bad:Bool):∀ i,i<=os.length->wqBad (gP os) bad i=(bad||!allOk (os.take i))
 | 0,_=>by simp [wqBad,allOk]
 | i+1,h=>by
  have e:os.take (i+1)=os.take i++[os[i]]:=by simp
  simp only [wqBad,wqBad_eq os bad i (by omega),oneBad_eq,gP_get os i (by omega),e,allOk,List.all_append,List.all_cons,List.all_nil,Bool.and_true]
  cases bad <;> cases (os.take i).all opOk <;> cases opOk os[i] <;> rfl
theorem lst_len (B:Nat->Int) (i n:Nat):(lst B i n).length=n:=by simp [lst]
theorem lst_succ (B:Nat->Int) (i k:Nat):lst B i (k+1)=B i::lst B (i+1) k:=by
 unfold lst
 rw [List.range_succ_eq_map]
 simp only [List.map_cons,List.map_map,Nat.add_zero]
 congr 1
 refine List.map_congr_left fun x _=>?_
 show B (i+(x+1))=B (i+1+x)
 congr 1;omega
theorem lst_gL (L:List Int):lst (gL L) 0 L.length=L:=by
 refine List.ext_getElem (lst_len _ _ _) fun j h1 h2=>?_
 simp [lst,gL,List.getD_eq_getElem?_getD,h2]
theorem lst_take (B:Nat->Int) (i n k:Nat) (h:k<=n):(lst B i n).take k=lst B i k:=by
 unfold lst;rw [<-List.map_take,List.take_range,Nat.min_eq_left h]
theorem lst_drop (B:Nat->Int) (i n k:Nat) (h:k<=n):(lst B i n).drop k=lst B (i+k) (n-k):=by
 refine List.ext_getElem (by simp [lst]) fun j h1 h2=>?_
 simp [lst,Nat.add_assoc]
theorem rByte_lst {B:Nat->Int}(hB:rng B) (i n:Nat) (bad:Bool):rByte (lst B i n,bad)=(rdX B i n,lst B (rdI i n) (n-1),bad||((n:Nat):Int)==(0:Int)):=by
 cases n with
 | zero=>cases bad <;> rfl
 | succ k=>
  have e1:(((k+1:Nat):Int)==(0:Int))=false:=by simp only [beq_eq_false_iff_ne];omega
  have h:=hB i
  unfold rdX rdI
  rw [e1,cond_false,cond_false,Bool.or_false,w64_id (by omega) (by omega),lst_succ]
  rfl
theorem rdX_in {B:Nat->Int}(hB:rng B) (i n:Nat):0<=rdX B i n/\rdX B i n<256:=by
 have h:=hB i
 unfold rdX
 cases ((n:Nat):Int)==(0:Int)
 ·rw [cond_false,w64_id (by omega) (by omega)];omega
 ·rw [cond_true];omega
theorem or_low (a x:Nat) (hx:x<256):a*256 ||| x=a*256+x:=by
 have:=Nat.shiftLeft_add_eq_or_of_lt (a:=a) (b:=x) (i:=8) (by omega)
 rw [Nat.shiftLeft_eq] at this
 exact this.symm
theorem nbS_eq {a x:Int}(ha:0<=a/\a<16777216) (hx:0<=x/\x<256):IntKind.u32.wrap (nbS a x)=a*256+x:=by
 obtain ⟨a',rfl⟩:=Int.eq_ofNat_of_zero_le ha.1
 obtain ⟨x',rfl⟩:=Int.eq_ofNat_of_zero_le hx.1
 have e3:((2:Int)^min 8 IntKind.u32.bits)=256:=rfl
 unfold nbS
 have b1:BitVec.ofInt IntKind.u32.bits (IntKind.u32.wrap ((a':Int)*2^min 8 IntKind.u32.bits))=BitVec.ofNat IntKind.u32.bits (a'*256):=by
  rw [e3,IntKind.wrap_u32,Int.emod_eq_of_lt (by omega) (by omega)]
  exact BitVec.ofInt_natCast _ (a'*256)
 have b2:BitVec.ofInt IntKind.u32.bits (IntKind.u32.wrap (x':Int))=BitVec.ofNat IntKind.u32.bits x':=by
  rw [IntKind.wrap_u32,Int.emod_eq_of_lt (by omega) (by omega)]
  exact BitVec.ofInt_natCast _ x'
 have e5:(2:Nat)^IntKind.u32.bits=4294967296:=rfl
 rw [b1,b2,BitVec.toNat_or,BitVec.toNat_ofNat,BitVec.toNat_ofNat,e5,Nat.mod_eq_of_lt (by omega),Nat.mod_eq_of_lt (by omega),or_low _ _ (by omega),IntKind.wrap_u32]
 omega
theorem nbX_eq {x0 x1 x2 x3:Int}(h0:0<=x0/\x0<256) (h1:0<=x1/\x1<256) (h2:0<=x2/\x2<256) (h3:0<=x3/\x3<256):nbX x0 x1 x2 x3=num4 x0 x1 x2 x3:=by
 unfold nbX
 rw [nbS_eq (a:=0) (by omega) h0,nbS_eq (by omega) h1,nbS_eq (by omega) h2,nbS_eq (by omega) h3,IntKind.wrap_i32]
 unfold num4
 rw [w64_id (by omega) (by omega)]
 split <;> omega
theorem rNum_lst {B:Nat->Int}(hB:rng B) (i n:Nat) (bad:Bool):rNum (lst B i n,bad)=(rnV4 B i n,lst B (rdI4 i n) (n-1-1-1-1),rdB4 bad n):=by
 unfold rNum
 simp only [rByte_lst hB]
 unfold rnV4
 rw [nbX_eq (rdX_in hB _ _) (rdX_in hB _ _) (rdX_in hB _ _) (rdX_in hB _ _)]
 rfl
theorem rtL_eq {B:Nat->Int}(hB:rng B) (i n:Nat):rtL B i n=rdX B i n*256+rdX B (rdI i n) (n-1):=by
 have h1:=rdX_in hB i n
 have h2:=rdX_in hB (rdI i n) (n-1)
 unfold rtL
 obtain ⟨a',ha⟩:=Int.eq_ofNat_of_zero_le h1.1
 obtain ⟨x',hx⟩:=Int.eq_ofNat_of_zero_le h2.1
 rw [ha] at h1 ⊢
 rw [hx] at h2 ⊢
 have e3:((2:Int)^min 8 IntKind.i64.bits)=256:=rfl
 have b1:BitVec.ofInt IntKind.i64.bits (w64 ((a':Int)*2^min 8 IntKind.i64.bits))=BitVec.ofNat IntKind.i64.bits (a'*256):=by
  rw [e3,w64_id (by omega) (by omega)]
  exact BitVec.ofInt_natCast _ (a'*256)
 have b2:BitVec.ofInt IntKind.i64.bits (x':Int)=BitVec.ofNat IntKind.i64.bits x':=BitVec.ofInt_natCast _ x'
 have e5:(2:Nat)^IntKind.i64.bits=18446744073709551616:=rfl
 rw [b1,b2,BitVec.toNat_or,BitVec.toNat_ofNat,BitVec.toNat_ofNat,e5,Nat.mod_eq_of_lt (by omega),Nat.mod_eq_of_lt (by omega),or_low _ _ (by omega),w64_id (by omega) (by omega)]
 omega
theorem rtL_nn {B:Nat->Int}(hB:rng B) (i n:Nat):0<=rtL B i n:=by
 have h1:=rdX_in hB i n
 have h2:=rdX_in hB (rdI i n) (n-1)
 rw [rtL_eq hB];omega
theorem bytes_lst (B:Nat->Int) (i n:Nat):bytesOf (fun j=>ub (B j)) i n=toB (lst B i n):=by
 unfold bytesOf toB lst
 rw [List.map_map]
 rfl
theorem rText_lst {B:Nat->Int}(hB:rng B) (i n:Nat) (bad:Bool):rText (lst B i n,bad)=(rtS bad B i n,lst B (rtJ bad B i n) (rtN bad B i n),rtE bad B i n):=by
 have hn:=rtL_nn hB i n
 have hL:=rtL_eq hB i n
 unfold rText
 simp only [rByte_lst hB,lst_len]
 have hE:(((bad||((n:Nat):Int)==(0:Int))||((n-1:Nat):Int)==(0:Int))||decide (rdX B i n*256+rdX B (rdI i n) (n-1)>((n-1-1:Nat):Int)))=rtE bad B i n:=by rw [<-hL];rfl
 rw [hE]
 unfold rtS rtJ rtN
 cases he:rtE bad B i n with
 | true=>rfl
 | false=>
  rw [<-hL]
  have h1:¬ rtL B i n>((n-1-1:Nat):Int):=by
   intro h
   unfold rtE at he
   rw [decide_eq_true h,Bool.or_true] at he
   cases he
  have h2:((bad||((n:Nat):Int)==(0:Int))||((n-1:Nat):Int)==(0:Int))=false:=by
   unfold rtE at he
   rw [Bool.or_eq_false_iff] at he
   exact he.1
  simp only [cond_false,bytes_lst,h2]
  rw [lst_take _ _ _ _ (by omega),lst_drop _ _ _ _ (by omega)]
  rfl
theorem rdI_sum (i n:Nat):rdI i n+(n-1)=i+n:=by
 unfold rdI
 by_cases h0:n=0
 ·subst h0;rfl
 ·have e1:(((n:Nat):Int)==(0:Int))=false:=by simp only [beq_eq_false_iff_ne];omega
  rw [e1,cond_false];omega
theorem rdI4_sum (i n:Nat):rdI4 i n+(n-1-1-1-1)=i+n:=by
 unfold rdI4;rw [rdI_sum,rdI_sum,rdI_sum,rdI_sum]
theorem rt_sum {B:Nat->Int}(hB:rng B) (bad:Bool) (i n:Nat):rtJ bad B i n+rtN bad B i n=i+n:=by
 have hn:=rtL_nn hB i n
 have h0:rtI i n+(n-1-1)=i+n:=by unfold rtI;rw [rdI_sum,rdI_sum]
 unfold rtJ rtN
 cases he:rtE bad B i n with
 | true=>exact h0
 | false=>
  have h1:¬ rtL B i n>((n-1-1:Nat):Int):=by
   intro h
   unfold rtE at he
   rw [decide_eq_true h,Bool.or_true] at he
   cases he
  rw [cond_false,cond_false];omega
end
section
open Go Go.RowKit
def zN (n:Nat):Nat:=n-1-1-1-1-1-1-1-1-1-1-1-1-1
def zI (i n:Nat):Nat:=rdI4 (rdI4 (rdI4 (rdI i n) (n-1)) (n-1-1-1-1-1)) (n-1-1-1-1-1-1-1-1-1)
def zB (bad:Bool) (n:Nat):Bool:=rdB4 (rdB4 (rdB4 (bad||((n:Nat):Int)==(0:Int)) (n-1)) (n-1-1-1-1-1)) (n-1-1-1-1-1-1-1-1-1)
def rqO (bad:Bool) (B:Nat->Int) (i n:Nat):Opp:=⟨rdX B i n,rnV4 B (rdI i n) (n-1),rnV4 B (rdI4 (rdI i n) (n-1)) (n-1-1-1-1-1),rnV4 B (rdI4 (rdI4 (rdI i n) (n-1)) (n-1-1-1-1-1)) (n-1-1-1-1-1-1-1-1-1),rtS (zB bad n) B (zI i n) (zN n)⟩
def zE (bad:Bool) (B:Nat->Int) (i n:Nat):Bool:=rtE (zB bad n) B (zI i n) (zN n)
def zJ (bad:Bool) (B:Nat->Int) (i n:Nat):Nat:=rtJ (zB bad n) B (zI i n) (zN n)
def zM (bad:Bool) (B:Nat->Int) (i n:Nat):Nat:=rtN (zB bad n) B (zI i n) (zN n)
def zZ (bad:Bool) (B:Nat->Int) (i n:Nat):Bool:=zE bad B i n||decide ((rqO bad B i n).s.size>2000)
theorem rOp_lst {B:Nat->Int}(hB:rng B) (i n:Nat) (bad:Bool):rOp (lst B i n,bad)=(rqO bad B i n,lst B (zJ bad B i n) (zM bad B i n),zZ bad B i n):=by
 unfold rOp
 simp only [rByte_lst hB,rNum_lst hB,rText_lst hB]
 rfl
theorem zI_sum (i n:Nat):zI i n+zN n=i+n:=by
 unfold zI zN;rw [rdI4_sum,rdI4_sum,rdI4_sum,rdI_sum]
theorem z_sum {B:Nat->Int}(hB:rng B) (bad:Bool) (i n:Nat):zJ bad B i n+zM bad B i n=i+n:=by
 unfold zJ zM;rw [rt_sum hB,zI_sum]
theorem rq_round {own:Bool}{m:Nat}{B:Nat->Int}{i n:Nat}{q c j:Int}{na:Nat}{P:Nat->Opp}(hB:rng B) (hm:i+n<=m) (hj:j<c) (h0:0<=j) (hc:c<256) (hna:na<300) :
  CodeSem rqG 2 (bodyOf Try.f145 0) (rqS own m B false i n q c j na P) (.normal,rqS own m B (zZ false B i n) (zJ false B i n) (zM false B i n) q c (j+1) (na+1) (appP P na (rqO false B i n))):=by
 have e1:w64 (j+1)=j+1:=w64_id (by omega) (by omega)
 have hL:=rtL_nn hB (zI i n) (zN n)
 have k1:=rdI_le hm
 have k2:=rdI4_le k1
 have k3:=rdI4_le k2
 have k4:=rdI4_le k3
 cases he:zE false B i n with
 | true=>
  have hz:zZ false B i n=true:=by unfold zZ;rw [he];rfl
  rw [hz]
  refine rT_sem rqG_ok noLoopsS ((rT_go rq_t ?_).trans ?_)
  ·repeat' (first|exact AllT.nil|refine AllT.cons ?_ ?_)
   all_goals first|(with_reducible rfl)|exact he|exact yes_of ⟨by assumption,rfl⟩|exact yes_of ⟨by assumption,rfl,hL⟩|exact decide_eq_true (by omega)|exact decide_eq_true trivial|exact decide_eq_true (by unfold maxCells;omega)
  ·simp only [e1]
   rfl
 | false=>
  have hz:zZ false B i n=decide (((rqO false B i n).s.size:Nat)>2000):=by unfold zZ;rw [he];rfl
  have hz2:decide (((rqO false B i n).s.size:Nat)>2000)=decide ((((rqO false B i n).s.size:Nat):Int)>2000):=by
   by_cases h:(rqO false B i n).s.size>2000
   ·rw [decide_eq_true h,decide_eq_true (by omega)]
   ·rw [decide_eq_false h,decide_eq_false (by omega)]
  rw [hz,hz2]
  refine rT_sem rqG_ok noLoopsS ((rT_go rq_f ?_).trans ?_)
  ·repeat' (first|exact AllT.nil|refine AllT.cons ?_ ?_)
   all_goals first|(with_reducible rfl)|exact (congrArg (!·) he).trans rfl|exact yes_of ⟨by assumption,rfl⟩|exact yes_of ⟨by assumption,rfl,hL⟩|exact decide_eq_true (by omega)|exact decide_eq_true trivial|exact decide_eq_true (by unfold maxCells;omega)
  ·simp only [e1]
   rfl
theorem rq_round0 {own:Bool}{m:Nat}{B:Nat->Int}{i n:Nat}{q c j:Int}(hB:rng B) (hm:i+n<=m) (hj:j<c) (h0:0<=j) (hc:c<256) :
  CodeSem rqG 2 (bodyOf Try.f145 0) (rq0S own m B false i n q c j) (.normal,rqS own m B (zZ false B i n) (zJ false B i n) (zM false B i n) q c (j+1) 1 (appP (fun _=>zOpp) 0 (rqO false B i n))):=by
 have e1:w64 (j+1)=j+1:=w64_id (by omega) (by omega)
 have hL:=rtL_nn hB (zI i n) (zN n)
 have k1:=rdI_le hm
 have k2:=rdI4_le k1
 have k3:=rdI4_le k2
 have k4:=rdI4_le k3
 cases he:zE false B i n with
 | true=>
  have hz:zZ false B i n=true:=by unfold zZ;rw [he];rfl
  rw [hz]
  refine rT_sem rqG_ok noLoopsS ((rT_go rq0_t ?_).trans ?_)
  ·repeat' (first|exact AllT.nil|refine AllT.cons ?_ ?_)
   all_goals first|(with_reducible rfl)|exact he|exact yes_of ⟨by assumption,rfl⟩|exact yes_of ⟨by assumption,rfl,hL⟩|exact decide_eq_true (by omega)|exact decide_eq_true trivial|exact decide_eq_true (by unfold maxCells;omega)
  ·simp only [e1]
   rfl
 | false=>
  have hz:zZ false B i n=decide (((rqO false B i n).s.size:Nat)>2000):=by unfold zZ;rw [he];rfl
  have hz2:decide (((rqO false B i n).s.size:Nat)>2000)=decide ((((rqO false B i n).s.size:Nat):Int)>2000):=by
   by_cases h:(rqO false B i n).s.size>2000
   ·rw [decide_eq_true h,decide_eq_true (by omega)]
   ·rw [decide_eq_false h,decide_eq_false (by omega)]
  rw [hz,hz2]
  refine rT_sem rqG_ok noLoopsS ((rT_go rq0_f ?_).trans ?_)
  ·repeat' (first|exact AllT.nil|refine AllT.cons ?_ ?_)
   all_goals first|(with_reducible rfl)|exact (congrArg (!·) he).trans rfl|exact yes_of ⟨by assumption,rfl⟩|exact yes_of ⟨by assumption,rfl,hL⟩|exact decide_eq_true (by omega)|exact decide_eq_true trivial|exact decide_eq_true (by unfold maxCells;omega)
  ·simp only [e1]
   rfl
theorem rq_rounds {own:Bool}{m:Nat}{B:Nat->Int}{q c:Int}(hB:rng B) (hc:c<256):∀ (d:Nat) (bad:Bool) (i n:Nat) (j:Int) (P:List Opp),i+n<=m->0<=j->c=j+d->P.length<=j.toNat →
  LoopR rqG 2 (bodyOf Try.f145 0) (rqS own m B bad i n q c j P.length (gP P)) (.exit 1,rqS own m B (rOps d (lst B i n,bad)).2.2 (i+n-(rOps d (lst B i n,bad)).2.1.length) (rOps d (lst B i n,bad)).2.1.length q c (j+(rOps d (lst B i n,bad)).1.length) (P++(rOps d (lst B i n,bad)).1).length (gP (P++(rOps d (lst B i n,bad)).1)))
 | 0,bad,i,n,j,P,hm,h0,hd,hP=>by
  simp only [rOps,lst_len,List.append_nil,List.length_nil,Nat.add_sub_cancel]
  refine LoopR.stop (by simp) (rT_sem rqG_ok noLoopsS ((rT_go rq_e1 ?_).trans ?_))
  ·refine ⟨by rw [decide_eq_false (by omega)];rfl,rfl,rfl,rfl,rfl,rfl,rfl,trivial⟩
  ·simp only [Int.natCast_zero,Int.add_zero];rfl
 | d+1,true,i,n,j,P,hm,h0,hd,hP=>by
  simp only [rOps,cond_true,lst_len,List.append_nil,List.length_nil,Nat.add_sub_cancel]
  refine LoopR.stop (by simp) (rT_sem rqG_ok noLoopsS ((rT_go rq_e2 ?_).trans ?_))
  ·refine ⟨decide_eq_true (by omega),rfl,rfl,rfl,rfl,rfl,rfl,trivial⟩
  ·simp only [Int.natCast_zero,Int.add_zero];rfl
 | d+1,false,i,n,j,P,hm,h0,hd,hP=>by
  have hs:=z_sum hB false i n
  have ih:=rq_rounds (own:=own) (m:=m) (q:=q) hB hc d (zZ false B i n) (zJ false B i n) (zM false B i n) (j+1) (P++[rqO false B i n]) (by omega) (by omega) (by omega) (by simp;omega)
  refine LoopR.next (rq_round hB hm (by omega) h0 hc (by omega)) ?_
  rw [gP_app]
  have e2:P.length+1=(P++[rqO false B i n]).length:=by simp
  rw [e2]
  refine cast ?_ ih
  have e3:rOps (d+1) (lst B i n,false)=(rqO false B i n::(rOps d (lst B (zJ false B i n) (zM false B i n),zZ false B i n)).1,(rOps d (lst B (zJ false B i n) (zM false B i n),zZ false B i n)).2):=by
   simp only [rOps,cond_false,rOp_lst hB]
  rw [e3]
  simp only [hs,List.append_assoc,List.cons_append,List.nil_append,List.length_cons]
  rw [show j+1+((rOps d (lst B (zJ false B i n) (zM false B i n),zZ false B i n)).1.length:Int)=j+(((rOps d (lst B (zJ false B i n) (zM false B i n),zZ false B i n)).1.length+1:Nat):Int) by omega]
def rqEnd (own:Bool) (m:Nat) (B:Nat->Int) (bad:Bool) (i n:Nat) (q c j:Int):List Opp->St
 | []=>rq0S own m B bad i n q c j
 | o::l=>rqS own m B bad i n q c j (o::l).length (gP (o::l))
theorem rq_loop {own:Bool}{m:Nat}{B:Nat->Int}{q c:Int}(hB:rng B) (hc:c<256) (h0:0<=c) (bad:Bool) (i n:Nat) (hm:i+n<=m) :
  LoopR rqG 2 (bodyOf Try.f145 0) (rq0S own m B bad i n q c 0) (.exit 1,rqEnd own m B (rOps c.toNat (lst B i n,bad)).2.2 (i+n-(rOps c.toNat (lst B i n,bad)).2.1.length) (rOps c.toNat (lst B i n,bad)).2.1.length q c ((rOps c.toNat (lst B i n,bad)).1.length:Nat) (rOps c.toNat (lst B i n,bad)).1):=by
 obtain ⟨d,rfl⟩:=Int.eq_ofNat_of_zero_le h0
 rw [Int.toNat_natCast]
 cases d with
 | zero=>
  simp only [rOps,lst_len,List.length_nil,Nat.add_sub_cancel,rqEnd]
  refine LoopR.stop (by simp) (rT_sem rqG_ok noLoopsS ((rT_go rq0_e1 ?_).trans ?_))
  ·refine ⟨rfl,rfl,rfl,rfl,rfl,rfl,rfl,trivial⟩
  ·rfl
 | succ d=>
  cases bad with
  | true=>
   simp only [rOps,cond_true,lst_len,List.length_nil,Nat.add_sub_cancel,rqEnd]
   refine LoopR.stop (by simp) (rT_sem rqG_ok noLoopsS ((rT_go rq0_e2 ?_).trans ?_))
   ·refine ⟨decide_eq_true (by omega),rfl,rfl,rfl,rfl,rfl,rfl,trivial⟩
   ·rfl
  | false=>
   have hs:=z_sum hB false i n
   have ih:=rq_rounds (own:=own) (m:=m) (q:=q) (c:=((d+1:Nat):Int)) hB hc d (zZ false B i n) (zJ false B i n) (zM false B i n) (0+1) ([]++[rqO false B i n]) (by omega) (by omega) (by omega) (by simp)
   refine LoopR.next (rq_round0 hB hm (by omega) (by omega) hc) ?_
   have e1:(fun _=>zOpp)=gP []:=rfl
   have e2:=gP_app [] (rqO false B i n)
   rw [List.length_nil] at e2
   rw [e1,e2]
   refine cast ?_ ih
   have e3:rOps (d+1) (lst B i n,false)=(rqO false B i n::(rOps d (lst B (zJ false B i n) (zM false B i n),zZ false B i n)).1,(rOps d (lst B (zJ false B i n) (zM false B i n),zZ false B i n)).2):=by
    simp only [rOps,cond_false,rOp_lst hB]
   rw [e3]
   simp only [hs,List.cons_append,List.nil_append,List.length_cons,List.length_nil,rqEnd]
   rw [show (0:Int)+1+((rOps d (lst B (zJ false B i n) (zM false B i n),zZ false B i n)).1.length:Int)=(((rOps d (lst B (zJ false B i n) (zM false B i n),zZ false B i n)).1.length+1:Nat):Int) by omega]
end
section
open Go Go.RowKit
structure Qd where
 k:Int
 n:Int
 p:Int
 t:Int
 x:Int
 y:Int
 o:List Opp
def rQuery (s:List Int × Bool):Qd × (List Int × Bool):=
 bif (rByte s).1==1 then
  (⟨1,0,0,0,0,0,(rOps (rByte (rByte s).2).1.toNat ((rByte (rByte s).2).2.1,(rByte (rByte s).2).2.2||decide ((rByte (rByte s).2).1>100))).1⟩,(rOps (rByte (rByte s).2).1.toNat ((rByte (rByte s).2).2.1,(rByte (rByte s).2).2.2||decide ((rByte (rByte s).2).1>100))).2)
 else bif (rByte s).1==2||(rByte s).1==6 then (⟨(rByte s).1,0,0,0,0,0,[]⟩,(rByte s).2)
 else bif (rByte s).1==3 then (⟨3,0,(rNum (rByte s).2).1,(rNum (rNum (rByte s).2).2).1,0,0,[]⟩,(rNum (rNum (rByte s).2).2).2)
 else bif (rByte s).1==4 then (⟨4,(rNum (rNum (rNum (rByte s).2).2).2).1,(rNum (rByte s).2).1,(rNum (rNum (rByte s).2).2).1,0,0,[]⟩,(rNum (rNum (rNum (rByte s).2).2).2).2)
 else bif (rByte s).1==5 then (⟨5,0,(rNum (rByte s).2).1,(rNum (rNum (rByte s).2).2).1,(rNum (rNum (rNum (rByte s).2).2).2).1,(rNum (rNum (rNum (rNum (rByte s).2).2).2).2).1,[]⟩,(rNum (rNum (rNum (rNum (rByte s).2).2).2).2).2)
 else (⟨(rByte s).1,0,0,0,0,0,[]⟩,(rByte s).2.1,true)
def reqB (q:Qd):List Int:=by8 q.k::(bif q.k==1 then by8 (q.o.length:Nat)::q.o.flatMap opB
 else bif q.k==2||q.k==6 then []
 else bif q.k==3 then four q.p++four q.t
 else bif q.k==4 then four q.p++four q.t++four q.n
 else four q.p++four q.t++four q.x++four q.y)
def wrOk (q:Qd):Bool:=bif q.k==1 then decide (q.o.length<=100)&&q.o.all opOk
 else bif q.k==2||q.k==6 then true
 else bif q.k==3 then fits q.p&&fits q.t
 else bif q.k==4 then fits q.p&&fits q.t&&fits q.n
 else bif q.k==5 then fits q.p&&fits q.t&&fits q.x&&fits q.y else false
def bareQ (q:Qd):Qd:=bif q.k==1 then ⟨1,0,0,0,0,0,q.o⟩
 else bif q.k==2||q.k==6 then ⟨q.k,0,0,0,0,0,[]⟩
 else bif q.k==3 then ⟨3,0,q.p,q.t,0,0,[]⟩
 else bif q.k==4 then ⟨4,q.n,q.p,q.t,0,0,[]⟩
 else bif q.k==5 then ⟨5,0,q.p,q.t,q.x,q.y,[]⟩ else ⟨q.k,0,0,0,0,0,[]⟩
theorem rQuery_reqB' {q:Qd}(h:wrOk q=true) (l:List Int):rQuery (reqB q++l,false)=(bareQ q,l,false):=by
 obtain ⟨k,n,p,t,x,y,o⟩:=q
 unfold wrOk at h
 simp only at h
 by_cases h1:k=1
 ·subst h1
  have h':(decide (o.length<=100)&&o.all opOk)=true:=h
  rw [Bool.and_eq_true,decide_eq_true_eq,List.all_eq_true] at h'
  have hb:by8 (o.length:Nat)=(o.length:Int):=by unfold by8;omega
  show rQuery (1::by8 (o.length:Nat)::(o.flatMap opB++l),false)=_
  have hr:=rOps_opB o l h'.2
  have e:rQuery (1::by8 (o.length:Nat)::(o.flatMap opB++l),false)=(⟨1,0,0,0,0,0,(rOps (by8 (o.length:Nat)).toNat (o.flatMap opB++l,false||decide (by8 (o.length:Nat)>100))).1⟩,(rOps (by8 (o.length:Nat)).toNat (o.flatMap opB++l,false||decide (by8 (o.length:Nat)>100))).2):=rfl
  rw [e,hb,Int.toNat_natCast,decide_eq_false (by omega),Bool.or_false,hr]
  rfl
 by_cases h2:k=2
 ·subst h2;rfl
 by_cases h6:k=6
 ·subst h6;rfl
 by_cases h3:k=3
 ·subst h3
  have h':(fits p&&fits t)=true:=h
  rw [Bool.and_eq_true] at h'
  show rQuery (3::(four p++four t++l),false)=_
  rw [List.append_assoc]
  have e:∀ L,rQuery (3::L,false)=(⟨3,0,(rNum (L,false)).1,(rNum (rNum (L,false)).2).1,0,0,[]⟩,(rNum (rNum (L,false)).2).2):=fun L=>rfl
  rw [e]
  simp only [rNum_four h'.1,rNum_four h'.2]
  rfl
 by_cases h4:k=4
 ·subst h4
  have h':(fits p&&fits t&&fits n)=true:=h
  rw [Bool.and_eq_true,Bool.and_eq_true] at h'
  show rQuery (4::(four p++four t++four n++l),false)=_
  rw [List.append_assoc,List.append_assoc]
  have e:∀ L,rQuery (4::L,false)=(⟨4,(rNum (rNum (rNum (L,false)).2).2).1,(rNum (L,false)).1,(rNum (rNum (L,false)).2).1,0,0,[]⟩,(rNum (rNum (rNum (L,false)).2).2).2):=fun L=>rfl
  rw [e]
  simp only [rNum_four h'.1.1,rNum_four h'.1.2,rNum_four h'.2]
  rfl
 by_cases h5:k=5
 ·subst h5
  have h':(fits p&&fits t&&fits x&&fits y)=true:=h
  rw [Bool.and_eq_true,Bool.and_eq_true,Bool.and_eq_true] at h'
  show rQuery (5::(four p++four t++four x++four y++l),false)=_
  rw [List.append_assoc,List.append_assoc,List.append_assoc]
  have e:∀ L,rQuery (5::L,false)=(⟨5,0,(rNum (L,false)).1,(rNum (rNum (L,false)).2).1,(rNum (rNum (rNum (L,false)).2).2).1,(rNum (rNum (rNum (rNum (L,false)).2).2).2).1,[]⟩,(rNum (rNum (rNum (rNum (L,false)).2).2).2).2):=fun L=>rfl
  rw [e]
  simp only [rNum_four h'.1.1.1,rNum_four h'.1.1.2,rNum_four h'.1.2,rNum_four h'.2]
  rfl
 ·have b:∀ c:Int,k ≠ c->(k==c)=false:=fun c hc=>by rw [beq_eq_false_iff_ne];exact hc
  simp [b 1 h1,b 2 h2,b 6 h6,b 3 h3,b 4 h4,b 5 h5] at h
theorem rQuery_reqB {q:Qd}(h:wrOk q=true):rQuery (reqB q,false)=(bareQ q,[],false):=by
 have:=rQuery_reqB' h []
 rwa [List.append_nil] at this
abbrev Rdr (α:Type):=List Int × Bool->α × (List Int × Bool)
def Extn {α:Type}(f:Rdr α):Prop:=∀ s M,(f s).2.2=false->s.2=false/\f (s.1++M,s.2)=((f s).1,(f s).2.1++M,false)
def bndR {α β:Type}(f:Rdr α) (g:α->Rdr β):Rdr β:=fun s=>g (f s).1 (f s).2
theorem Extn.bndR {α β:Type}{f:Rdr α}{g:α->Rdr β}(hf:Extn f) (hg:∀ a,Extn (g a)):Extn (bndR f g):=by
 intro s M h
 unfold QAI.bndR at h ⊢
 obtain ⟨h1,h2⟩:=hg _ _ M h
 obtain ⟨h3,h4⟩:=hf s M h1
 refine ⟨h3,?_⟩
 rw [h4]
 rw [h1] at h2
 exact h2
theorem Extn.pure {α:Type}(a:α):Extn (fun s=>(a,s)):=by
 intro s M h
 have h':s.2=false:=h
 exact ⟨h',by rw [h']⟩
theorem Extn.ite {α:Type}{c:Bool}{f g:Rdr α}(hf:Extn f) (hg:Extn g):Extn (fun s=>bif c then f s else g s):=by
 cases c
 ·exact hg
 ·exact hf
def rOp':Rdr Opp:=bndR rByte fun k=>bndR rNum fun i=>bndR rNum fun a=>bndR rNum fun b=>bndR rText fun t s=>(⟨k,i,a,b,t⟩,s.1,s.2||decide (t.size>2000))
theorem rOp_eq:rOp=rOp':=by funext s;simp only [rOp,rOp',bndR]
end
section
open Go Go.RowKit
theorem rw_1t0 {own:Bool}{m:Nat}{B:Nat->Int}{b0:Bool}{i n i0 n0:Nat}{q c j:Int}:(lfun rqG (tell (bodyOf Try.f145 0) (rq0S own m B true (rdI (rdI i n) (n-1)) (n-1-1) (rdX B i n) (rdX B (rdI i n) (n-1)) 0) (.exit 1,rq0S own m B b0 i0 n0 q c j)) 60 Try.f145 [.c (.ptr 0 0 0)] [rdB false i n,rowU own m B]).go []=some ([yes (i+n<=m/\(fun j=>ub (B j))=fun j=>ub (ud (ub (B j)))),rdX (fun j=>ud (ub (B j))) i n==(1:Int),yes (rdI i n+(n-1)<=m/\(fun j=>ub (ud (ub (B j))))=fun j=>ub (ud (ub (ud (ub (B j)))))),false||((n:Nat):Int)==(0:Int)||((n-1:Nat):Int)==(0:Int),true,true,yes (wasS (bodyOf Try.f145 0) (rq0S own m B true (rdI (rdI i n) (n-1)) (n-1-1) (rdX B i n) (rdX B (rdI i n) (n-1)) 0))],.agg [i64 q,i64 0,i64 0,i64 0,i64 0,i64 0,.v (.slice none 0 0)],[some ⟨175,true,.one [.sl 1 i0 n0,.v (.bool b0)]⟩,some ⟨5,own,.row 1 m fun j=>[.int .u8 (B j)]⟩]):=by kernel_rfl
theorem rw_1t1 {own:Bool}{m:Nat}{B:Nat->Int}{b0:Bool}{i n i0 n0 na:Nat}{q c j:Int}{P:Nat->Opp}:(lfun rqG (tell (bodyOf Try.f145 0) (rq0S own m B true (rdI (rdI i n) (n-1)) (n-1-1) (rdX B i n) (rdX B (rdI i n) (n-1)) 0) (.exit 1,rqS own m B b0 i0 n0 q c j na P)) 60 Try.f145 [.c (.ptr 0 0 0)] [rdB false i n,rowU own m B]).go []=some ([yes (i+n<=m/\(fun j=>ub (B j))=fun j=>ub (ud (ub (B j)))),rdX (fun j=>ud (ub (B j))) i n==(1:Int),yes (rdI i n+(n-1)<=m/\(fun j=>ub (ud (ub (B j))))=fun j=>ub (ud (ub (ud (ub (B j)))))),false||((n:Nat):Int)==(0:Int)||((n-1:Nat):Int)==(0:Int),true,true,yes (wasS (bodyOf Try.f145 0) (rq0S own m B true (rdI (rdI i n) (n-1)) (n-1-1) (rdX B i n) (rdX B (rdI i n) (n-1)) 0))],.agg [i64 q,i64 0,i64 0,i64 0,i64 0,i64 0,.sl 2 0 na],[some ⟨175,true,.one [.sl 1 i0 n0,.v (.bool b0)]⟩,some ⟨5,own,.row 1 m fun j=>[.int .u8 (B j)]⟩,some ⟨121,true,.row 5 na fun j=>[.int .i64 (P j).k,.int .i64 (P j).i,.int .i64 (P j).a,.int .i64 (P j).b,.string (P j).s]⟩]):=by kernel_rfl
theorem rw_1f0 {own:Bool}{m:Nat}{B:Nat->Int}{b0:Bool}{i n i0 n0:Nat}{q c j:Int}:(lfun rqG (tell (bodyOf Try.f145 0) (rq0S own m B (decide (rdX B (rdI i n) (n-1)>100)) (rdI (rdI i n) (n-1)) (n-1-1) (rdX B i n) (rdX B (rdI i n) (n-1)) 0) (.exit 1,rq0S own m B b0 i0 n0 q c j)) 60 Try.f145 [.c (.ptr 0 0 0)] [rdB false i n,rowU own m B]).go (dN 6 7)=some ([yes (i+n<=m/\(fun j=>ub (B j))=fun j=>ub (ud (ub (B j)))),rdX (fun j=>ud (ub (B j))) i n==(1:Int),yes (rdI i n+(n-1)<=m/\(fun j=>ub (ud (ub (B j))))=fun j=>ub (ud (ub (ud (ub (B j)))))),!(false||((n:Nat):Int)==(0:Int)||((n-1:Nat):Int)==(0:Int)),true,true,yes (wasS (bodyOf Try.f145 0) (rq0S own m B (decide (rdX B (rdI i n) (n-1)>100)) (rdI (rdI i n) (n-1)) (n-1-1) (rdX B i n) (rdX B (rdI i n) (n-1)) 0))],.agg [i64 q,i64 0,i64 0,i64 0,i64 0,i64 0,.v (.slice none 0 0)],[some ⟨175,true,.one [.sl 1 i0 n0,.v (.bool b0)]⟩,some ⟨5,own,.row 1 m fun j=>[.int .u8 (B j)]⟩]):=by kernel_rfl
theorem rw_1f1 {own:Bool}{m:Nat}{B:Nat->Int}{b0:Bool}{i n i0 n0 na:Nat}{q c j:Int}{P:Nat->Opp}:(lfun rqG (tell (bodyOf Try.f145 0) (rq0S own m B (decide (rdX B (rdI i n) (n-1)>100)) (rdI (rdI i n) (n-1)) (n-1-1) (rdX B i n) (rdX B (rdI i n) (n-1)) 0) (.exit 1,rqS own m B b0 i0 n0 q c j na P)) 60 Try.f145 [.c (.ptr 0 0 0)] [rdB false i n,rowU own m B]).go (dN 6 7)=some ([yes (i+n<=m/\(fun j=>ub (B j))=fun j=>ub (ud (ub (B j)))),rdX (fun j=>ud (ub (B j))) i n==(1:Int),yes (rdI i n+(n-1)<=m/\(fun j=>ub (ud (ub (B j))))=fun j=>ub (ud (ub (ud (ub (B j)))))),!(false||((n:Nat):Int)==(0:Int)||((n-1:Nat):Int)==(0:Int)),true,true,yes (wasS (bodyOf Try.f145 0) (rq0S own m B (decide (rdX B (rdI i n) (n-1)>100)) (rdI (rdI i n) (n-1)) (n-1-1) (rdX B i n) (rdX B (rdI i n) (n-1)) 0))],.agg [i64 q,i64 0,i64 0,i64 0,i64 0,i64 0,.sl 2 0 na],[some ⟨175,true,.one [.sl 1 i0 n0,.v (.bool b0)]⟩,some ⟨5,own,.row 1 m fun j=>[.int .u8 (B j)]⟩,some ⟨121,true,.row 5 na fun j=>[.int .i64 (P j).k,.int .i64 (P j).i,.int .i64 (P j).a,.int .i64 (P j).b,.string (P j).s]⟩]):=by kernel_rfl
theorem rw_2 {own:Bool}{m:Nat}{B:Nat->Int}{i n:Nat}:(lfun rqG nol 60 Try.f145 [.c (.ptr 0 0 0)] [rdB false i n,rowU own m B]).go [true,false]=some ([yes (i+n<=m/\(fun j=>ub (B j))=fun j=>ub (ud (ub (B j)))),!rdX (fun j=>ud (ub (B j))) i n==(1:Int),rdX (fun j=>ud (ub (B j))) i n==(2:Int),true],.agg [i64 (rdX (fun j=>ud (ub (B j))) i n),i64 0,i64 0,i64 0,i64 0,i64 0,.v (.slice none 0 0)],[some ⟨175,true,.one [.sl 1 (rdI i n) (n-1),.v (.bool (false||((n:Nat):Int)==(0:Int)))]⟩,some ⟨5,own,.row 1 m fun j=>[.int .u8 (ud (ub (B j)))]⟩]):=by kernel_rfl
theorem rw_6 {own:Bool}{m:Nat}{B:Nat->Int}{i n:Nat}:(lfun rqG nol 60 Try.f145 [.c (.ptr 0 0 0)] [rdB false i n,rowU own m B]).go (dN 3 1)=some ([yes (i+n<=m/\(fun j=>ub (B j))=fun j=>ub (ud (ub (B j)))),!rdX (fun j=>ud (ub (B j))) i n==(1:Int),!rdX (fun j=>ud (ub (B j))) i n==(2:Int),rdX (fun j=>ud (ub (B j))) i n==(6:Int)],.agg [i64 (rdX (fun j=>ud (ub (B j))) i n),i64 0,i64 0,i64 0,i64 0,i64 0,.v (.slice none 0 0)],[some ⟨175,true,.one [.sl 1 (rdI i n) (n-1),.v (.bool (false||((n:Nat):Int)==(0:Int)))]⟩,some ⟨5,own,.row 1 m fun j=>[.int .u8 (ud (ub (B j)))]⟩]):=by kernel_rfl
theorem rw_3 {own:Bool}{m:Nat}{B:Nat->Int}{i n:Nat}:(lfun rqG nol 60 Try.f145 [.c (.ptr 0 0 0)] [rdB false i n,rowU own m B]).go (dN 4 1)=some ([yes (i+n<=m/\(fun j=>ub (B j))=fun j=>ub (ud (ub (B j)))),!rdX (fun j=>ud (ub (B j))) i n==(1:Int),!rdX (fun j=>ud (ub (B j))) i n==(2:Int),!rdX (fun j=>ud (ub (B j))) i n==(6:Int),rdX (fun j=>ud (ub (B j))) i n==(3:Int),yes (rdI i n+(n-1)<=m/\(fun j=>ub (ud (ub (B j))))=fun j=>ub (ud (ub (ud (ub (B j))))))],.agg [i64 (rdX (fun j=>ud (ub (B j))) i n),i64 0,i64 (rnV4 (fun j=>ud (ub (ud (ub (B j))))) (rdI i n) (n-1)),i64 (rnV4 (fun j=>ud (ub (ud (ub (B j))))) (rdI4 (rdI i n) (n-1)) (n-1-1-1-1-1)),i64 0,i64 0,.v (.slice none 0 0)],[some ⟨175,true,.one [.sl 1 (rdI4 (rdI4 (rdI i n) (n-1)) (n-1-1-1-1-1)) (n-1-1-1-1-1-1-1-1-1),.v (.bool (rdB4 (rdB4 (false||((n:Nat):Int)==(0:Int)) (n-1)) (n-1-1-1-1-1)))]⟩,some ⟨5,own,.row 1 m fun j=>[.int .u8 (ud (ub (ud (ub (B j)))))]⟩]):=by kernel_rfl
theorem rw_4 {own:Bool}{m:Nat}{B:Nat->Int}{i n:Nat}:(lfun rqG nol 60 Try.f145 [.c (.ptr 0 0 0)] [rdB false i n,rowU own m B]).go (dN 5 1)=some ([yes (i+n<=m/\(fun j=>ub (B j))=fun j=>ub (ud (ub (B j)))),!rdX (fun j=>ud (ub (B j))) i n==(1:Int),!rdX (fun j=>ud (ub (B j))) i n==(2:Int),!rdX (fun j=>ud (ub (B j))) i n==(6:Int),!rdX (fun j=>ud (ub (B j))) i n==(3:Int),rdX (fun j=>ud (ub (B j))) i n==(4:Int),yes (rdI i n+(n-1)<=m/\(fun j=>ub (ud (ub (B j))))=fun j=>ub (ud (ub (ud (ub (B j)))))),yes (rdI4 (rdI4 (rdI i n) (n-1)) (n-1-1-1-1-1)+(n-1-1-1-1-1-1-1-1-1)<=m/\(fun j=>ub (ud (ub (ud (ub (B j))))))=fun j=>ub (ud (ub (ud (ub (ud (ub (B j))))))))],.agg [i64 (rdX (fun j=>ud (ub (B j))) i n),i64 (rnV4 (fun j=>ud (ub (ud (ub (ud (ub (B j))))))) (rdI4 (rdI4 (rdI i n) (n-1)) (n-1-1-1-1-1)) (n-1-1-1-1-1-1-1-1-1)),i64 (rnV4 (fun j=>ud (ub (ud (ub (B j))))) (rdI i n) (n-1)),i64 (rnV4 (fun j=>ud (ub (ud (ub (B j))))) (rdI4 (rdI i n) (n-1)) (n-1-1-1-1-1)),i64 0,i64 0,.v (.slice none 0 0)],[some ⟨175,true,.one [.sl 1 (rdI4 (rdI4 (rdI4 (rdI i n) (n-1)) (n-1-1-1-1-1)) (n-1-1-1-1-1-1-1-1-1)) (n-1-1-1-1-1-1-1-1-1-1-1-1-1),.v (.bool (rdB4 (rdB4 (rdB4 (false||((n:Nat):Int)==(0:Int)) (n-1)) (n-1-1-1-1-1)) (n-1-1-1-1-1-1-1-1-1)))]⟩,some ⟨5,own,.row 1 m fun j=>[.int .u8 (ud (ub (ud (ub (ud (ub (B j)))))))]⟩]):=by kernel_rfl
theorem rw_5 {own:Bool}{m:Nat}{B:Nat->Int}{i n:Nat}:(lfun rqG nol 60 Try.f145 [.c (.ptr 0 0 0)] [rdB false i n,rowU own m B]).go (dN 6 1)=some ([yes (i+n<=m/\(fun j=>ub (B j))=fun j=>ub (ud (ub (B j)))),!rdX (fun j=>ud (ub (B j))) i n==(1:Int),!rdX (fun j=>ud (ub (B j))) i n==(2:Int),!rdX (fun j=>ud (ub (B j))) i n==(6:Int),!rdX (fun j=>ud (ub (B j))) i n==(3:Int),!rdX (fun j=>ud (ub (B j))) i n==(4:Int),rdX (fun j=>ud (ub (B j))) i n==(5:Int),yes (rdI i n+(n-1)<=m/\(fun j=>ub (ud (ub (B j))))=fun j=>ub (ud (ub (ud (ub (B j)))))),yes (rdI4 (rdI4 (rdI i n) (n-1)) (n-1-1-1-1-1)+(n-1-1-1-1-1-1-1-1-1)<=m/\(fun j=>ub (ud (ub (ud (ub (B j))))))=fun j=>ub (ud (ub (ud (ub (ud (ub (B j)))))))),yes (rdI4 (rdI4 (rdI4 (rdI i n) (n-1)) (n-1-1-1-1-1)) (n-1-1-1-1-1-1-1-1-1)+(n-1-1-1-1-1-1-1-1-1-1-1-1-1)<=m/\(fun j=>ub (ud (ub (ud (ub (ud (ub (B j))))))))=fun j=>ub (ud (ub (ud (ub (ud (ub (ud (ub (B j))))))))))],.agg [i64 (rdX (fun j=>ud (ub (B j))) i n),i64 0,i64 (rnV4 (fun j=>ud (ub (ud (ub (B j))))) (rdI i n) (n-1)),i64 (rnV4 (fun j=>ud (ub (ud (ub (B j))))) (rdI4 (rdI i n) (n-1)) (n-1-1-1-1-1)),i64 (rnV4 (fun j=>ud (ub (ud (ub (ud (ub (B j))))))) (rdI4 (rdI4 (rdI i n) (n-1)) (n-1-1-1-1-1)) (n-1-1-1-1-1-1-1-1-1)),i64 (rnV4 (fun j=>ud (ub (ud (ub (ud (ub (ud (ub (B j))))))))) (rdI4 (rdI4 (rdI4 (rdI i n) (n-1)) (n-1-1-1-1-1)) (n-1-1-1-1-1-1-1-1-1)) (n-1-1-1-1-1-1-1-1-1-1-1-1-1)),.v (.slice none 0 0)],[some ⟨175,true,.one [.sl 1 (rdI4 (rdI4 (rdI4 (rdI4 (rdI i n) (n-1)) (n-1-1-1-1-1)) (n-1-1-1-1-1-1-1-1-1)) (n-1-1-1-1-1-1-1-1-1-1-1-1-1)) (n-1-1-1-1-1-1-1-1-1-1-1-1-1-1-1-1-1),.v (.bool (rdB4 (rdB4 (rdB4 (rdB4 (false||((n:Nat):Int)==(0:Int)) (n-1)) (n-1-1-1-1-1)) (n-1-1-1-1-1-1-1-1-1)) (n-1-1-1-1-1-1-1-1-1-1-1-1-1)))]⟩,some ⟨5,own,.row 1 m fun j=>[.int .u8 (ud (ub (ud (ub (ud (ub (ud (ub (B j)))))))))]⟩]):=by kernel_rfl
theorem rw_x {own:Bool}{m:Nat}{B:Nat->Int}{i n:Nat}:(lfun rqG nol 60 Try.f145 [.c (.ptr 0 0 0)] [rdB false i n,rowU own m B]).go (dN 7 1)=some ([yes (i+n<=m/\(fun j=>ub (B j))=fun j=>ub (ud (ub (B j)))),!rdX (fun j=>ud (ub (B j))) i n==(1:Int),!rdX (fun j=>ud (ub (B j))) i n==(2:Int),!rdX (fun j=>ud (ub (B j))) i n==(6:Int),!rdX (fun j=>ud (ub (B j))) i n==(3:Int),!rdX (fun j=>ud (ub (B j))) i n==(4:Int),!rdX (fun j=>ud (ub (B j))) i n==(5:Int)],.agg [i64 (rdX (fun j=>ud (ub (B j))) i n),i64 0,i64 0,i64 0,i64 0,i64 0,.v (.slice none 0 0)],[some ⟨175,true,.one [.sl 1 (rdI i n) (n-1),.v (.bool true)]⟩,some ⟨5,own,.row 1 m fun j=>[.int .u8 (ud (ub (B j)))]⟩]):=by kernel_rfl
end
section
open Go Go.RowKit
def qV (q:Qd) (s:AC):AV:=.agg [i64 q.k,i64 q.n,i64 q.p,i64 q.t,i64 q.x,i64 q.y,s]
def rqR (B:Nat->Int) (i n:Nat):Qd × (List Int × Bool):=rQuery (lst B i n,false)
def rqO1 (own:Bool) (m:Nat) (B:Nat->Int) (i n:Nat) (r:Qd × (List Int × Bool)):AV × AHeap:=(qV r.1 (.v (.slice none 0 0)),[rdB r.2.2 (i+n-r.2.1.length) r.2.1.length,rowU own m B])
def rqO2 (own:Bool) (m:Nat) (B:Nat->Int) (i n:Nat) (r:Qd × (List Int × Bool)):AV × AHeap:=(qV r.1 (.sl 2 0 r.1.o.length),[rdB r.2.2 (i+n-r.2.1.length) r.2.1.length,rowU own m B,rowP true r.1.o.length (gP r.1.o)])
def rqOut (own:Bool) (m:Nat) (B:Nat->Int) (i n:Nat):AV × AHeap:=bif (rqR B i n).1.o.isEmpty then rqO1 own m B i n (rqR B i n) else rqO2 own m B i n (rqR B i n)
theorem end_eq {I N i n:Nat}(h:I+N=i+n):i+n-N=I:=by omega
theorem nb {x c:Int}(h:x ≠ c):(x==c)=false:=by rw [beq_eq_false_iff_ne];exact h
theorem rq_eval {own:Bool}{m:Nat}{B:Nat->Int}{i n:Nat}(hB:rng B) (hm:i+n<=m):∃ ℓ,LoopsSem rqG 2 ℓ/\(lfun rqG ℓ 60 Try.f145 [.c (.ptr 0 0 0)] [rdB false i n,rowU own m B]).eval=some (rqOut own m B i n):=by
 have k1:=rdI_le hm
 have s1:=rdI_sum i n
 have s2:=rdI4_sum (rdI i n) (n-1)
 have s3:=rdI4_sum (rdI4 (rdI i n) (n-1)) (n-1-1-1-1-1)
 have s4:=rdI4_sum (rdI4 (rdI4 (rdI i n) (n-1)) (n-1-1-1-1-1)) (n-1-1-1-1-1-1-1-1-1)
 have s5:=rdI4_sum (rdI4 (rdI4 (rdI4 (rdI i n) (n-1)) (n-1-1-1-1-1)) (n-1-1-1-1-1-1-1-1-1)) (n-1-1-1-1-1-1-1-1-1-1-1-1-1)
 by_cases h1:rdX B i n=1
 ·have hc:=rdX_in hB (rdI i n) (n-1)
  have h2:rdI (rdI i n) (n-1)+(n-1-1)<=m:=rdI_le k1
  have hs:rdI (rdI i n) (n-1)+(n-1-1)=i+n:=by rw [rdI_sum,rdI_sum]
  have hq:rqR B i n=(⟨rdX B i n,0,0,0,0,0,(rOps (rdX B (rdI i n) (n-1)).toNat (lst B (rdI (rdI i n) (n-1)) (n-1-1),((false||((n:Nat):Int)==(0:Int))||((n-1:Nat):Int)==(0:Int))||decide (rdX B (rdI i n) (n-1)>100))).1⟩,(rOps (rdX B (rdI i n) (n-1)).toNat (lst B (rdI (rdI i n) (n-1)) (n-1-1),((false||((n:Nat):Int)==(0:Int))||((n-1:Nat):Int)==(0:Int))||decide (rdX B (rdI i n) (n-1)>100))).2):=by
   unfold rqR rQuery
   simp only [rByte_lst hB]
   rw [h1]
   rfl
  cases hb:((false||((n:Nat):Int)==(0:Int))||((n-1:Nat):Int)==(0:Int)) with
  | true=>
   have hl:=(rq_loop (own:=own) (m:=m) (q:=rdX B i n) hB hc.2 hc.1 true _ _ h2).sem
   rw [hs] at hl
   rw [hb,Bool.true_or] at hq
   revert hl hq
   generalize rOps (rdX B (rdI i n) (n-1)).toNat (lst B (rdI (rdI i n) (n-1)) (n-1-1),true)=R
   intro hq hl
   obtain ⟨os,L,b⟩:=R
   cases os with
   | nil=>
    refine ⟨_,tell_ok hl,(Tr.go_eval rw_1t0 ⟨yes_of ⟨hm,rfl⟩,beq_iff_eq.2 h1,yes_of ⟨k1,rfl⟩,hb,rfl,rfl,yes_of ⟨rfl,rfl⟩,trivial⟩).trans ?_⟩
    unfold rqOut;rw [hq];rfl
   | cons o l=>
    refine ⟨_,tell_ok hl,(Tr.go_eval rw_1t1 ⟨yes_of ⟨hm,rfl⟩,beq_iff_eq.2 h1,yes_of ⟨k1,rfl⟩,hb,rfl,rfl,yes_of ⟨rfl,rfl⟩,trivial⟩).trans ?_⟩
    unfold rqOut;rw [hq];rfl
  | false=>
   have hl:=(rq_loop (own:=own) (m:=m) (q:=rdX B i n) hB hc.2 hc.1 (decide (rdX B (rdI i n) (n-1)>100)) _ _ h2).sem
   rw [hs] at hl
   rw [hb,Bool.false_or] at hq
   revert hl hq
   generalize rOps (rdX B (rdI i n) (n-1)).toNat (lst B (rdI (rdI i n) (n-1)) (n-1-1),decide (rdX B (rdI i n) (n-1)>100))=R
   intro hq hl
   have hb':(!((false||((n:Nat):Int)==(0:Int))||((n-1:Nat):Int)==(0:Int)))=true:=by rw [hb];rfl
   obtain ⟨os,L,b⟩:=R
   cases os with
   | nil=>
    refine ⟨_,tell_ok hl,(Tr.go_eval rw_1f0 ⟨yes_of ⟨hm,rfl⟩,beq_iff_eq.2 h1,yes_of ⟨k1,rfl⟩,hb',rfl,rfl,yes_of ⟨rfl,rfl⟩,trivial⟩).trans ?_⟩
    unfold rqOut;rw [hq];rfl
   | cons o l=>
    refine ⟨_,tell_ok hl,(Tr.go_eval rw_1f1 ⟨yes_of ⟨hm,rfl⟩,beq_iff_eq.2 h1,yes_of ⟨k1,rfl⟩,hb',rfl,rfl,yes_of ⟨rfl,rfl⟩,trivial⟩).trans ?_⟩
    unfold rqOut;rw [hq];rfl
 have n1:(!(rdX B i n==(1:Int)))=true:=by rw [nb h1];rfl
 by_cases h2:rdX B i n=2
 ·have hq:rqR B i n=(⟨rdX B i n,0,0,0,0,0,[]⟩,lst B (rdI i n) (n-1),false||((n:Nat):Int)==(0:Int)):=by
   unfold rqR rQuery;simp only [rByte_lst hB];rw [h2];rfl
  refine ⟨_,noLoopsS,(Tr.go_eval rw_2 ⟨yes_of ⟨hm,rfl⟩,n1,beq_iff_eq.2 h2,rfl,trivial⟩).trans ?_⟩
  unfold rqOut rqO1;rw [hq];simp only [lst_len];rw [end_eq s1];rfl
 have n2:(!(rdX B i n==(2:Int)))=true:=by rw [nb h2];rfl
 by_cases h6:rdX B i n=6
 ·have hq:rqR B i n=(⟨rdX B i n,0,0,0,0,0,[]⟩,lst B (rdI i n) (n-1),false||((n:Nat):Int)==(0:Int)):=by
   unfold rqR rQuery;simp only [rByte_lst hB];rw [h6];rfl
  refine ⟨_,noLoopsS,(Tr.go_eval rw_6 ?_).trans ?_⟩
  ·repeat' (first|exact AllT.nil|refine AllT.cons ?_ ?_)
   all_goals first|(with_reducible rfl)|exact n1|exact n2|exact beq_iff_eq.2 h6|exact yes_of ⟨hm,rfl⟩
  unfold rqOut rqO1;rw [hq];simp only [lst_len];rw [end_eq s1];rfl
 have n6:(!(rdX B i n==(6:Int)))=true:=by rw [nb h6];rfl
 by_cases h3:rdX B i n=3
 ·have hq:rqR B i n=(⟨rdX B i n,0,rnV4 B (rdI i n) (n-1),rnV4 B (rdI4 (rdI i n) (n-1)) (n-1-1-1-1-1),0,0,[]⟩,lst B (rdI4 (rdI4 (rdI i n) (n-1)) (n-1-1-1-1-1)) (n-1-1-1-1-1-1-1-1-1),rdB4 (rdB4 (false||((n:Nat):Int)==(0:Int)) (n-1)) (n-1-1-1-1-1)):=by
   unfold rqR rQuery;simp only [rByte_lst hB,rNum_lst hB];rw [h3];rfl
  refine ⟨_,noLoopsS,(Tr.go_eval rw_3 ?_).trans ?_⟩
  ·repeat' (first|exact AllT.nil|refine AllT.cons ?_ ?_)
   all_goals first|(with_reducible rfl)|exact n1|exact n2|exact n6|exact beq_iff_eq.2 h3|exact yes_of ⟨hm,rfl⟩|exact yes_of ⟨k1,rfl⟩|exact yes_of ⟨rdI4_le k1,rfl⟩|exact yes_of ⟨rdI4_le (rdI4_le k1),rfl⟩
  ·unfold rqOut rqO1;rw [hq];simp only [lst_len];rw [end_eq (s3.trans (s2.trans s1))];rfl
 have n3:(!(rdX B i n==(3:Int)))=true:=by rw [nb h3];rfl
 by_cases h4:rdX B i n=4
 ·have hq:rqR B i n=(⟨rdX B i n,rnV4 B (rdI4 (rdI4 (rdI i n) (n-1)) (n-1-1-1-1-1)) (n-1-1-1-1-1-1-1-1-1),rnV4 B (rdI i n) (n-1),rnV4 B (rdI4 (rdI i n) (n-1)) (n-1-1-1-1-1),0,0,[]⟩,lst B (rdI4 (rdI4 (rdI4 (rdI i n) (n-1)) (n-1-1-1-1-1)) (n-1-1-1-1-1-1-1-1-1)) (n-1-1-1-1-1-1-1-1-1-1-1-1-1),rdB4 (rdB4 (rdB4 (false||((n:Nat):Int)==(0:Int)) (n-1)) (n-1-1-1-1-1)) (n-1-1-1-1-1-1-1-1-1)):=by
   unfold rqR rQuery;simp only [rByte_lst hB,rNum_lst hB];rw [h4];rfl
  refine ⟨_,noLoopsS,(Tr.go_eval rw_4 ?_).trans ?_⟩
  ·repeat' (first|exact AllT.nil|refine AllT.cons ?_ ?_)
   all_goals first|(with_reducible rfl)|exact n1|exact n2|exact n6|exact n3|exact beq_iff_eq.2 h4|exact yes_of ⟨hm,rfl⟩|exact yes_of ⟨k1,rfl⟩|exact yes_of ⟨rdI4_le k1,rfl⟩|exact yes_of ⟨rdI4_le (rdI4_le k1),rfl⟩
  ·unfold rqOut rqO1;rw [hq];simp only [lst_len];rw [end_eq (s4.trans (s3.trans (s2.trans s1)))];rfl
 have n4:(!(rdX B i n==(4:Int)))=true:=by rw [nb h4];rfl
 by_cases h5:rdX B i n=5
 ·have hq:rqR B i n=(⟨rdX B i n,0,rnV4 B (rdI i n) (n-1),rnV4 B (rdI4 (rdI i n) (n-1)) (n-1-1-1-1-1),rnV4 B (rdI4 (rdI4 (rdI i n) (n-1)) (n-1-1-1-1-1)) (n-1-1-1-1-1-1-1-1-1),rnV4 B (rdI4 (rdI4 (rdI4 (rdI i n) (n-1)) (n-1-1-1-1-1)) (n-1-1-1-1-1-1-1-1-1)) (n-1-1-1-1-1-1-1-1-1-1-1-1-1),[]⟩,lst B (rdI4 (rdI4 (rdI4 (rdI4 (rdI i n) (n-1)) (n-1-1-1-1-1)) (n-1-1-1-1-1-1-1-1-1)) (n-1-1-1-1-1-1-1-1-1-1-1-1-1)) (n-1-1-1-1-1-1-1-1-1-1-1-1-1-1-1-1-1),rdB4 (rdB4 (rdB4 (rdB4 (false||((n:Nat):Int)==(0:Int)) (n-1)) (n-1-1-1-1-1)) (n-1-1-1-1-1-1-1-1-1)) (n-1-1-1-1-1-1-1-1-1-1-1-1-1)):=by
   unfold rqR rQuery;simp only [rByte_lst hB,rNum_lst hB];rw [h5];rfl
  refine ⟨_,noLoopsS,(Tr.go_eval rw_5 ?_).trans ?_⟩
  ·repeat' (first|exact AllT.nil|refine AllT.cons ?_ ?_)
   all_goals first|(with_reducible rfl)|exact n1|exact n2|exact n6|exact n3|exact n4|exact beq_iff_eq.2 h5|exact yes_of ⟨hm,rfl⟩|exact yes_of ⟨k1,rfl⟩|exact yes_of ⟨rdI4_le k1,rfl⟩|exact yes_of ⟨rdI4_le (rdI4_le k1),rfl⟩|exact yes_of ⟨rdI4_le (rdI4_le (rdI4_le k1)),rfl⟩
  ·unfold rqOut rqO1;rw [hq];simp only [lst_len];rw [end_eq (s5.trans (s4.trans (s3.trans (s2.trans s1))))];rfl
 have n5:(!(rdX B i n==(5:Int)))=true:=by rw [nb h5];rfl
 have hq:rqR B i n=(⟨rdX B i n,0,0,0,0,0,[]⟩,lst B (rdI i n) (n-1),true):=by
  unfold rqR rQuery;simp only [rByte_lst hB,nb h1,nb h2,nb h6,nb h3,nb h4,nb h5,Bool.or_self,cond_false]
 refine ⟨_,noLoopsS,(Tr.go_eval rw_x ?_).trans ?_⟩
 ·repeat' (first|exact AllT.nil|refine AllT.cons ?_ ?_)
  all_goals first|(with_reducible rfl)|exact n1|exact n2|exact n6|exact n3|exact n4|exact n5|exact yes_of ⟨hm,rfl⟩|exact yes_of ⟨k1,rfl⟩
 ·unfold rqOut rqO1;rw [hq];simp only [lst_len];rw [end_eq s1];rfl
noncomputable def rqF:Spec:=fun args h=>match args,h with
 | [.c (.ptr 0 0 0)],[some ⟨175,true,.one [.sl 1 i n,.v (.bool false)]⟩,some ⟨5,own,.row 1 m f⟩]=>
  .need (yes (i+n<=m/\(f=fun j=>ub (ud (f j)))/\rng fun j=>ud (f j)))
   (.ite (rqR (fun j=>ud (f j)) i n).1.o.isEmpty (.ret (rqO1 own m (fun j=>ud (f j)) i n (rqR (fun j=>ud (f j)) i n))) (.ret (rqO2 own m (fun j=>ud (f j)) i n (rqR (fun j=>ud (f j)) i n))))
 | _,_=>.fail
theorem rqF_ok:SpecOk Try.prog 145 rqF:=by
 refine knownS KRQ_ok Try.func145 fun args h r he=>?_
 unfold rqF at he
 split at he
 ·rename_i i n own m f
  obtain ⟨⟨h1,h2,h3⟩,he'⟩:=Tr.eval_ask.1 he
  have e1:some ⟨5,own,.row 1 m f⟩=rowU own m fun j=>ud (f j):=by rw [rowU,<-h2]
  obtain ⟨ℓ,hℓ,hv⟩:=rq_eval (own:=own) h3 h1
  refine ⟨_,[],60,ℓ,hℓ,?_⟩
  rw [e1]
  refine hv.trans ?_
  unfold rqOut
  revert he'
  simp only [Tr.eval]
  cases (rqR (fun j=>ud (f j)) i n).1.o.isEmpty <;> exact id
 ·cases he
end
section
open Go Go.RowKit
structure Rd where
 k:Int
 e:Int
 a:Int
 n:Int
 p:Int
 t:Int
 x:Int
 y:Int
 w:Int
 h:Int
def held4 (n:Int):Int:=min (max n (-2147483648)) 2147483647
theorem fits_held (n:Int):fits (held4 n)=true:=by
 unfold fits held4
 rw [Bool.and_eq_true,decide_eq_true_eq,decide_eq_true_eq];omega
def rReply (s:List Int × Bool):Rd × (List Int × Bool):=
 bif (rByte s).1==1 then (⟨1,0,0,0,0,0,0,0,0,0⟩,(rByte s).2)
 else bif (rByte s).1==2 then (⟨2,(rByte (rByte s).2).1,(rNum (rByte (rByte s).2).2).1,0,0,0,0,0,0,0⟩,(rNum (rByte (rByte s).2).2).2)
 else bif (rByte s).1==3 then (⟨3,0,0,0,(rNum (rByte s).2).1,(rNum (rNum (rByte s).2).2).1,0,0,0,0⟩,(rNum (rNum (rByte s).2).2).2)
 else bif (rByte s).1==4 then (⟨4,0,0,0,0,0,(rNum (rByte s).2).1,(rNum (rNum (rByte s).2).2).1,(rNum (rNum (rNum (rByte s).2).2).2).1,(rNum (rNum (rNum (rNum (rByte s).2).2).2).2).1⟩,(rNum (rNum (rNum (rNum (rByte s).2).2).2).2).2)
 else bif (rByte s).1==5||(rByte s).1==6 then (⟨(rByte s).1,0,0,(rNum (rByte s).2).1,0,0,0,0,0,0⟩,(rNum (rByte s).2).2)
 else (⟨(rByte s).1,0,0,0,0,0,0,0,0,0⟩,(rByte s).2.1,true)
def ansB (a:Rd):List Int:=by8 a.k::(bif a.k==1 then []
 else bif a.k==2 then by8 a.e::four a.a
 else bif a.k==3 then four a.p++four a.t
 else bif a.k==4 then four (held4 a.x)++four (held4 a.y)++four (held4 a.w)++four (held4 a.h)
 else four a.n)
def anW (a:Rd):Bool:=bif a.k==1 then true
 else bif a.k==2 then byOk a.e&&fits a.a
 else bif a.k==3 then fits a.p&&fits a.t
 else bif a.k==4 then true
 else bif a.k==5||a.k==6 then fits a.n else false
def bareR (a:Rd):Rd:=bif a.k==1 then ⟨1,0,0,0,0,0,0,0,0,0⟩
 else bif a.k==2 then ⟨2,a.e,a.a,0,0,0,0,0,0,0⟩
 else bif a.k==3 then ⟨3,0,0,0,a.p,a.t,0,0,0,0⟩
 else bif a.k==4 then ⟨4,0,0,0,0,0,held4 a.x,held4 a.y,held4 a.w,held4 a.h⟩
 else bif a.k==5||a.k==6 then ⟨a.k,0,0,a.n,0,0,0,0,0,0⟩ else ⟨a.k,0,0,0,0,0,0,0,0,0⟩
def tellR (a:Rd):Rd:=bif a.k==4 then ⟨4,0,0,0,0,0,a.x,a.y,a.w,a.h⟩ else bareR a
theorem rReply_ansB {a:Rd}(h:anW a=true) (l:List Int):rReply (ansB a++l,false)=(bareR a,l,false):=by
 obtain ⟨k,e,a,n,p,t,x,y,w,hh⟩:=a
 unfold anW at h
 simp only at h
 by_cases h1:k=1
 ·subst h1;rfl
 by_cases h2:k=2
 ·subst h2
  have h':(byOk e&&fits a)=true:=h
  rw [Bool.and_eq_true] at h'
  have hb:by8 e=e:=by
   have:=h'.1
   unfold byOk at this
   rw [Bool.and_eq_true,decide_eq_true_eq,decide_eq_true_eq] at this
   unfold by8;omega
  show rReply (2::by8 e::(four a++l),false)=_
  have e2:∀ c L,rReply (2::c::L,false)=(⟨2,c,(rNum (L,false)).1,0,0,0,0,0,0,0⟩,(rNum (L,false)).2):=fun c L=>rfl
  rw [e2,rNum_four h'.2,hb]
  rfl
 by_cases h3:k=3
 ·subst h3
  have h':(fits p&&fits t)=true:=h
  rw [Bool.and_eq_true] at h'
  show rReply (3::(four p++four t++l),false)=_
  rw [List.append_assoc]
  have e:∀ L,rReply (3::L,false)=(⟨3,0,0,0,(rNum (L,false)).1,(rNum (rNum (L,false)).2).1,0,0,0,0⟩,(rNum (rNum (L,false)).2).2):=fun L=>rfl
  rw [e]
  simp only [rNum_four h'.1,rNum_four h'.2]
  rfl
 by_cases h4:k=4
 ·subst h4
  show rReply (4::(four (held4 x)++four (held4 y)++four (held4 w)++four (held4 hh)++l),false)=_
  rw [List.append_assoc,List.append_assoc,List.append_assoc]
  have e:∀ L,rReply (4::L,false)=(⟨4,0,0,0,0,0,(rNum (L,false)).1,(rNum (rNum (L,false)).2).1,(rNum (rNum (rNum (L,false)).2).2).1,(rNum (rNum (rNum (rNum (L,false)).2).2).2).1⟩,(rNum (rNum (rNum (rNum (L,false)).2).2).2).2):=fun L=>rfl
  rw [e]
  simp only [rNum_four (fits_held _)]
  rfl
 by_cases h5:k=5
 ·subst h5
  have h':fits n=true:=h
  show rReply (5::(four n++l),false)=_
  have e:∀ L,rReply (5::L,false)=(⟨5,0,0,(rNum (L,false)).1,0,0,0,0,0,0⟩,(rNum (L,false)).2):=fun L=>rfl
  rw [e]
  simp only [rNum_four h']
  rfl
 by_cases h6:k=6
 ·subst h6
  have h':fits n=true:=h
  show rReply (6::(four n++l),false)=_
  have e:∀ L,rReply (6::L,false)=(⟨6,0,0,(rNum (L,false)).1,0,0,0,0,0,0⟩,(rNum (L,false)).2):=fun L=>rfl
  rw [e]
  simp only [rNum_four h']
  rfl
 ·have b:∀ c:Int,k ≠ c->(k==c)=false:=fun c hc=>by rw [beq_eq_false_iff_ne];exact hc
  simp [b 1 h1,b 2 h2,b 6 h6,b 3 h3,b 4 h4,b 5 h5] at h
end
section
open Go Go.RowKit
def rV (r:Rd):AV:=.agg [i64 r.k,i64 r.e,i64 r.a,i64 r.n,i64 r.p,i64 r.t,i64 r.x,i64 r.y,i64 r.w,i64 r.h]
def rrR (B:Nat->Int) (i n:Nat):Rd × (List Int × Bool):=rReply (lst B i n,false)
def rrOut (own:Bool) (m:Nat) (B:Nat->Int) (i n:Nat) (r:Rd × (List Int × Bool)):AV × AHeap:=(rV r.1,[rdB r.2.2 (i+n-r.2.1.length) r.2.1.length,rowU own m B])
theorem rr_eval {own:Bool}{m:Nat}{B:Nat->Int}{i n:Nat}(hB:rng B) (hm:i+n<=m):(lfun rqG nol 60 Try.f149 [.c (.ptr 0 0 0)] [rdB false i n,rowU own m B]).eval=some (rrOut own m B i n (rrR B i n)):=by
 have k1:=rdI_le hm
 have s1:=rdI_sum i n
 have s2:=rdI4_sum (rdI i n) (n-1)
 have s3:=rdI4_sum (rdI4 (rdI i n) (n-1)) (n-1-1-1-1-1)
 have s4:=rdI4_sum (rdI4 (rdI4 (rdI i n) (n-1)) (n-1-1-1-1-1)) (n-1-1-1-1-1-1-1-1-1)
 have s5:=rdI4_sum (rdI4 (rdI4 (rdI4 (rdI i n) (n-1)) (n-1-1-1-1-1)) (n-1-1-1-1-1-1-1-1-1)) (n-1-1-1-1-1-1-1-1-1-1-1-1-1)
 have t2:=rdI_sum (rdI i n) (n-1)
 have t3:=rdI4_sum (rdI (rdI i n) (n-1)) (n-1-1)
 by_cases h1:rdX B i n=1
 ·have hq:rrR B i n=(⟨rdX B i n,0,0,0,0,0,0,0,0,0⟩,lst B (rdI i n) (n-1),false||((n:Nat):Int)==(0:Int)):=by
   unfold rrR rReply;simp only [rByte_lst hB];rw [h1];rfl
  refine (Tr.go_eval rr_1 ?_).trans ?_
  ·repeat' (first|exact AllT.nil|refine AllT.cons ?_ ?_)
   all_goals first|(with_reducible rfl)|exact beq_iff_eq.2 h1|exact yes_of ⟨hm,rfl⟩
  ·unfold rrOut;rw [hq];simp only [lst_len];rw [end_eq s1];rfl
 have n1:(!(rdX B i n==(1:Int)))=true:=by rw [nb h1];rfl
 by_cases h2:rdX B i n=2
 ·have hq:rrR B i n=(⟨rdX B i n,rdX B (rdI i n) (n-1),rnV4 B (rdI (rdI i n) (n-1)) (n-1-1),0,0,0,0,0,0,0⟩,lst B (rdI4 (rdI (rdI i n) (n-1)) (n-1-1)) (n-1-1-1-1-1-1),rdB4 ((false||((n:Nat):Int)==(0:Int))||((n-1:Nat):Int)==(0:Int)) (n-1-1)):=by
   unfold rrR rReply;simp only [rByte_lst hB,rNum_lst hB];rw [h2];rfl
  refine (Tr.go_eval rr_2 ?_).trans ?_
  ·repeat' (first|exact AllT.nil|refine AllT.cons ?_ ?_)
   all_goals first|(with_reducible rfl)|exact n1|exact beq_iff_eq.2 h2|exact yes_of ⟨hm,rfl⟩|exact yes_of ⟨k1,rfl⟩|exact yes_of ⟨rdI_le k1,rfl⟩
  ·unfold rrOut;rw [hq];simp only [lst_len];rw [end_eq (t3.trans (t2.trans s1))];rfl
 have n2:(!(rdX B i n==(2:Int)))=true:=by rw [nb h2];rfl
 by_cases h3:rdX B i n=3
 ·have hq:rrR B i n=(⟨rdX B i n,0,0,0,rnV4 B (rdI i n) (n-1),rnV4 B (rdI4 (rdI i n) (n-1)) (n-1-1-1-1-1),0,0,0,0⟩,lst B (rdI4 (rdI4 (rdI i n) (n-1)) (n-1-1-1-1-1)) (n-1-1-1-1-1-1-1-1-1),rdB4 (rdB4 (false||((n:Nat):Int)==(0:Int)) (n-1)) (n-1-1-1-1-1)):=by
   unfold rrR rReply;simp only [rByte_lst hB,rNum_lst hB];rw [h3];rfl
  refine (Tr.go_eval rr_3 ?_).trans ?_
  ·repeat' (first|exact AllT.nil|refine AllT.cons ?_ ?_)
   all_goals first|(with_reducible rfl)|exact n1|exact n2|exact beq_iff_eq.2 h3|exact yes_of ⟨hm,rfl⟩|exact yes_of ⟨k1,rfl⟩|exact yes_of ⟨rdI4_le k1,rfl⟩
  ·unfold rrOut;rw [hq];simp only [lst_len];rw [end_eq (s3.trans (s2.trans s1))];rfl
 have n3:(!(rdX B i n==(3:Int)))=true:=by rw [nb h3];rfl
 by_cases h4:rdX B i n=4
 ·have hq:rrR B i n=(⟨rdX B i n,0,0,0,0,0,rnV4 B (rdI i n) (n-1),rnV4 B (rdI4 (rdI i n) (n-1)) (n-1-1-1-1-1),rnV4 B (rdI4 (rdI4 (rdI i n) (n-1)) (n-1-1-1-1-1)) (n-1-1-1-1-1-1-1-1-1),rnV4 B (rdI4 (rdI4 (rdI4 (rdI i n) (n-1)) (n-1-1-1-1-1)) (n-1-1-1-1-1-1-1-1-1)) (n-1-1-1-1-1-1-1-1-1-1-1-1-1)⟩,lst B (rdI4 (rdI4 (rdI4 (rdI4 (rdI i n) (n-1)) (n-1-1-1-1-1)) (n-1-1-1-1-1-1-1-1-1)) (n-1-1-1-1-1-1-1-1-1-1-1-1-1)) (n-1-1-1-1-1-1-1-1-1-1-1-1-1-1-1-1-1),rdB4 (rdB4 (rdB4 (rdB4 (false||((n:Nat):Int)==(0:Int)) (n-1)) (n-1-1-1-1-1)) (n-1-1-1-1-1-1-1-1-1)) (n-1-1-1-1-1-1-1-1-1-1-1-1-1)):=by
   unfold rrR rReply;simp only [rByte_lst hB,rNum_lst hB];rw [h4];rfl
  refine (Tr.go_eval rr_4 ?_).trans ?_
  ·repeat' (first|exact AllT.nil|refine AllT.cons ?_ ?_)
   all_goals first|(with_reducible rfl)|exact n1|exact n2|exact n3|exact beq_iff_eq.2 h4|exact yes_of ⟨hm,rfl⟩|exact yes_of ⟨k1,rfl⟩|exact yes_of ⟨rdI4_le k1,rfl⟩|exact yes_of ⟨rdI4_le (rdI4_le k1),rfl⟩|exact yes_of ⟨rdI4_le (rdI4_le (rdI4_le k1)),rfl⟩
  ·unfold rrOut;rw [hq];simp only [lst_len];rw [end_eq (s5.trans (s4.trans (s3.trans (s2.trans s1))))];rfl
 have n4:(!(rdX B i n==(4:Int)))=true:=by rw [nb h4];rfl
 by_cases h5:rdX B i n=5
 ·have hq:rrR B i n=(⟨rdX B i n,0,0,rnV4 B (rdI i n) (n-1),0,0,0,0,0,0⟩,lst B (rdI4 (rdI i n) (n-1)) (n-1-1-1-1-1),rdB4 (false||((n:Nat):Int)==(0:Int)) (n-1)):=by
   unfold rrR rReply;simp only [rByte_lst hB,rNum_lst hB];rw [h5];rfl
  refine (Tr.go_eval rr_5 ?_).trans ?_
  ·repeat' (first|exact AllT.nil|refine AllT.cons ?_ ?_)
   all_goals first|(with_reducible rfl)|exact n1|exact n2|exact n3|exact n4|exact beq_iff_eq.2 h5|exact yes_of ⟨hm,rfl⟩|exact yes_of ⟨k1,rfl⟩
  ·unfold rrOut;rw [hq];simp only [lst_len];rw [end_eq (s2.trans s1)];rfl
 have n5:(!(rdX B i n==(5:Int)))=true:=by rw [nb h5];rfl
 by_cases h6:rdX B i n=6
 ·have hq:rrR B i n=(⟨rdX B i n,0,0,rnV4 B (rdI i n) (n-1),0,0,0,0,0,0⟩,lst B (rdI4 (rdI i n) (n-1)) (n-1-1-1-1-1),rdB4 (false||((n:Nat):Int)==(0:Int)) (n-1)):=by
   unfold rrR rReply;simp only [rByte_lst hB,rNum_lst hB];rw [h6];rfl
  refine (Tr.go_eval rr_6 ?_).trans ?_
  ·repeat' (first|exact AllT.nil|refine AllT.cons ?_ ?_)
   all_goals first|(with_reducible rfl)|exact n1|exact n2|exact n3|exact n4|exact n5|exact beq_iff_eq.2 h6|exact yes_of ⟨hm,rfl⟩|exact yes_of ⟨k1,rfl⟩
  ·unfold rrOut;rw [hq];simp only [lst_len];rw [end_eq (s2.trans s1)];rfl
 have n6:(!(rdX B i n==(6:Int)))=true:=by rw [nb h6];rfl
 have hq:rrR B i n=(⟨rdX B i n,0,0,0,0,0,0,0,0,0⟩,lst B (rdI i n) (n-1),true):=by
  unfold rrR rReply;simp only [rByte_lst hB,nb h1,nb h2,nb h6,nb h3,nb h4,nb h5,Bool.or_self,cond_false]
 refine (Tr.go_eval rr_x ?_).trans ?_
 ·repeat' (first|exact AllT.nil|refine AllT.cons ?_ ?_)
  all_goals first|(with_reducible rfl)|exact n1|exact n2|exact n6|exact n3|exact n4|exact n5|exact yes_of ⟨hm,rfl⟩|exact yes_of ⟨k1,rfl⟩
 ·unfold rrOut;rw [hq];simp only [lst_len];rw [end_eq s1];rfl
noncomputable def rrF:Spec:=fun args h=>match args,h with
 | [.c (.ptr 0 0 0)],[some ⟨175,true,.one [.sl 1 i n,.v (.bool false)]⟩,some ⟨5,own,.row 1 m f⟩]=>
  .need (yes (i+n<=m/\(f=fun j=>ub (ud (f j)))/\rng fun j=>ud (f j)))
   (.ret (rrOut own m (fun j=>ud (f j)) i n (rrR (fun j=>ud (f j)) i n)))
 | _,_=>.fail
theorem rrF_ok:SpecOk Try.prog 149 rrF:=by
 refine knownS KRQ_ok Try.func149 fun args h r he=>?_
 unfold rrF at he
 split at he
 ·rename_i i n own m f
  obtain ⟨⟨h1,h2,h3⟩,he'⟩:=Tr.eval_ask.1 he
  cases he'
  have e1:some ⟨5,own,.row 1 m f⟩=rowU own m fun j=>ud (f j):=by rw [rowU,<-h2]
  refine ⟨(fun k=>if k=8 then rqK else []),[],60,nol,noLoopsS,?_⟩
  rw [e1]
  exact rr_eval (own:=own) h3 h1
 ·cases he
end
section
open Go Go.RowKit
noncomputable def KQY:Known:=[(145,rqF),(149,rrF)]
theorem KQY_ok:KnownOk KQY:=consK rqF_ok (by kernel_rfl) (consK rrF_ok (by kernel_rfl) nilK)
noncomputable def qyG:Ctx2:=GT KQY (fun _=>[]) 0 []
theorem qy_eb {own:Bool}{m i n:Nat}{B:Nat->Int}:(lfun qyG nol 60 Try.f107 [.c (.sl 0 i n)] [rowU own m B]).go []=some ([yes (i+n<=m/\((fun j=>ub (B j))=fun j=>ub (ud (ub (B j))))/\rng fun j=>ud (ub (B j))),(rqR (fun j=>ud (ub (B j))) i n).fst.o.isEmpty,(rqR (fun j=>ud (ub (B j))) i n).snd.snd,true,true,true,true,true,true,true],.tup [.agg [i64 0,i64 0,i64 0,i64 0,i64 0,i64 0,.v (.slice none 0 0)],I64 16],[some ⟨5,own,.row 1 m fun j=>[.int .u8 (ud (ub (B j)))]⟩]):=by kernel_rfl
theorem qy_er {own:Bool}{m i n:Nat}{B:Nat->Int}:(lfun qyG nol 60 Try.f107 [.c (.sl 0 i n)] [rowU own m B]).go (dN 9 3)=some ([yes (i+n<=m/\((fun j=>ub (B j))=fun j=>ub (ud (ub (B j))))/\rng fun j=>ud (ub (B j))),(rqR (fun j=>ud (ub (B j))) i n).fst.o.isEmpty,!(rqR (fun j=>ud (ub (B j))) i n).snd.snd,true,true,true,true,true,true,decide ((((rqR (fun j=>ud (ub (B j))) i n).snd.fst.length:Nat):Int)>(0:Int))],.tup [.agg [i64 0,i64 0,i64 0,i64 0,i64 0,i64 0,.v (.slice none 0 0)],I64 16],[some ⟨5,own,.row 1 m fun j=>[.int .u8 (ud (ub (B j)))]⟩]):=by kernel_rfl
theorem qy_eo {own:Bool}{m i n:Nat}{B:Nat->Int}:(lfun qyG nol 60 Try.f107 [.c (.sl 0 i n)] [rowU own m B]).go (dN 10 3)=some ([yes (i+n<=m/\((fun j=>ub (B j))=fun j=>ub (ud (ub (B j))))/\rng fun j=>ud (ub (B j))),(rqR (fun j=>ud (ub (B j))) i n).fst.o.isEmpty,!(rqR (fun j=>ud (ub (B j))) i n).snd.snd,true,true,true,true,true,true,!decide ((((rqR (fun j=>ud (ub (B j))) i n).snd.fst.length:Nat):Int)>(0:Int))],.tup [.agg [i64 (rqR (fun j=>ud (ub (B j))) i n).fst.k,i64 (rqR (fun j=>ud (ub (B j))) i n).fst.n,i64 (rqR (fun j=>ud (ub (B j))) i n).fst.p,i64 (rqR (fun j=>ud (ub (B j))) i n).fst.t,i64 (rqR (fun j=>ud (ub (B j))) i n).fst.x,i64 (rqR (fun j=>ud (ub (B j))) i n).fst.y,.v (.slice none 0 0)],I64 0],[some ⟨5,own,.row 1 m fun j=>[.int .u8 (ud (ub (B j)))]⟩]):=by kernel_rfl
theorem qy_ob {own:Bool}{m i n:Nat}{B:Nat->Int}:(lfun qyG nol 60 Try.f107 [.c (.sl 0 i n)] [rowU own m B]).go [true,false]=some ([yes (i+n<=m/\((fun j=>ub (B j))=fun j=>ub (ud (ub (B j))))/\rng fun j=>ud (ub (B j))),!(rqR (fun j=>ud (ub (B j))) i n).fst.o.isEmpty,(rqR (fun j=>ud (ub (B j))) i n).snd.snd,true,true,true,true,true,true,true],.tup [.agg [i64 0,i64 0,i64 0,i64 0,i64 0,i64 0,.v (.slice none 0 0)],I64 16],[some ⟨5,own,.row 1 m fun j=>[.int .u8 (ud (ub (B j)))]⟩]):=by kernel_rfl
theorem qy_or {own:Bool}{m i n:Nat}{B:Nat->Int}:(lfun qyG nol 60 Try.f107 [.c (.sl 0 i n)] [rowU own m B]).go (dN 9 1)=some ([yes (i+n<=m/\((fun j=>ub (B j))=fun j=>ub (ud (ub (B j))))/\rng fun j=>ud (ub (B j))),!(rqR (fun j=>ud (ub (B j))) i n).fst.o.isEmpty,!(rqR (fun j=>ud (ub (B j))) i n).snd.snd,true,true,true,true,true,true,decide ((((rqR (fun j=>ud (ub (B j))) i n).snd.fst.length:Nat):Int)>(0:Int))],.tup [.agg [i64 0,i64 0,i64 0,i64 0,i64 0,i64 0,.v (.slice none 0 0)],I64 16],[some ⟨5,own,.row 1 m fun j=>[.int .u8 (ud (ub (B j)))]⟩]):=by kernel_rfl
theorem qy_oo {own:Bool}{m i n:Nat}{B:Nat->Int}:(lfun qyG nol 60 Try.f107 [.c (.sl 0 i n)] [rowU own m B]).go (dN 10 1)=some ([yes (i+n<=m/\((fun j=>ub (B j))=fun j=>ub (ud (ub (B j))))/\rng fun j=>ud (ub (B j))),!(rqR (fun j=>ud (ub (B j))) i n).fst.o.isEmpty,!(rqR (fun j=>ud (ub (B j))) i n).snd.snd,true,true,true,true,true,true,!decide ((((rqR (fun j=>ud (ub (B j))) i n).snd.fst.length:Nat):Int)>(0:Int))],.tup [.agg [i64 (rqR (fun j=>ud (ub (B j))) i n).fst.k,i64 (rqR (fun j=>ud (ub (B j))) i n).fst.n,i64 (rqR (fun j=>ud (ub (B j))) i n).fst.p,i64 (rqR (fun j=>ud (ub (B j))) i n).fst.t,i64 (rqR (fun j=>ud (ub (B j))) i n).fst.x,i64 (rqR (fun j=>ud (ub (B j))) i n).fst.y,.sl 1 0 (rqR (fun j=>ud (ub (B j))) i n).fst.o.length],I64 0],[some ⟨5,own,.row 1 m fun j=>[.int .u8 (ud (ub (B j)))]⟩,some ⟨121,true,.row 5 (rqR (fun j=>ud (ub (B j))) i n).fst.o.length fun j=>[.int .i64 (gP (rqR (fun j=>ud (ub (B j))) i n).fst.o j).k,.int .i64 (gP (rqR (fun j=>ud (ub (B j))) i n).fst.o j).i,.int .i64 (gP (rqR (fun j=>ud (ub (B j))) i n).fst.o j).a,.int .i64 (gP (rqR (fun j=>ud (ub (B j))) i n).fst.o j).b,.string (gP (rqR (fun j=>ud (ub (B j))) i n).fst.o j).s]⟩]):=by kernel_rfl
theorem ry_b {own:Bool}{m i n:Nat}{B:Nat->Int}:(lfun qyG nol 60 Try.f109 [.c (.sl 0 i n)] [rowU own m B]).go []=some ([yes (i+n<=m/\((fun j=>ub (B j))=fun j=>ub (ud (ub (B j))))/\rng fun j=>ud (ub (B j))),(rrR (fun j=>ud (ub (B j))) i n).snd.snd,true,true,true,true,true,true,true],.tup [.agg [i64 0,i64 0,i64 0,i64 0,i64 0,i64 0,i64 0,i64 0,i64 0,i64 0],I64 16],[some ⟨5,own,.row 1 m fun j=>[.int .u8 (ud (ub (B j)))]⟩]):=by kernel_rfl
theorem ry_r {own:Bool}{m i n:Nat}{B:Nat->Int}:(lfun qyG nol 60 Try.f109 [.c (.sl 0 i n)] [rowU own m B]).go (dN 8 1)=some ([yes (i+n<=m/\((fun j=>ub (B j))=fun j=>ub (ud (ub (B j))))/\rng fun j=>ud (ub (B j))),!(rrR (fun j=>ud (ub (B j))) i n).snd.snd,true,true,true,true,true,true,decide ((((rrR (fun j=>ud (ub (B j))) i n).snd.fst.length:Nat):Int)>(0:Int))],.tup [.agg [i64 0,i64 0,i64 0,i64 0,i64 0,i64 0,i64 0,i64 0,i64 0,i64 0],I64 16],[some ⟨5,own,.row 1 m fun j=>[.int .u8 (ud (ub (B j)))]⟩]):=by kernel_rfl
theorem ry_o {own:Bool}{m i n:Nat}{B:Nat->Int}:(lfun qyG nol 60 Try.f109 [.c (.sl 0 i n)] [rowU own m B]).go (dN 9 1)=some ([yes (i+n<=m/\((fun j=>ub (B j))=fun j=>ub (ud (ub (B j))))/\rng fun j=>ud (ub (B j))),!(rrR (fun j=>ud (ub (B j))) i n).snd.snd,true,true,true,true,true,true,!decide ((((rrR (fun j=>ud (ub (B j))) i n).snd.fst.length:Nat):Int)>(0:Int))],.tup [.agg [i64 (rrR (fun j=>ud (ub (B j))) i n).fst.k,i64 (rrR (fun j=>ud (ub (B j))) i n).fst.e,i64 (rrR (fun j=>ud (ub (B j))) i n).fst.a,i64 (rrR (fun j=>ud (ub (B j))) i n).fst.n,i64 (rrR (fun j=>ud (ub (B j))) i n).fst.p,i64 (rrR (fun j=>ud (ub (B j))) i n).fst.t,i64 (rrR (fun j=>ud (ub (B j))) i n).fst.x,i64 (rrR (fun j=>ud (ub (B j))) i n).fst.y,i64 (rrR (fun j=>ud (ub (B j))) i n).fst.w,i64 (rrR (fun j=>ud (ub (B j))) i n).fst.h],I64 0],[some ⟨5,own,.row 1 m fun j=>[.int .u8 (ud (ub (B j)))]⟩]):=by kernel_rfl
end
end Go.Proofs.Ytcpahifgdppkbaa.QAI
