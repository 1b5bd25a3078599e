/- Lemmas. -/
import Derived.Test.YtcpahifgdppkbaaQWireTells2
set_option linter.unusedVariables false
set_option linter.unusedSimpArgs false
set_option maxRecDepth 100000
namespace Go.Proofs.Ytcpahifgdppkbaa.QAI
section
open Go Go.RowKit
def ub (x:Int):List Value:=[.int .u8 x]
def rowU (own:Bool) (n:Nat) (B:Nat->Int):Option ABlk:=some ⟨5,own,.row 1 n fun j=>ub (B j)⟩
def wrB (bad:Bool) (k:Nat):Option ABlk:=some ⟨168,true,.one [.sl 1 0 k,.v (.bool bad)]⟩
def wrN (bad:Bool):Option ABlk:=some ⟨168,true,.one [.v (.slice none 0 0),.v (.bool bad)]⟩
def rdB (bad:Bool) (i n:Nat):Option ABlk:=some ⟨175,true,.one [.sl 1 i n,.v (.bool bad)]⟩
noncomputable def nuG:Ctx2:=GK [] (fun k=>if k=2 then [(0,none),(1,none),(4,none)] else []) 6
theorem wb_nf {bad:Bool}{k:Nat}{B:Nat->Int}{n:Int}:(lfun niG nol 60 Try.f140 [.c (.ptr 0 0 0),I64 n] [wrB bad k,rowU true k B]).eval=bif bad then bif decide (k=k) then bif decide ((k+1)*1<=maxCells) then some (.tup [],[some ⟨168,true,.one [.sl 2 0 (k+1),.v (.bool true)]⟩,none,some ⟨5,true,.row 1 (k+1) fun k_1=>[.int .u8 (bif decide (k_1=k) then IntKind.u8.wrap n else B k_1)]⟩]) else none else none else bif decide (n<(0:Int)) then bif decide (k=k) then bif decide ((k+1)*1<=maxCells) then some (.tup [],[some ⟨168,true,.one [.sl 2 0 (k+1),.v (.bool true)]⟩,none,some ⟨5,true,.row 1 (k+1) fun k_1=>[.int .u8 (bif decide (k_1=k) then IntKind.u8.wrap n else B k_1)]⟩]) else none else none else bif decide (k=k) then bif decide ((k+1)*1<=maxCells) then some (.tup [],[some ⟨168,true,.one [.sl 2 0 (k+1),.v (.bool (decide (n>(255:Int))))]⟩,none,some ⟨5,true,.row 1 (k+1) fun k_1=>[.int .u8 (bif decide (k_1=k) then IntKind.u8.wrap n else B k_1)]⟩]) else none else none:=by kernel_rfl
theorem wb0_nf {bad:Bool}{n:Int}:(lfun niG nol 60 Try.f140 [.c (.ptr 0 0 0),I64 n] [wrN bad]).eval=bif bad then some (.tup [],[some ⟨168,true,.one [.sl 1 0 1,.v (.bool true)]⟩,some ⟨5,true,.row 1 1 fun k=>[.int .u8 (bif decide (k=0) then IntKind.u8.wrap n else (0:Int))]⟩]) else bif decide (n<(0:Int)) then some (.tup [],[some ⟨168,true,.one [.sl 1 0 1,.v (.bool true)]⟩,some ⟨5,true,.row 1 1 fun k=>[.int .u8 (bif decide (k=0) then IntKind.u8.wrap n else (0:Int))]⟩]) else some (.tup [],[some ⟨168,true,.one [.sl 1 0 1,.v (.bool (decide (n>(255:Int))))]⟩,some ⟨5,true,.row 1 1 fun k=>[.int .u8 (bif decide (k=0) then IntKind.u8.wrap n else (0:Int))]⟩]):=by kernel_rfl
theorem wn_nf {bad:Bool}{k:Nat}{B:Nat->Int}{n:Int}:(afun nuG 60 Try.f143 [.c (.ptr 0 0 0),I64 n] [wrB bad k,rowU true k B]).eval=bif bad then bif decide (k=k) then bif decide ((k+1)*1<=maxCells) then bif decide (k+1=k+1) then bif decide ((k+1+1)*1<=maxCells) then bif decide (k+1+1=k+1+1) then bif decide ((k+1+1+1)*1<=maxCells) then bif decide (k+1+1+1=k+1+1+1) then bif decide ((k+1+1+1+1)*1<=maxCells) then some (.tup [],[some ⟨168,true,.one [.sl 2 0 (k+1+1+1+1),.v (.bool true)]⟩,none,some ⟨5,true,.row 1 (k+1+1+1+1) fun k_1=>[.int .u8 (bif decide (k_1=k+1+1+1) then IntKind.u8.wrap (n.fdiv (2^min 0 IntKind.i64.bits)) else bif decide (k_1=k+1+1) then IntKind.u8.wrap (n.fdiv (2^min 8 IntKind.i64.bits)) else bif decide (k_1=k+1) then IntKind.u8.wrap (n.fdiv (2^min 16 IntKind.i64.bits)) else bif decide (k_1=k) then IntKind.u8.wrap (n.fdiv (2^min 24 IntKind.i64.bits)) else B k_1)]⟩]) else none else none else none else none else none else none else none else none else bif decide (n<(-2147483648:Int)) then bif decide (k=k) then bif decide ((k+1)*1<=maxCells) then bif decide (k+1=k+1) then bif decide ((k+1+1)*1<=maxCells) then bif decide (k+1+1=k+1+1) then bif decide ((k+1+1+1)*1<=maxCells) then bif decide (k+1+1+1=k+1+1+1) then bif decide ((k+1+1+1+1)*1<=maxCells) then some (.tup [],[some ⟨168,true,.one [.sl 2 0 (k+1+1+1+1),.v (.bool true)]⟩,none,some ⟨5,true,.row 1 (k+1+1+1+1) fun k_1=>[.int .u8 (bif decide (k_1=k+1+1+1) then IntKind.u8.wrap (n.fdiv (2^min 0 IntKind.i64.bits)) else bif decide (k_1=k+1+1) then IntKind.u8.wrap (n.fdiv (2^min 8 IntKind.i64.bits)) else bif decide (k_1=k+1) then IntKind.u8.wrap (n.fdiv (2^min 16 IntKind.i64.bits)) else bif decide (k_1=k) then IntKind.u8.wrap (n.fdiv (2^min 24 IntKind.i64.bits)) else B k_1)]⟩]) else none else none else none else none else none else none else none else none else bif decide (k=k) then bif decide ((k+1)*1<=maxCells) then bif decide (k+1=k+1) then bif decide ((k+1+1)*1<=maxCells) then bif decide (k+1+1=k+1+1) then bif decide ((k+1+1+1)*1<=maxCells) then bif decide (k+1+1+1=k+1+1+1) then bif decide ((k+1+1+1+1)*1<=maxCells) then some (.tup [],[some ⟨168,true,.one [.sl 2 0 (k+1+1+1+1),.v (.bool (decide (n>(2147483647:Int))))]⟩,none,some ⟨5,true,.row 1 (k+1+1+1+1) fun k_1=>[.int .u8 (bif decide (k_1=k+1+1+1) then IntKind.u8.wrap (n.fdiv (2^min 0 IntKind.i64.bits)) else bif decide (k_1=k+1+1) then IntKind.u8.wrap (n.fdiv (2^min 8 IntKind.i64.bits)) else bif decide (k_1=k+1) then IntKind.u8.wrap (n.fdiv (2^min 16 IntKind.i64.bits)) else bif decide (k_1=k) then IntKind.u8.wrap (n.fdiv (2^min 24 IntKind.i64.bits)) else B k_1)]⟩]) else none else none else none else none else none else none else none else none:=by kernel_rfl
theorem wt_nf {bad:Bool}{k:Nat}{B:Nat->Int}{s:ByteArray}:(lfun niG nol 60 Try.f160 [.c (.ptr 0 0 0),.c (.v (.string s))] [wrB bad k,rowU true k B]).eval=bif bad then bif decide (k=k) then bif decide ((k+2)*1<=maxCells) then bif decide (k+2=k+2) then bif decide (0+s.size<=s.size) then bif decide ((k+2+s.size)*1<=maxCells) then some (.tup [],[some ⟨168,true,.one [.sl 2 0 (k+2+s.size),.v (.bool true)]⟩,none,some ⟨5,true,.row 1 (k+2+s.size) fun k_1=>Decidable.rec (fun h=>if k_1<k+2+s.size then [.int .u8 (bt s ((0+(k_1-(k+2)):Nat):Int))] else [.int .u8 (0:Int)]) (fun h=>updL (fun j=>ub (B j)) k [[.int .u8 (IntKind.u8.wrap ((((s.size:Nat):Int)).fdiv (2^min 8 IntKind.i64.bits)))],[.int .u8 (IntKind.u8.wrap ((s.size:Nat):Int))]] k_1) (k_1.decLt (k+2))⟩]) else none else none else none else none else none else bif decide (k=k) then bif decide ((k+2)*1<=maxCells) then bif decide (k+2=k+2) then bif decide (0+s.size<=s.size) then bif decide ((k+2+s.size)*1<=maxCells) then some (.tup [],[some ⟨168,true,.one [.sl 2 0 (k+2+s.size),.v (.bool (decide (((s.size:Nat):Int)>(2000:Int))))]⟩,none,some ⟨5,true,.row 1 (k+2+s.size) fun k_1=>Decidable.rec (fun h=>if k_1<k+2+s.size then [.int .u8 (bt s ((0+(k_1-(k+2)):Nat):Int))] else [.int .u8 (0:Int)]) (fun h=>updL (fun j=>ub (B j)) k [[.int .u8 (IntKind.u8.wrap ((((s.size:Nat):Int)).fdiv (2^min 8 IntKind.i64.bits)))],[.int .u8 (IntKind.u8.wrap ((s.size:Nat):Int))]] k_1) (k_1.decLt (k+2))⟩]) else none else none else none else none else none:=by kernel_rfl
theorem rb_nf {bad own:Bool}{i n m:Nat}{B:Nat->Int}:(lfun niG nol 60 Try.f162 [.c (.ptr 0 0 0)] [rdB bad i n,rowU own m B]).eval=bif ((n:Nat):Int)==(0:Int) then some (I64 0,[some ⟨175,true,.one [.sl 1 i n,.v (.bool true)]⟩,some ⟨5,own,.row 1 m fun j=>[.int .u8 (B j)]⟩]) else bif decide ((0:Int)<((n:Nat):Int)) then bif decide (i<m) then bif decInt (1:Int) (((n:Nat):Int)) n then some (I64 (w64 (B i)),[some ⟨175,true,.one [.sl 1 (i+1) (n-1),.v (.bool bad)]⟩,some ⟨5,own,.row 1 m fun j=>[.int .u8 (B j)]⟩]) else none else none else none:=by kernel_rfl
theorem fi_nf {n:Int}:(lfun niG nol 60 Try.f146 [I64 n] []).eval=bif decide (n>=(-2147483648:Int)) then some (Bo (decide (n<(2147483648:Int))),[]) else some (Bo false,[]):=by kernel_rfl
theorem fo_nf {n:Int}:(lfun niG nol 60 Try.f147 [I64 n] []).eval=some (.c (.sl 0 0 4),[some ⟨5,true,.lst 1 [[.v (.int .u8 (IntKind.u8.wrap (n.fdiv (2^min 24 IntKind.i64.bits))))],[.v (.int .u8 (IntKind.u8.wrap (n.fdiv (2^min 16 IntKind.i64.bits))))],[.v (.int .u8 (IntKind.u8.wrap (n.fdiv (2^min 8 IntKind.i64.bits))))],[.v (.int .u8 (IntKind.u8.wrap n))]] [.v (.int .u8 (0:Int))]⟩]):=by kernel_rfl
theorem he_nf {n lo hi:Int}:(lfun niG nol 60 Try.f150 [I64 n,I64 lo,I64 hi] []).eval=some (I64 (mnI hi (mxI lo n)),[]):=by kernel_rfl
end
section
open Go Go.RowKit
def by8 (n:Int):Int:=n % 256
def four (n:Int):List Int:=[by8 (n / 16777216),by8 (n / 65536),by8 (n / 256),by8 n]
def num4 (a b c d:Int):Int:=if a*16777216+b*65536+c*256+d>=2147483648 then a*16777216+b*65536+c*256+d-4294967296 else a*16777216+b*65536+c*256+d
def fits (n:Int):Bool:=decide (-2147483648<=n)&&decide (n<2147483648)
theorem num4_four {n:Int}(h:fits n=true):num4 (by8 (n / 16777216)) (by8 (n / 65536)) (by8 (n / 256)) (by8 n)=n:=by
 simp only [fits,Bool.and_eq_true,decide_eq_true_eq] at h
 unfold num4 by8
 split <;> omega
theorem num4_fits {a b c d:Int}(ha:0<=a/\a<256) (hb:0<=b/\b<256) (hc:0<=c/\c<256) (hd:0<=d/\d<256):fits (num4 a b c d)=true:=by
 simp only [fits,Bool.and_eq_true,decide_eq_true_eq]
 unfold num4
 split <;> omega
theorem four_num4 {a b c d:Int}(ha:0<=a/\a<256) (hb:0<=b/\b<256) (hc:0<=c/\c<256) (hd:0<=d/\d<256):four (num4 a b c d)=[a,b,c,d]:=by
 unfold four num4 by8
 split <;> simp only [List.cons.injEq,and_true] <;> omega
structure Opp where
 k:Int
 i:Int
 a:Int
 b:Int
 s:ByteArray
def zOpp:Opp:=⟨0,0,0,0,⟨#[]⟩⟩
def encO (o:Opp):List Value:=[.int .i64 o.k,.int .i64 o.i,.int .i64 o.a,.int .i64 o.b,.string o.s]
def decO:List Value->Opp
 | [.int _ k,.int _ i,.int _ a,.int _ b,.string s]=>⟨k,i,a,b,s⟩
 | _=>zOpp
def opB (o:Opp):List Int:=by8 o.k::(four o.i++four o.a++four o.b++[by8 ((o.s.size:Int) / 256),by8 (o.s.size:Int)]++bs o.s)
def byOk (n:Int):Bool:=decide (0<=n)&&decide (n<=255)
def opOk (o:Opp):Bool:=byOk o.k&&fits o.i&&fits o.a&&fits o.b&&decide (o.s.size<=2000)
theorem opB_len (o:Opp):(opB o).length=15+o.s.size:=by
 simp [opB,four,bs_len];omega
def rByte:List Int × Bool->Int × (List Int × Bool)
 | ([],_)=>(0,[],true)
 | (x::l,b)=>(x,l,b)
def rNum (s:List Int × Bool):Int × (List Int × Bool):=
 let a:=rByte s;let b:=rByte a.2;let c:=rByte b.2;let d:=rByte c.2
 (num4 a.1 b.1 c.1 d.1,d.2)
def toB (l:List Int):ByteArray:=⟨(l.map fun x=>UInt8.ofNat x.toNat).toArray⟩
def rText (s:List Int × Bool):ByteArray × (List Int × Bool):=
 let a:=rByte s;let b:=rByte a.2
 bif b.2.2||decide (a.1*256+b.1>(b.2.1.length:Int)) then (⟨#[]⟩,b.2.1,true) else (toB (b.2.1.take (a.1*256+b.1).toNat),b.2.1.drop (a.1*256+b.1).toNat,b.2.2)
def rOp (s:List Int × Bool):Opp × (List Int × Bool):=
 let k:=rByte s;let i:=rNum k.2;let a:=rNum i.2;let b:=rNum a.2;let t:=rText b.2
 (⟨k.1,i.1,a.1,b.1,t.1⟩,t.2.1,t.2.2||decide (t.1.size>2000))
def rOps:Nat->List Int × Bool->List Opp × (List Int × Bool)
 | 0,s=>([],s)
 | n+1,s=>bif s.2 then ([],s) else
  let o:=rOp s;let r:=rOps n o.2
  (o.1::r.1,r.2)
theorem rNum_four {n:Int}(h:fits n=true) (l:List Int) (b:Bool):rNum (four n++l,b)=(n,l,b):=by
 simp only [four,List.cons_append,List.nil_append,rNum,rByte,num4_four h]
theorem toB_bs (s:ByteArray):toB (bs s)=s:=by
 have:(bs s).map (fun x=>UInt8.ofNat x.toNat)=s.data.toList:=by
  unfold bs
  rw [List.map_map]
  conv=>rhs;rw [<-List.map_id s.data.toList]
  refine List.map_congr_left fun u _=>?_
  simp [Function.comp]
 unfold toB
 rw [this]
theorem rText_bs {s:ByteArray}(h:s.size<=2000) (l:List Int):rText ([by8 ((s.size:Int) / 256),by8 (s.size:Int)]++bs s++l,false)=(s,l,false):=by
 have e:by8 ((s.size:Int) / 256)*256+by8 (s.size:Int)=s.size:=by unfold by8;omega
 simp only [List.cons_append,List.nil_append,List.append_assoc,rText,rByte,e,Bool.false_or]
 have hl:=bs_len s
 rw [decide_eq_false (by rw [List.length_append,hl];omega)]
 simp only [cond_false,Int.toNat_natCast,Prod.mk.injEq,and_true]
 refine ⟨?_,?_⟩
 ·rw [List.take_append_of_le_length (by omega),List.take_of_length_le (by omega),toB_bs]
 ·rw [List.drop_append_of_le_length (by omega),List.drop_of_length_le (by omega),List.nil_append]
theorem rOp_opB {o:Opp}(h:opOk o=true) (l:List Int):rOp (opB o++l,false)=(o,l,false):=by
 simp only [opOk,Bool.and_eq_true,decide_eq_true_eq,byOk] at h
 obtain ⟨⟨⟨⟨⟨h1,h2⟩,h3⟩,h4⟩,h5⟩,h6⟩:=h
 have ek:by8 o.k=o.k:=by unfold by8;omega
 have e:opB o++l=o.k::(four o.i++(four o.a++(four o.b++([by8 ((o.s.size:Int) / 256),by8 (o.s.size:Int)]++bs o.s++l)))):=by
  simp only [opB,ek,List.cons_append,List.append_assoc]
 rw [e]
 simp only [rOp,rByte,rNum_four h3,rNum_four h4,rNum_four h5,rText_bs h6]
 rw [decide_eq_false (by omega)]
 rfl
theorem rOps_opB:∀ (os:List Opp) (l:List Int),(∀ o ∈ os,opOk o=true)->rOps os.length (os.flatMap opB++l,false)=(os,l,false)
 | [],l,_=>rfl
 | o::os,l,h=>by
  have e:(o::os).flatMap opB++l=opB o++(os.flatMap opB++l):=by simp
  rw [e]
  simp only [List.length_cons,rOps,cond_false,rOp_opB (h o (by simp)),rOps_opB os l fun x hx=>h x (by simp [hx])]
end
section
open Go Go.RowKit
def ud:List Value->Int
 | [.int .u8 x]=>x
 | _=>0
def appB (B:Nat->Int) (k:Nat) (x:Int):Nat->Int:=fun j=>bif decide (j=k) then x else B j
theorem wb_eval {bad:Bool}{k:Nat}{B:Nat->Int}{n:Int}(hk:k+1<=maxCells):(lfun niG nol 60 Try.f140 [.c (.ptr 0 0 0),I64 n] [wrB bad k,rowU true k B]).eval =
  some (.tup [],[some ⟨168,true,.one [.sl 2 0 (k+1),.v (.bool (bad||!byOk n))]⟩,none,rowU true (k+1) (appB B k (IntKind.u8.wrap n))]):=by
 rw [wb_nf]
 have e1:decide (k=k)=true:=decide_eq_true rfl
 have e2:decide ((k+1)*1<=maxCells)=true:=decide_eq_true (by omega)
 simp only [e1,e2,cond_true]
 cases bad
 ·simp only [cond_false,Bool.false_or]
  by_cases h:n<0
  ·have hb:byOk n=false:=by unfold byOk;rw [decide_eq_false (by omega)];rfl
   simp only [decide_eq_true h,cond_true,hb]
   rfl
  ·have hb:(!byOk n)=decide (n>255):=by
    unfold byOk
    rw [decide_eq_true (by omega:(0:Int)<=n),Bool.true_and]
    by_cases h2:n<=255
    ·rw [decide_eq_true h2,decide_eq_false (by omega)];rfl
    ·rw [decide_eq_false h2,decide_eq_true (by omega)];rfl
   simp only [decide_eq_false h,cond_false,hb]
   rfl
 ·rfl
theorem wb0_eval {bad:Bool}{n:Int}:(lfun niG nol 60 Try.f140 [.c (.ptr 0 0 0),I64 n] [wrN bad]).eval =
  some (.tup [],[some ⟨168,true,.one [.sl 1 0 1,.v (.bool (bad||!byOk n))]⟩,rowU true 1 (appB (fun _=>0) 0 (IntKind.u8.wrap n))]):=by
 rw [wb0_nf]
 cases bad
 ·simp only [cond_false,Bool.false_or]
  by_cases h:n<0
  ·have hb:byOk n=false:=by unfold byOk;rw [decide_eq_false (by omega)];rfl
   simp only [decide_eq_true h,cond_true,hb]
   rfl
  ·have hb:(!byOk n)=decide (n>255):=by
    unfold byOk
    rw [decide_eq_true (by omega:(0:Int)<=n),Bool.true_and]
    by_cases h2:n<=255
    ·rw [decide_eq_true h2,decide_eq_false (by omega)];rfl
    ·rw [decide_eq_false h2,decide_eq_true (by omega)];rfl
   simp only [decide_eq_false h,cond_false,hb]
   rfl
 ·rfl
noncomputable def wbF:Spec:=fun args h=>match args,h with
 | [.c (.ptr 0 0 0),.c (.v (.int .i64 n))],[some ⟨168,true,.one [.sl 1 0 k,.v (.bool bad)]⟩,some ⟨5,true,.row 1 k' f⟩]=>
  .need (yes (k+1<=maxCells/\k'=k/\f=fun j=>ub (ud (f j)))) (.ret (.tup [],[some ⟨168,true,.one [.sl 2 0 (k+1),.v (.bool (bad||!byOk n))]⟩,none,rowU true (k+1) (appB (fun j=>ud (f j)) k (IntKind.u8.wrap n))]))
 | [.c (.ptr 0 0 0),.c (.v (.int .i64 n))],[some ⟨168,true,.one [.v (.slice none 0 0),.v (.bool bad)]⟩]=>
  .ret (.tup [],[some ⟨168,true,.one [.sl 1 0 1,.v (.bool (bad||!byOk n))]⟩,rowU true 1 (appB (fun _=>0) 0 (IntKind.u8.wrap n))])
 | _,_=>.fail
theorem wbF_ok:SpecOk Try.prog 140 wbF:=by
 refine knownS nilK Try.func140 fun args h r he=>?_
 unfold wbF at he
 split at he
 ·rename_i n k bad k' f
  obtain ⟨⟨h1,h2,h3⟩,he'⟩:=Tr.eval_ask.1 he
  subst h2
  cases he'
  have e1:some ⟨5,true,.row 1 k' f⟩=rowU true k' fun j=>ud (f j):=by rw [rowU,<-h3]
  exact ⟨_,[],60,nol,noLoopsS,by rw [e1];exact wb_eval h1⟩
 ·rename_i n bad
  cases he
  exact ⟨_,[],60,nol,noLoopsS,wb0_eval⟩
 ·cases he
def fourB (B:Nat->Int) (k:Nat) (n:Int):Nat->Int:=appB (appB (appB (appB B k (IntKind.u8.wrap (n.fdiv ((2:Int)^min 24 IntKind.i64.bits)))) (k+1) (IntKind.u8.wrap (n.fdiv ((2:Int)^min 16 IntKind.i64.bits)))) (k+1+1) (IntKind.u8.wrap (n.fdiv ((2:Int)^min 8 IntKind.i64.bits)))) (k+1+1+1) (IntKind.u8.wrap (n.fdiv ((2:Int)^min 0 IntKind.i64.bits)))
theorem wn_eval {bad:Bool}{k:Nat}{B:Nat->Int}{n:Int}(hk:k+4<=maxCells):(afun nuG 60 Try.f143 [.c (.ptr 0 0 0),I64 n] [wrB bad k,rowU true k B]).eval =
  some (.tup [],[some ⟨168,true,.one [.sl 2 0 (k+1+1+1+1),.v (.bool (bad||!fits n))]⟩,none,rowU true (k+1+1+1+1) (fourB B k n)]):=by
 rw [wn_nf]
 have e1:∀ k:Nat,decide (k=k)=true:=fun k=>decide_eq_true rfl
 have e2:decide ((k+1)*1<=maxCells)=true:=decide_eq_true (by omega)
 have e3:decide ((k+1+1)*1<=maxCells)=true:=decide_eq_true (by omega)
 have e4:decide ((k+1+1+1)*1<=maxCells)=true:=decide_eq_true (by omega)
 have e5:decide ((k+1+1+1+1)*1<=maxCells)=true:=decide_eq_true (by omega)
 simp only [e1,e2,e3,e4,e5,cond_true]
 cases bad
 ·simp only [cond_false,Bool.false_or]
  by_cases h:n < -2147483648
  ·have hb:fits n=false:=by unfold fits;rw [decide_eq_false (by omega)];rfl
   simp only [decide_eq_true h,cond_true,hb]
   rfl
  ·have hb:(!fits n)=decide (n>2147483647):=by
    unfold fits
    rw [decide_eq_true (by omega:(-2147483648:Int)<=n),Bool.true_and]
    by_cases h2:n<2147483648
    ·rw [decide_eq_true h2,decide_eq_false (by omega)];rfl
    ·rw [decide_eq_false h2,decide_eq_true (by omega)];rfl
   simp only [decide_eq_false h,cond_false,hb]
   rfl
 ·rfl
noncomputable def wnF:Spec:=fun args h=>match args,h with
 | [.c (.ptr 0 0 0),.c (.v (.int .i64 n))],[some ⟨168,true,.one [.sl 1 0 k,.v (.bool bad)]⟩,some ⟨5,true,.row 1 k' f⟩]=>
  .need (yes (k+4<=maxCells/\k'=k/\f=fun j=>ub (ud (f j)))) (.ret (.tup [],[some ⟨168,true,.one [.sl 2 0 (k+1+1+1+1),.v (.bool (bad||!fits n))]⟩,none,rowU true (k+1+1+1+1) (fourB (fun j=>ud (f j)) k n)]))
 | _,_=>.fail
theorem wnF_ok:SpecOk Try.prog 143 wnF:=by
 refine known' nilK Try.func143 fun args h r he=>?_
 unfold wnF at he
 split at he
 ·rename_i n k bad k' f
  obtain ⟨⟨h1,h2,h3⟩,he'⟩:=Tr.eval_ask.1 he
  subst h2
  cases he'
  have e1:some ⟨5,true,.row 1 k' f⟩=rowU true k' fun j=>ud (f j):=by rw [rowU,<-h3]
  exact ⟨_,_,_,by rw [e1];exact wn_eval h1⟩
 ·cases he
end
section
open Go Go.RowKit
def txB (B:Nat->Int) (k:Nat) (s:ByteArray):Nat->Int:=fun j=>bif decide (j<k+2) then appB (appB B k (IntKind.u8.wrap (((s.size:Nat):Int).fdiv ((2:Int)^min 8 IntKind.i64.bits)))) (k+1) (IntKind.u8.wrap ((s.size:Nat):Int)) j else bif decide (j<k+2+s.size) then bt s ((0+(j-(k+2)):Nat):Int) else 0
theorem dec_rec {p:Prop}(d:Decidable p) {α:Type}(a b:α):(Decidable.rec (motive:=fun _=>α) (fun _=>a) (fun _=>b) d:α)=@ite _ p d b a:=by cases d <;> rfl
theorem wt_row (B:Nat->Int) (k:Nat) (s:ByteArray):(fun k_1=>(Decidable.rec (motive:=fun _=>List Value)
   (fun h=>if k_1<k+2+s.size then [Value.int IntKind.u8 (bt s ((0+(k_1-(k+2)):Nat):Int))] else [Value.int IntKind.u8 (0:Int)])
   (fun h=>updL (fun j=>ub (B j)) k [[Value.int IntKind.u8 (IntKind.u8.wrap ((((s.size:Nat):Int)).fdiv ((2:Int)^min 8 IntKind.i64.bits)))],[Value.int IntKind.u8 (IntKind.u8.wrap ((s.size:Nat):Int))]] k_1)
   (k_1.decLt (k+2)):List Value))=fun j=>ub (txB B k s j):=by
 funext j
 rw [dec_rec]
 unfold txB
 by_cases h:j<k+2
 ·rw [if_pos h,decide_eq_true h,cond_true,updL_get]
  unfold appB
  by_cases h1:j<k
  ·rw [if_pos h1,decide_eq_false (by omega:¬ j=k+1),decide_eq_false (by omega:¬ j=k)];rfl
  ·rw [if_neg h1,if_pos (by simp only [List.length_cons,List.length_nil];omega)]
   by_cases h2:j=k
   ·subst h2
    rw [decide_eq_false (by omega:¬ j=j+1),decide_eq_true rfl,Nat.sub_self];rfl
   ·have h3:j=k+1:=by omega
    subst h3
    rw [decide_eq_true rfl,show k+1-k=1 by omega];rfl
 ·rw [if_neg h,decide_eq_false h,cond_false]
  by_cases h1:j<k+2+s.size
  ·rw [if_pos h1,decide_eq_true h1];rfl
  ·rw [if_neg h1,decide_eq_false h1];rfl
theorem wt_eval {bad:Bool}{k:Nat}{B:Nat->Int}{s:ByteArray}(hk:k+2+s.size<=maxCells):(lfun niG nol 60 Try.f160 [.c (.ptr 0 0 0),.c (.v (.string s))] [wrB bad k,rowU true k B]).eval =
  some (.tup [],[some ⟨168,true,.one [.sl 2 0 (k+2+s.size),.v (.bool (bad||decide (((s.size:Nat):Int)>2000)))]⟩,none,rowU true (k+2+s.size) (txB B k s)]):=by
 rw [wt_nf]
 have e1:∀ k:Nat,decide (k=k)=true:=fun k=>decide_eq_true rfl
 have e2:decide ((k+2)*1<=maxCells)=true:=decide_eq_true (by omega)
 have e3:decide (0+s.size<=s.size)=true:=decide_eq_true (by omega)
 have e4:decide ((k+2+s.size)*1<=maxCells)=true:=decide_eq_true (by omega)
 have e5:=wt_row B k s
 simp only [e1,e2,e3,e4,cond_true]
 have e6:rowU true (k+2+s.size) (txB B k s)=some ⟨5,true,.row 1 (k+2+s.size) fun j=>ub (txB B k s j)⟩:=rfl
 rw [e6,<-e5]
 cases bad <;> rfl
noncomputable def wtF:Spec:=fun args h=>match args,h with
 | [.c (.ptr 0 0 0),.c (.v (.string s))],[some ⟨168,true,.one [.sl 1 0 k,.v (.bool bad)]⟩,some ⟨5,true,.row 1 k' f⟩]=>
  .need (yes (k+2+s.size<=maxCells/\k'=k/\f=fun j=>ub (ud (f j)))) (.ret (.tup [],[some ⟨168,true,.one [.sl 2 0 (k+2+s.size),.v (.bool (bad||decide (((s.size:Nat):Int)>2000)))]⟩,none,rowU true (k+2+s.size) (txB (fun j=>ud (f j)) k s)]))
 | _,_=>.fail
theorem wtF_ok:SpecOk Try.prog 160 wtF:=by
 refine knownS nilK Try.func160 fun args h r he=>?_
 unfold wtF at he
 split at he
 ·rename_i s k bad k' f
  obtain ⟨⟨h1,h2,h3⟩,he'⟩:=Tr.eval_ask.1 he
  subst h2
  cases he'
  have e1:some ⟨5,true,.row 1 k' f⟩=rowU true k' fun j=>ud (f j):=by rw [rowU,<-h3]
  exact ⟨_,[],60,nol,noLoopsS,by rw [e1];exact wt_eval h1⟩
 ·cases he
end
section
open Go Go.RowKit
theorem bt_lt (s:ByteArray) (i:Int):0<=bt s i/\bt s i<256:=by
 unfold bt
 have:=UInt8.toNat_lt (s.data.toList.getD i.toNat 0)
 omega
theorem succ64 {j:Nat}(h:j<2^60):w64 ((j:Int)+1)=((j+1:Nat):Int):=by rw [w64_id (by omega) (by omega)];omega
end
section
open Go Go.RowKit
def fstN (p:Nat->Bool):Nat->Nat->Nat
 | 0,a=>a
 | f+1,a=>bif p a then fstN p f (a+1) else a
theorem fstN_spec {p : Nat → Bool} : ∀ f a, a ≤ fstN p f a ∧ fstN p f a ≤ a + f ∧ (∀ j, a ≤ j → j < fstN p f a → p j = true) ∧ (fstN p f a = a + f ∨ p (fstN p f a) = false)
  | 0, a => ⟨Nat.le_refl _, Nat.le_refl _, fun j h1 h2 => by simp only [fstN] at h2; omega, .inl rfl⟩
  | f + 1, a => by
    rw [fstN]
    cases hp : p a
    · exact ⟨Nat.le_refl _, by simp only [cond_false]; omega, fun j h1 h2 => by simp only [cond_false] at h2; omega, .inr hp⟩
    · simp only [cond_true]
      obtain ⟨h1, h2, h3, h4⟩ := fstN_spec (p := p) f (a + 1)
      refine ⟨by omega, by omega, fun j j1 j2 => ?_, by rcases h4 with h4 | h4; · exact .inl (by omega)
                                                        · exact .inr h4⟩
      rcases Nat.lt_or_ge a j with h | h
      · exact h3 j h j2
      · rw [show j = a by omega]; exact hp
def bkc (c:Int):Bool:=c==32||c==9||c==10
def nmc (c:Int):Bool:=(decide (c>=97)&&decide (c<=122))||c==45
def vlc (c:Int):Bool:=nmc c||(decide (c>=48)&&decide (c<=57))||c==46||c==37
def dgc (c:Int):Bool:=decide (c>=48)&&decide (c<=57)
theorem bkc_nf {c:Int}:(lfun niG nol 60 Try.f176 [U8 c] []).eval =
 bif c==(32:Int) then some (Bo true,[])
 else bif c==(9:Int) then some (Bo true,[]) else some (Bo (c==(10:Int)),[]):=by kernel_rfl
theorem nmc_nf {c:Int}:(lfun niG nol 60 Try.f172 [U8 c] []).eval =
 bif decide (c>=(97:Int)) then
  bif decide (c<=(122:Int)) then some (Bo true,[]) else some (Bo (c==(45:Int)),[])
 else some (Bo (c==(45:Int)),[]):=by kernel_rfl
noncomputable def c8F (p:Int->Bool):Spec:=fun args h=>match args,h with
 | [.c (.v (.int .u8 c))],[]=>.ret (Bo (p c),[])
 | _,_=>.fail
theorem bkc_ok:SpecOk Try.prog 176 (c8F bkc):=by
 refine knownS nilK Try.func176 fun args h r he=>?_
 unfold c8F at he
 split at he
 ·cases he
  refine ⟨fun _=>[],[],60,nol,noLoopsS,bkc_nf.trans ?_⟩
  unfold bkc
  rename_i c
  cases (c==32) <;> cases (c==9) <;> rfl
 ·cases he
theorem nmc_ok:SpecOk Try.prog 172 (c8F nmc):=by
 refine knownS nilK Try.func172 fun args h r he=>?_
 unfold c8F at he
 split at he
 ·cases he
  refine ⟨fun _=>[],[],60,nol,noLoopsS,nmc_nf.trans ?_⟩
  unfold nmc
  rename_i c
  cases (decide (c>=97)) <;> cases (decide (c<=122)) <;> rfl
 ·cases he
noncomputable def KPN:Known:=[(172,c8F nmc)]
theorem KPN_ok:KnownOk KPN:=consK nmc_ok (by kernel_rfl) nilK
noncomputable def pnG:Ctx2:=GT KPN (fun _=>[]) 0 []
theorem vlc_nf {c:Int}:(lfun pnG nol 60 Try.f173 [U8 c] []).eval =
 bif nmc c then some (Bo true,[])
 else
  bif decide (c>=(48:Int)) then
   bif decide (c<=(57:Int)) then some (Bo true,[])
   else bif c==(46:Int) then some (Bo true,[]) else some (Bo (c==(37:Int)),[])
  else bif c==(46:Int) then some (Bo true,[]) else some (Bo (c==(37:Int)),[]):=by kernel_rfl
theorem vlc_ok:SpecOk Try.prog 173 (c8F vlc):=by
 refine knownS KPN_ok Try.func173 fun args h r he=>?_
 unfold c8F at he
 split at he
 ·cases he
  refine ⟨fun _=>[],[],60,nol,noLoopsS,vlc_nf.trans ?_⟩
  unfold vlc
  rename_i c
  cases (nmc c) <;> cases (decide (c>=48)) <;> cases (decide (c<=57)) <;> cases (c==46) <;> rfl
 ·cases he
abbrev StrA (s:ByteArray):AV:=.c (.v (.string s))
noncomputable def KPS:Known:=[(176,c8F bkc)]
theorem KPS_ok:KnownOk KPS:=consK bkc_ok (by kernel_rfl) nilK
abbrev skK:List (Nat × Option TypeId):=[(0,none),(1,none)]
noncomputable def skG:Ctx2:=GT KPS (fun k=>if k=1 then skK else []) 0 []
theorem skG_ok:XOk skG:=GT_ok KPS_ok _ _ _
def skS (s:ByteArray) (a:Int):St:=⟨slots 18 [(0,StrA s),(1,I64 a)],[]⟩
theorem sk_go {s:ByteArray}{a:Int}:(rT skG nol 0 56 (bodyOf Try.f171 0) skK skK (skS s a)).go [] =
 some
  ([decide (a<((s.size:Nat):Int)),true,true,decide ((0:Int)<=a),decide (a<((s.size:Nat):Int)),true,true,bkc (bt s a)],
   Ex.normal,
   {sl:=slots 18 [(0,AV.c (AC.v (Value.string s))),(1,I64 (w64 (a+(1:Int))))],
    h:=[] }):=by kernel_rfl
theorem sk_e1 {s:ByteArray}{a:Int}:(rT skG nol 0 56 (bodyOf Try.f171 0) skK skK (skS s a)).go (dN 6 0) =
 some
  ([!decide (a<((s.size:Nat):Int)),true,true,true,true,true],Ex.exit 0,
   {sl:=slots 18 [(0,AV.c (AC.v (Value.string s))),(1,I64 a)],h:=[] }):=by kernel_rfl
theorem sk_e2 {s:ByteArray}{a:Int}:(rT skG nol 0 56 (bodyOf Try.f171 0) skK skK (skS s a)).go (dN 8 127) =
 some
  ([decide (a<((s.size:Nat):Int)),true,true,decide ((0:Int)<=a),decide (a<((s.size:Nat):Int)),true,true,!bkc (bt s a)],
   Ex.exit 0,
   {sl:=slots 18 [(0,AV.c (AC.v (Value.string s))),(1,I64 a)],h:=[] }):=by kernel_rfl
theorem sk_w {s:ByteArray}{a z:Int}:(lfun skG (tell (bodyOf Try.f171 0) (skS s a) (.exit 0,skS s z)) 60 Try.f171 [StrA s,I64 a] []).go [] =
 some ([yes (wasS (bodyOf Try.f171 0) (skS s a))],I64 z,[]):=by kernel_rfl
abbrev dgK:List (Nat × Option TypeId):=[(0,none),(1,none),(5,none)]
noncomputable def dgG:Ctx2:=GT [] (fun k=>if k=2 then dgK else []) 0 []
theorem dgG_ok:XOk dgG:=GT_ok nilK _ _ _
def dgS (s:ByteArray) (a n:Int):St:=⟨slots 31 [(0,StrA s),(1,I64 a),(5,I64 n)],[]⟩
theorem dg_go {s:ByteArray}{a n:Int}:(rT dgG nol 0 55 (bodyOf Try.f183 0) dgK dgK (dgS s a n)).go [] =
 some
  ([decide (w64 (a+n)<((s.size:Nat):Int)),true,true,true,true,decide ((0:Int)<=w64 (a+n)),
    decide (w64 (a+n)<((s.size:Nat):Int)),true,true,decide (bt s (w64 (a+n))>=(48:Int)),true,true,true,true,
    decide ((0:Int)<=w64 (a+n)),decide (w64 (a+n)<((s.size:Nat):Int)),true,true,
    decide (bt s (w64 (a+n))<=(57:Int))],
   Ex.normal,
   {
    sl:=
     slots 31
      [(0,AV.c (AC.v (Value.string s))),(1,I64 a),(5,I64 (w64 (n+(1:Int))))],
    h:=[] }):=by kernel_rfl
theorem dg_e1 {s:ByteArray}{a n:Int}:(rT dgG nol 0 55 (bodyOf Try.f183 0) dgK dgK (dgS s a n)).go (dN 15 0) =
 some
  ([!decide (w64 (a+n)<((s.size:Nat):Int)),true,true,true,true,true,true,true,true,true,true,true,true,true,
    true],
   Ex.exit 0,
   {sl:=slots 31 [(0,AV.c (AC.v (Value.string s))),(1,I64 a),(5,I64 n)],
    h:=[] }):=by kernel_rfl
theorem dg_e2 {s:ByteArray}{a n:Int}:(rT dgG nol 0 55 (bodyOf Try.f183 0) dgK dgK (dgS s a n)).go (dN 17 511) =
 some
  ([decide (w64 (a+n)<((s.size:Nat):Int)),true,true,true,true,decide ((0:Int)<=w64 (a+n)),
    decide (w64 (a+n)<((s.size:Nat):Int)),true,true,!decide (bt s (w64 (a+n))>=(48:Int)),true,true,true,true,
    true,true,true],
   Ex.exit 0,
   {sl:=slots 31 [(0,AV.c (AC.v (Value.string s))),(1,I64 a),(5,I64 n)],
    h:=[] }):=by kernel_rfl
theorem dg_e3 {s:ByteArray}{a n:Int}:(rT dgG nol 0 55 (bodyOf Try.f183 0) dgK dgK (dgS s a n)).go (dN 19 262143) =
 some
  ([decide (w64 (a+n)<((s.size:Nat):Int)),true,true,true,true,decide ((0:Int)<=w64 (a+n)),
    decide (w64 (a+n)<((s.size:Nat):Int)),true,true,decide (bt s (w64 (a+n))>=(48:Int)),true,true,true,true,
    decide ((0:Int)<=w64 (a+n)),decide (w64 (a+n)<((s.size:Nat):Int)),true,true,
    !decide (bt s (w64 (a+n))<=(57:Int))],
   Ex.exit 0,
   {sl:=slots 31 [(0,AV.c (AC.v (Value.string s))),(1,I64 a),(5,I64 n)],
    h:=[] }):=by kernel_rfl
theorem dg_w {s:ByteArray}{a n:Int}:(lfun dgG (tell (bodyOf Try.f183 0) (dgS s a 0) (.exit 0,dgS s a n)) 60 Try.f183 [StrA s,I64 a] []).go [] =
 some ([yes (wasS (bodyOf Try.f183 0) (dgS s a 0))],I64 n,[]):=by kernel_rfl
end
section
open Go Go.RowKit
theorem sk_loop {s:ByteArray}{a:Nat}(hs:s.size<2^40) (ha:a<=s.size) :
  CodeSem skG 0 (.loop (bodyOf Try.f171 0)) (skS s a) (.exit 0,skS s (fstN (fun i=>bkc (bt s i)) (s.size-a) a:Nat)):=by
 obtain ⟨h1,h2,h3,h4⟩:=fstN_spec (p:=fun i=>bkc (bt s i)) (s.size-a) a
 generalize fstN (fun i=>bkc (bt s i)) (s.size-a) a=N at h1 h2 h3 h4 ⊢
 have key:=loop_of (G:=skG) (n0:=0) (b:=bodyOf Try.f171 0) (fun j=>skS s ((a+j:Nat):Int)) (N-a) (e:=.exit 0) (Se:=skS s ((a+(N-a):Nat):Int)) (by simp) ?_ fun j hj=>?_
 ·rw [show a+(N-a)=N by omega] at key
  exact key
 ·rw [show a+(N-a)=N by omega]
  by_cases hN:N=s.size
  ·refine rT_sem skG_ok noLoopsS ((rT_go sk_e1 ?_).trans ?_)
   ·try simp only [Int.toNat_natCast,Nat.zero_add]
    repeat' (first|exact AllT.nil|refine AllT.cons ?_ ?_)
    all_goals first|(with_reducible rfl)|(with_reducible assumption)|exact yes_of ⟨rfl,rfl⟩|exact decide_eq_true (by omega)|exact beq_iff_eq.2 (by omega)|(simp;done)|(simp;omega)
   ·try simp only [Int.toNat_natCast,Nat.zero_add]
    rfl
  ·obtain ⟨b0,b1⟩:=bt_lt s N
   have hb:bkc (bt s N)=false:=h4.resolve_left (by omega)
   have hb':(!bkc (bt s N))=true:=by rw [hb];rfl
   refine rT_sem skG_ok noLoopsS ((rT_go sk_e2 ?_).trans ?_)
   ·try simp only [Int.toNat_natCast,Nat.zero_add]
    repeat' (first|exact AllT.nil|refine AllT.cons ?_ ?_)
    all_goals first|(with_reducible rfl)|(with_reducible assumption)|exact yes_of ⟨rfl,rfl⟩|exact decide_eq_true (by omega)|exact beq_iff_eq.2 (by omega)|(simp;done)|(simp;omega)
   ·try simp only [Int.toNat_natCast,Nat.zero_add]
    rfl
 ·have e3:=succ64 (j:=a+j) (by omega)
  obtain ⟨b0,b1⟩:=bt_lt s (a+j:Nat)
  have hb:bkc (bt s (a+j:Nat))=true:=h3 (a+j) (by omega) (by omega)
  refine rT_sem skG_ok noLoopsS ((rT_go sk_go ?_).trans ?_)
  ·try simp only [Int.toNat_natCast,Nat.zero_add,e3]
   repeat' (first|exact AllT.nil|refine AllT.cons ?_ ?_)
   all_goals first|(with_reducible rfl)|(with_reducible assumption)|exact yes_of ⟨rfl,rfl⟩|exact decide_eq_true (by omega)|exact beq_iff_eq.2 (by omega)|(simp;done)|(simp;omega)
  ·try simp only [Int.toNat_natCast,Nat.zero_add,e3]
   rfl
def skN (s:ByteArray) (a:Nat):Nat:=fstN (fun i=>bkc (bt s i)) (s.size-a) a
theorem skN_b {s:ByteArray}{a:Nat}(ha:a<=s.size):a<=skN s a/\skN s a<=s.size:=by
 obtain ⟨h1,h2,_,_⟩:=fstN_spec (p:=fun i=>bkc (bt s i)) (s.size-a) a
 unfold skN
 omega
noncomputable def skF:Spec:=fun args h=>match args,h with
 | [.c (.v (.string s)),.c (.v (.int .i64 a))],[]=>.need (yes (s.size<2^40/\0<=a/\a<=s.size)) (.ret (I64 (skN s a.toNat:Nat),[]))
 | _,_=>.fail
theorem skF_ok:SpecOk Try.prog 171 skF:=by
 refine knownS KPS_ok Try.func171 fun args h r he=>?_
 unfold skF at he
 split at he
 ·rename_i s a
  obtain ⟨⟨h1,h2,h3⟩,he⟩:=Tr.eval_ask.1 he
  cases he
  obtain ⟨n,rfl⟩:=Int.eq_ofNat_of_zero_le h2
  exact ⟨_,[],60,_,tell_ok (sk_loop h1 (by omega)),Tr.go_eval sk_w ⟨yes_of ⟨rfl,rfl⟩,trivial⟩⟩
 ·cases he
def dgN (s:ByteArray) (a:Nat):Nat:=fstN (fun i=>dgc (bt s i)) (s.size-a) a-a
theorem dgN_b {s:ByteArray}{a:Nat}(ha:a<=s.size):a+dgN s a<=s.size:=by
 obtain ⟨h1,h2,_,_⟩:=fstN_spec (p:=fun i=>dgc (bt s i)) (s.size-a) a
 unfold dgN
 omega
theorem dg_loop {s:ByteArray}{a:Nat}(hs:s.size<2^40) (ha:a<=s.size) :
  CodeSem dgG 0 (.loop (bodyOf Try.f183 0)) (dgS s a 0) (.exit 0,dgS s a (dgN s a:Nat)):=by
 obtain ⟨h1,h2,h3,h4⟩:=fstN_spec (p:=fun i=>dgc (bt s i)) (s.size-a) a
 unfold dgN
 generalize fstN (fun i=>dgc (bt s i)) (s.size-a) a=N at h1 h2 h3 h4 ⊢
 refine loop_of (fun j=>dgS s a (j:Int)) (N-a) (by simp) ?_ fun j hj=>?_
 ·have w:w64 ((a:Int)+((N-a:Nat):Int))=(N:Int):=by rw [w64_id (by omega) (by omega)];omega
  by_cases hN:N=s.size
  ·refine rT_sem dgG_ok noLoopsS ((rT_go dg_e1 ?_).trans ?_)
   ·try simp only [Int.toNat_natCast,Nat.zero_add,w]
    repeat' (first|exact AllT.nil|refine AllT.cons ?_ ?_)
    all_goals first|(with_reducible rfl)|(with_reducible assumption)|exact yes_of ⟨rfl,rfl⟩|exact decide_eq_true (by omega)|exact beq_iff_eq.2 (by omega)|(simp;done)|(simp;omega)
   ·try simp only [Int.toNat_natCast,Nat.zero_add,w]
    rfl
  ·obtain ⟨b0,b1⟩:=bt_lt s N
   have hb:dgc (bt s N)=false:=h4.resolve_left (by omega)
   unfold dgc at hb
   by_cases h48:bt s N>=48
   ·rw [decide_eq_true h48,Bool.true_and] at hb
    have hb':(!decide (bt s N<=57))=true:=by rw [hb];rfl
    refine rT_sem dgG_ok noLoopsS ((rT_go dg_e3 ?_).trans ?_)
    ·try simp only [Int.toNat_natCast,Nat.zero_add,w]
     repeat' (first|exact AllT.nil|refine AllT.cons ?_ ?_)
     all_goals first|(with_reducible rfl)|(with_reducible assumption)|exact yes_of ⟨rfl,rfl⟩|exact decide_eq_true (by omega)|exact beq_iff_eq.2 (by omega)|(simp;done)|(simp;omega)
    ·try simp only [Int.toNat_natCast,Nat.zero_add,w]
     rfl
   ·refine rT_sem dgG_ok noLoopsS ((rT_go dg_e2 ?_).trans ?_)
    ·try simp only [Int.toNat_natCast,Nat.zero_add,w]
     repeat' (first|exact AllT.nil|refine AllT.cons ?_ ?_)
     all_goals first|(with_reducible rfl)|(with_reducible assumption)|exact yes_of ⟨rfl,rfl⟩|exact decide_eq_true (by omega)|exact beq_iff_eq.2 (by omega)|(simp;done)|(simp;omega)
    ·try simp only [Int.toNat_natCast,Nat.zero_add,w]
     rfl
 ·have e3:=succ64 (j:=j) (by omega)
  have w:w64 ((a:Int)+(j:Int))=((a+j:Nat):Int):=by rw [w64_id (by omega) (by omega)];omega
  obtain ⟨b0,b1⟩:=bt_lt s (a+j:Nat)
  have hb:=h3 (a+j) (by omega) (by omega)
  simp only [dgc,Bool.and_eq_true] at hb
  obtain ⟨hb1,hb2⟩:=hb
  refine rT_sem dgG_ok noLoopsS ((rT_go dg_go ?_).trans ?_)
  ·try simp only [Int.toNat_natCast,Nat.zero_add,e3,w]
   repeat' (first|exact AllT.nil|refine AllT.cons ?_ ?_)
   all_goals first|(with_reducible rfl)|(with_reducible assumption)|exact yes_of ⟨rfl,rfl⟩|exact decide_eq_true (by omega)|exact beq_iff_eq.2 (by omega)|(simp;done)|(simp;omega)
  ·try simp only [Int.toNat_natCast,Nat.zero_add,e3,w]
   rfl
noncomputable def dgF:Spec:=fun args h=>match args,h with
 | [.c (.v (.string s)),.c (.v (.int .i64 a))],[]=>.need (yes (s.size<2^40/\0<=a/\a<=s.size)) (.ret (I64 (dgN s a.toNat:Nat),[]))
 | _,_=>.fail
theorem dgF_ok:SpecOk Try.prog 183 dgF:=by
 refine knownS nilK Try.func183 fun args h r he=>?_
 unfold dgF at he
 split at he
 ·rename_i s a
  obtain ⟨⟨h1,h2,h3⟩,he⟩:=Tr.eval_ask.1 he
  cases he
  obtain ⟨n,rfl⟩:=Int.eq_ofNat_of_zero_le h2
  exact ⟨_,[],60,_,tell_ok (dg_loop h1 (by omega)),Tr.go_eval dg_w ⟨yes_of ⟨rfl,rfl⟩,trivial⟩⟩
 ·cases he
noncomputable def KNU:Known:=[(183,dgF)]
theorem KNU_ok:KnownOk KNU:=consK dgF_ok (by kernel_rfl) nilK
abbrev nuK1:List (Nat × Option TypeId):=[(0,none),(2,none),(9,none),(10,none),(11,none),(12,none),(13,none)]
abbrev nuK2:List (Nat × Option TypeId):=[(0,none),(2,none),(9,none),(10,none),(12,none),(14,none),(15,none)]
abbrev nuK3:List (Nat × Option TypeId):=[(0,none),(2,none),(9,none),(10,none),(12,none),(16,none)]
noncomputable def numG:Ctx2:=GT KNU (fun k=>if k=10 then nuK1 else if k=20 then nuK2 else if k=25 then nuK3 else []) 0 []
theorem numG_ok:XOk numG:=GT_ok KNU_ok _ _ _
def nu1 (s:ByteArray) (be:Int) (ng:Bool) (a n v i:Int):St:=⟨slots 110 [(0,StrA s),(2,I64 be),(9,Bo ng),(10,I64 a),(11,I64 n),(12,I64 v),(13,I64 i)],[]⟩
def nu2 (s:ByteArray) (be:Int) (ng:Bool) (a v k i:Int):St:=⟨slots 110 [(0,StrA s),(2,I64 be),(9,Bo ng),(10,I64 a),(12,I64 v),(14,I64 k),(15,I64 i)],[]⟩
def nu3 (s:ByteArray) (be:Int) (ng:Bool) (a v i:Int):St:=⟨slots 110 [(0,StrA s),(2,I64 be),(9,Bo ng),(10,I64 a),(12,I64 v),(16,I64 i)],[]⟩
theorem nu1_go {s:ByteArray}{be:Int}{ng:Bool}{a n v i:Int}:(rT numG nol 0 49 (bodyOf Try.f181 0) nuK1 nuK1 (nu1 s be ng a n v i)).go []=some ([decide (i<n),decide ((0:Int)<=w64 (a+i)),decide (w64 (a+i)<((s.size:Nat):Int))],Ex.normal,{ sl:=slots 110 [(0,.c (.v (.string s))),(2,I64 be),(9,Bo ng),(10,I64 a),(11,I64 n),(12,I64 (w64 (w64 ((10:Int)*v)+w64 (IntKind.u8.wrap (bt s (w64 (a+i))-(48:Int)))))),(13,I64 (w64 (i+(1:Int))))],h:=[] }):=by kernel_rfl
theorem nu1_e {s:ByteArray}{be:Int}{ng:Bool}{a n v i:Int}:(rT numG nol 0 49 (bodyOf Try.f181 0) nuK1 nuK1 (nu1 s be ng a n v i)).go [false]=some ([!decide (i<n)],Ex.exit 0,{ sl:=slots 110 [(0,.c (.v (.string s))),(2,I64 be),(9,Bo ng),(10,I64 a),(11,I64 n),(12,I64 v),(13,I64 i)],h:=[] }):=by kernel_rfl
theorem nu2_go {s:ByteArray}{be:Int}{ng:Bool}{a v k i:Int}:(rT numG nol 0 41 (bodyOf Try.f181 1) nuK2 nuK2 (nu2 s be ng a v k i)).go []=some ([decide (i<k),decide ((0:Int)<=w64 (w64 (a+(1:Int))+i)),decide (w64 (w64 (a+(1:Int))+i)<((s.size:Nat):Int))],Ex.normal,{ sl:=slots 110 [(0,.c (.v (.string s))),(2,I64 be),(9,Bo ng),(10,I64 a),(12,I64 (w64 (w64 ((10:Int)*v)+w64 (IntKind.u8.wrap (bt s (w64 (w64 (a+(1:Int))+i))-(48:Int)))))),(14,I64 k),(15,I64 (w64 (i+(1:Int))))],h:=[] }):=by kernel_rfl
theorem nu2_e {s:ByteArray}{be:Int}{ng:Bool}{a v k i:Int}:(rT numG nol 0 41 (bodyOf Try.f181 1) nuK2 nuK2 (nu2 s be ng a v k i)).go [false]=some ([!decide (i<k)],Ex.exit 2,{ sl:=slots 110 [(0,.c (.v (.string s))),(2,I64 be),(9,Bo ng),(10,I64 a),(12,I64 v),(14,I64 k),(15,I64 i)],h:=[] }):=by kernel_rfl
theorem nu3_go {s:ByteArray}{be:Int}{ng:Bool}{a v i:Int}:(rT numG nol 0 45 (bodyOf Try.f181 2) nuK3 nuK3 (nu3 s be ng a v i)).go []=some ([decide (i<be)],Ex.normal,{ sl:=slots 110 [(0,.c (.v (.string s))),(2,I64 be),(9,Bo ng),(10,I64 a),(12,I64 (w64 ((10:Int)*v))),(16,I64 (w64 (i+(1:Int))))],h:=[] }):=by kernel_rfl
theorem nu3_e {s:ByteArray}{be:Int}{ng:Bool}{a v i:Int}:(rT numG nol 0 45 (bodyOf Try.f181 2) nuK3 nuK3 (nu3 s be ng a v i)).go [false]=some ([!decide (i<be)],Ex.exit 4,{ sl:=slots 110 [(0,.c (.v (.string s))),(2,I64 be),(9,Bo ng),(10,I64 a),(12,I64 v),(16,I64 i)],h:=[] }):=by kernel_rfl
end
section
open Go Go.RowKit
theorem np_b1 {s:ByteArray}{ah be v1 v2 v3 z1 z2 z3:Int}:(lfun numG nol 60 Try.f181 [StrA s,I64 ah,I64 be] []).go []=some ([decide (((s.size:Nat):Int)>(0:Int)),true,true,decide ((0:Int)<((s.size:Nat):Int)),true,true,bt s (0:Int)==(45:Int),yes (s.size<2^40/\(0:Int)<=(1:Int)/\(1:Int)<=((s.size:Nat):Int)),decide (((dgN s 1:Nat):Int)<(1:Int)),true,true,true,true],.tup [I64 0,.c (.v (.string { data:=#[] })),Bo false],[]):=by kernel_rfl
theorem np_b2 {s:ByteArray}{ah be v1 v2 v3 z1 z2 z3:Int}:(lfun numG nol 60 Try.f181 [StrA s,I64 ah,I64 be] []).go (dN 12 255)=some ([decide (((s.size:Nat):Int)>(0:Int)),true,true,decide ((0:Int)<((s.size:Nat):Int)),true,true,bt s (0:Int)==(45:Int),yes (s.size<2^40/\(0:Int)<=(1:Int)/\(1:Int)<=((s.size:Nat):Int)),!decide (((dgN s 1:Nat):Int)<(1:Int)),true,true,true,decide (((dgN s 1:Nat):Int)>ah)],.tup [I64 0,.c (.v (.string { data:=#[] })),Bo false],[]):=by kernel_rfl
theorem np_d1 {s:ByteArray}{ah be v1 v2 v3 z1 z2 z3:Int}:(lfun numG (byReg 10 (tell (bodyOf Try.f181 0) (nu1 s be (bt s 0==45) 1 ((dgN s (1:Int).toNat:Nat):Int) 0 0) (.exit 0,(nu1 s be (bt s 0==45) 1 ((dgN s (1:Int).toNat:Nat):Int) v1 z1))) (tell (bodyOf Try.f181 2) (nu3 s be (bt s 0==45) (w64 (1+((dgN s (1:Int).toNat:Nat):Int))) v1 0) (.exit 4,(nu3 s be (bt s 0==45) (w64 (1+((dgN s (1:Int).toNat:Nat):Int))) v3 z3)))) 60 Try.f181 [StrA s,I64 ah,I64 be] []).go (dN 20 8447)=some ([decide (((s.size:Nat):Int)>(0:Int)),true,true,decide ((0:Int)<((s.size:Nat):Int)),true,true,bt s (0:Int)==(45:Int),yes (s.size<2^40/\(0:Int)<=(1:Int)/\(1:Int)<=((s.size:Nat):Int)),!decide (((dgN s 1:Nat):Int)<(1:Int)),true,true,true,!decide (((dgN s 1:Nat):Int)>ah),yes (wasS (bodyOf Try.f181 0) (nu1 s be (bt s 0==45) 1 ((dgN s (1:Int).toNat:Nat):Int) 0 0)),!decide (w64 ((1:Int)+((dgN s 1:Nat):Int))<((s.size:Nat):Int)),true,true,true,true,true,yes (wasS (bodyOf Try.f181 2) (nu3 s be (bt s 0==45) (w64 (1+((dgN s (1:Int).toNat:Nat):Int))) v1 0)),bt s (0:Int)==(45:Int),decInt (w64 ((1:Int)+((dgN s 1:Nat):Int))) (((s.size:Nat):Int)) s.size],.tup [I64 (w64 ((0:Int)-v3)),.c (.v (.string (s.extract (w64 ((1:Int)+((dgN s 1:Nat):Int))).toNat s.size))),Bo true],[]):=by kernel_rfl
theorem np_d2 {s:ByteArray}{ah be v1 v2 v3 z1 z2 z3:Int}:(lfun numG (byReg 10 (tell (bodyOf Try.f181 0) (nu1 s be (bt s 0==45) 1 ((dgN s (1:Int).toNat:Nat):Int) 0 0) (.exit 0,(nu1 s be (bt s 0==45) 1 ((dgN s (1:Int).toNat:Nat):Int) v1 z1))) (tell (bodyOf Try.f181 2) (nu3 s be (bt s 0==45) (w64 (1+((dgN s (1:Int).toNat:Nat):Int))) v1 0) (.exit 4,(nu3 s be (bt s 0==45) (w64 (1+((dgN s (1:Int).toNat:Nat):Int))) v3 z3)))) 60 Try.f181 [StrA s,I64 ah,I64 be] []).go (dN 22 2089215)=some ([decide (((s.size:Nat):Int)>(0:Int)),true,true,decide ((0:Int)<((s.size:Nat):Int)),true,true,bt s (0:Int)==(45:Int),yes (s.size<2^40/\(0:Int)<=(1:Int)/\(1:Int)<=((s.size:Nat):Int)),!decide (((dgN s 1:Nat):Int)<(1:Int)),true,true,true,!decide (((dgN s 1:Nat):Int)>ah),yes (wasS (bodyOf Try.f181 0) (nu1 s be (bt s 0==45) 1 ((dgN s (1:Int).toNat:Nat):Int) 0 0)),decide (w64 ((1:Int)+((dgN s 1:Nat):Int))<((s.size:Nat):Int)),true,true,decide ((0:Int)<=w64 ((1:Int)+((dgN s 1:Nat):Int))),decide (w64 ((1:Int)+((dgN s 1:Nat):Int))<((s.size:Nat):Int)),true,true,!bt s (w64 ((1:Int)+((dgN s 1:Nat):Int)))==(46:Int),yes (wasS (bodyOf Try.f181 2) (nu3 s be (bt s 0==45) (w64 (1+((dgN s (1:Int).toNat:Nat):Int))) v1 0)),bt s (0:Int)==(45:Int),decInt (w64 ((1:Int)+((dgN s 1:Nat):Int))) (((s.size:Nat):Int)) s.size],.tup [I64 (w64 ((0:Int)-v3)),.c (.v (.string (s.extract (w64 ((1:Int)+((dgN s 1:Nat):Int))).toNat s.size))),Bo true],[]):=by kernel_rfl
theorem np_k1 {s:ByteArray}{ah be v1 v2 v3 z1 z2 z3:Int}:(lfun numG (byReg 10 (tell (bodyOf Try.f181 0) (nu1 s be (bt s 0==45) 1 ((dgN s (1:Int).toNat:Nat):Int) 0 0) (.exit 0,(nu1 s be (bt s 0==45) 1 ((dgN s (1:Int).toNat:Nat):Int) v1 z1))) (tell (bodyOf Try.f181 2) (nu3 s be (bt s 0==45) (w64 (1+((dgN s (1:Int).toNat:Nat):Int))) v1 0) (.exit 4,(nu3 s be (bt s 0==45) (w64 (1+((dgN s (1:Int).toNat:Nat):Int))) v3 z3)))) 60 Try.f181 [StrA s,I64 ah,I64 be] []).go (dN 13 255)=some ([decide (((s.size:Nat):Int)>(0:Int)),true,true,decide ((0:Int)<((s.size:Nat):Int)),true,true,bt s (0:Int)==(45:Int),yes (s.size<2^40/\(0:Int)<=(1:Int)/\(1:Int)<=((s.size:Nat):Int)),!decide (((dgN s 1:Nat):Int)<(1:Int)),true,true,true,!decide (((dgN s 1:Nat):Int)>ah),yes (wasS (bodyOf Try.f181 0) (nu1 s be (bt s 0==45) 1 ((dgN s (1:Int).toNat:Nat):Int) 0 0)),decide (w64 ((1:Int)+((dgN s 1:Nat):Int))<((s.size:Nat):Int)),true,true,decide ((0:Int)<=w64 ((1:Int)+((dgN s 1:Nat):Int))),decide (w64 ((1:Int)+((dgN s 1:Nat):Int))<((s.size:Nat):Int)),true,true,bt s (w64 ((1:Int)+((dgN s 1:Nat):Int)))==(46:Int),yes (s.size<2^40/\(0:Int)<=w64 (w64 ((1:Int)+((dgN s 1:Nat):Int))+(1:Int))/\w64 (w64 ((1:Int)+((dgN s 1:Nat):Int))+(1:Int))<=((s.size:Nat):Int)),decide (((dgN s (w64 (w64 ((1:Int)+((dgN s 1:Nat):Int))+(1:Int))).toNat:Nat):Int)<(1:Int)),true,true,true,true],.tup [I64 0,.c (.v (.string { data:=#[] })),Bo false],[]):=by kernel_rfl
theorem np_k2 {s:ByteArray}{ah be v1 v2 v3 z1 z2 z3:Int}:(lfun numG (byReg 10 (tell (bodyOf Try.f181 0) (nu1 s be (bt s 0==45) 1 ((dgN s (1:Int).toNat:Nat):Int) 0 0) (.exit 0,(nu1 s be (bt s 0==45) 1 ((dgN s (1:Int).toNat:Nat):Int) v1 z1))) (tell (bodyOf Try.f181 2) (nu3 s be (bt s 0==45) (w64 (1+((dgN s (1:Int).toNat:Nat):Int))) v1 0) (.exit 4,(nu3 s be (bt s 0==45) (w64 (1+((dgN s (1:Int).toNat:Nat):Int))) v3 z3)))) 60 Try.f181 [StrA s,I64 ah,I64 be] []).go (dN 27 8380671)=some ([decide (((s.size:Nat):Int)>(0:Int)),true,true,decide ((0:Int)<((s.size:Nat):Int)),true,true,bt s (0:Int)==(45:Int),yes (s.size<2^40/\(0:Int)<=(1:Int)/\(1:Int)<=((s.size:Nat):Int)),!decide (((dgN s 1:Nat):Int)<(1:Int)),true,true,true,!decide (((dgN s 1:Nat):Int)>ah),yes (wasS (bodyOf Try.f181 0) (nu1 s be (bt s 0==45) 1 ((dgN s (1:Int).toNat:Nat):Int) 0 0)),decide (w64 ((1:Int)+((dgN s 1:Nat):Int))<((s.size:Nat):Int)),true,true,decide ((0:Int)<=w64 ((1:Int)+((dgN s 1:Nat):Int))),decide (w64 ((1:Int)+((dgN s 1:Nat):Int))<((s.size:Nat):Int)),true,true,bt s (w64 ((1:Int)+((dgN s 1:Nat):Int)))==(46:Int),yes (s.size<2^40/\(0:Int)<=w64 (w64 ((1:Int)+((dgN s 1:Nat):Int))+(1:Int))/\w64 (w64 ((1:Int)+((dgN s 1:Nat):Int))+(1:Int))<=((s.size:Nat):Int)),!decide (((dgN s (w64 (w64 ((1:Int)+((dgN s 1:Nat):Int))+(1:Int))).toNat:Nat):Int)<(1:Int)),true,true,true,decide (((dgN s (w64 (w64 ((1:Int)+((dgN s 1:Nat):Int))+(1:Int))).toNat:Nat):Int)>be)],.tup [I64 0,.c (.v (.string { data:=#[] })),Bo false],[]):=by kernel_rfl
theorem np_ok {s:ByteArray}{ah be v1 v2 v3 z1 z2 z3:Int}:(lfun numG (byReg 10 (tell (bodyOf Try.f181 0) (nu1 s be (bt s 0==45) 1 ((dgN s (1:Int).toNat:Nat):Int) 0 0) (.exit 0,(nu1 s be (bt s 0==45) 1 ((dgN s (1:Int).toNat:Nat):Int) v1 z1))) (byReg 20 (tell (bodyOf Try.f181 1) (nu2 s be (bt s 0==45) (w64 (1+((dgN s (1:Int).toNat:Nat):Int))) v1 ((dgN s (w64 ((w64 (1+((dgN s (1:Int).toNat:Nat):Int)))+1)).toNat:Nat):Int) 0) (.exit 2,(nu2 s be (bt s 0==45) (w64 (1+((dgN s (1:Int).toNat:Nat):Int))) v2 ((dgN s (w64 ((w64 (1+((dgN s (1:Int).toNat:Nat):Int)))+1)).toNat:Nat):Int) z2))) (tell (bodyOf Try.f181 2) (nu3 s be (bt s 0==45) (w64 (w64 ((w64 (1+((dgN s (1:Int).toNat:Nat):Int)))+1)+((dgN s (w64 ((w64 (1+((dgN s (1:Int).toNat:Nat):Int)))+1)).toNat:Nat):Int))) v2 ((dgN s (w64 ((w64 (1+((dgN s (1:Int).toNat:Nat):Int)))+1)).toNat:Nat):Int)) (.exit 4,(nu3 s be (bt s 0==45) (w64 (w64 ((w64 (1+((dgN s (1:Int).toNat:Nat):Int)))+1)+((dgN s (w64 ((w64 (1+((dgN s (1:Int).toNat:Nat):Int)))+1)).toNat:Nat):Int))) v3 z3))))) 60 Try.f181 [StrA s,I64 ah,I64 be] []).go (dN 28 8380671)=some ([decide (((s.size:Nat):Int)>(0:Int)),true,true,decide ((0:Int)<((s.size:Nat):Int)),true,true,bt s (0:Int)==(45:Int),yes (s.size<2^40/\(0:Int)<=(1:Int)/\(1:Int)<=((s.size:Nat):Int)),!decide (((dgN s 1:Nat):Int)<(1:Int)),true,true,true,!decide (((dgN s 1:Nat):Int)>ah),yes (wasS (bodyOf Try.f181 0) (nu1 s be (bt s 0==45) 1 ((dgN s (1:Int).toNat:Nat):Int) 0 0)),decide (w64 ((1:Int)+((dgN s 1:Nat):Int))<((s.size:Nat):Int)),true,true,decide ((0:Int)<=w64 ((1:Int)+((dgN s 1:Nat):Int))),decide (w64 ((1:Int)+((dgN s 1:Nat):Int))<((s.size:Nat):Int)),true,true,bt s (w64 ((1:Int)+((dgN s 1:Nat):Int)))==(46:Int),yes (s.size<2^40/\(0:Int)<=w64 (w64 ((1:Int)+((dgN s 1:Nat):Int))+(1:Int))/\w64 (w64 ((1:Int)+((dgN s 1:Nat):Int))+(1:Int))<=((s.size:Nat):Int)),!decide (((dgN s (w64 (w64 ((1:Int)+((dgN s 1:Nat):Int))+(1:Int))).toNat:Nat):Int)<(1:Int)),true,true,true,!decide (((dgN s (w64 (w64 ((1:Int)+((dgN s 1:Nat):Int))+(1:Int))).toNat:Nat):Int)>be),yes (wasS (bodyOf Try.f181 1) (nu2 s be (bt s 0==45) (w64 (1+((dgN s (1:Int).toNat:Nat):Int))) v1 ((dgN s (w64 ((w64 (1+((dgN s (1:Int).toNat:Nat):Int)))+1)).toNat:Nat):Int) 0)),yes (wasS (bodyOf Try.f181 2) (nu3 s be (bt s 0==45) (w64 (w64 ((w64 (1+((dgN s (1:Int).toNat:Nat):Int)))+1)+((dgN s (w64 ((w64 (1+((dgN s (1:Int).toNat:Nat):Int)))+1)).toNat:Nat):Int))) v2 ((dgN s (w64 ((w64 (1+((dgN s (1:Int).toNat:Nat):Int)))+1)).toNat:Nat):Int))),bt s (0:Int)==(45:Int),decInt (w64 (w64 (w64 ((1:Int)+((dgN s 1:Nat):Int))+(1:Int))+((dgN s (w64 (w64 ((1:Int)+((dgN s 1:Nat):Int))+(1:Int))).toNat:Nat):Int))) (((s.size:Nat):Int)) s.size],.tup [I64 (w64 ((0:Int)-v3)),.c (.v (.string (s.extract (w64 (w64 (w64 ((1:Int)+((dgN s 1:Nat):Int))+(1:Int))+((dgN s (w64 (w64 ((1:Int)+((dgN s 1:Nat):Int))+(1:Int))).toNat:Nat):Int))).toNat s.size))),Bo true],[]):=by kernel_rfl
theorem nn_b1 {s:ByteArray}{ah be v1 v2 v3 z1 z2 z3:Int}:(lfun numG nol 60 Try.f181 [StrA s,I64 ah,I64 be] []).go (dN 7 63)=some ([decide (((s.size:Nat):Int)>(0:Int)),true,true,decide ((0:Int)<((s.size:Nat):Int)),true,true,!bt s (0:Int)==(45:Int),yes (s.size<2^40/\(0:Int)<=(0:Int)/\(0:Int)<=((s.size:Nat):Int)),decide (((dgN s 0:Nat):Int)<(1:Int)),true,true,true,true],.tup [I64 0,.c (.v (.string { data:=#[] })),Bo false],[]):=by kernel_rfl
theorem nn_b2 {s:ByteArray}{ah be v1 v2 v3 z1 z2 z3:Int}:(lfun numG nol 60 Try.f181 [StrA s,I64 ah,I64 be] []).go (dN 12 191)=some ([decide (((s.size:Nat):Int)>(0:Int)),true,true,decide ((0:Int)<((s.size:Nat):Int)),true,true,!bt s (0:Int)==(45:Int),yes (s.size<2^40/\(0:Int)<=(0:Int)/\(0:Int)<=((s.size:Nat):Int)),!decide (((dgN s 0:Nat):Int)<(1:Int)),true,true,true,decide (((dgN s 0:Nat):Int)>ah)],.tup [I64 0,.c (.v (.string { data:=#[] })),Bo false],[]):=by kernel_rfl
theorem nn_d1 {s:ByteArray}{ah be v1 v2 v3 z1 z2 z3:Int}:(lfun numG (byReg 10 (tell (bodyOf Try.f181 0) (nu1 s be (bt s 0==45) 0 ((dgN s (0:Int).toNat:Nat):Int) 0 0) (.exit 0,(nu1 s be (bt s 0==45) 0 ((dgN s (0:Int).toNat:Nat):Int) v1 z1))) (tell (bodyOf Try.f181 2) (nu3 s be (bt s 0==45) (w64 (0+((dgN s (0:Int).toNat:Nat):Int))) v1 0) (.exit 4,(nu3 s be (bt s 0==45) (w64 (0+((dgN s (0:Int).toNat:Nat):Int))) v3 z3)))) 60 Try.f181 [StrA s,I64 ah,I64 be] []).go (dN 22 1056959)=some ([decide (((s.size:Nat):Int)>(0:Int)),true,true,decide ((0:Int)<((s.size:Nat):Int)),true,true,!bt s (0:Int)==(45:Int),yes (s.size<2^40/\(0:Int)<=(0:Int)/\(0:Int)<=((s.size:Nat):Int)),!decide (((dgN s 0:Nat):Int)<(1:Int)),true,true,true,!decide (((dgN s 0:Nat):Int)>ah),yes (wasS (bodyOf Try.f181 0) (nu1 s be (bt s 0==45) 0 ((dgN s (0:Int).toNat:Nat):Int) 0 0)),!decide (w64 ((0:Int)+((dgN s 0:Nat):Int))<((s.size:Nat):Int)),true,true,true,true,true,yes (wasS (bodyOf Try.f181 2) (nu3 s be (bt s 0==45) (w64 (0+((dgN s (0:Int).toNat:Nat):Int))) v1 0)),!bt s (0:Int)==(45:Int),decInt (w64 ((0:Int)+((dgN s 0:Nat):Int))) (((s.size:Nat):Int)) s.size],.tup [I64 v3,.c (.v (.string (s.extract (w64 ((0:Int)+((dgN s 0:Nat):Int))).toNat s.size))),Bo true],[]):=by kernel_rfl
theorem nn_d2 {s:ByteArray}{ah be v1 v2 v3 z1 z2 z3:Int}:(lfun numG (byReg 10 (tell (bodyOf Try.f181 0) (nu1 s be (bt s 0==45) 0 ((dgN s (0:Int).toNat:Nat):Int) 0 0) (.exit 0,(nu1 s be (bt s 0==45) 0 ((dgN s (0:Int).toNat:Nat):Int) v1 z1))) (tell (bodyOf Try.f181 2) (nu3 s be (bt s 0==45) (w64 (0+((dgN s (0:Int).toNat:Nat):Int))) v1 0) (.exit 4,(nu3 s be (bt s 0==45) (w64 (0+((dgN s (0:Int).toNat:Nat):Int))) v3 z3)))) 60 Try.f181 [StrA s,I64 ah,I64 be] []).go (dN 24 6283455)=some ([decide (((s.size:Nat):Int)>(0:Int)),true,true,decide ((0:Int)<((s.size:Nat):Int)),true,true,!bt s (0:Int)==(45:Int),yes (s.size<2^40/\(0:Int)<=(0:Int)/\(0:Int)<=((s.size:Nat):Int)),!decide (((dgN s 0:Nat):Int)<(1:Int)),true,true,true,!decide (((dgN s 0:Nat):Int)>ah),yes (wasS (bodyOf Try.f181 0) (nu1 s be (bt s 0==45) 0 ((dgN s (0:Int).toNat:Nat):Int) 0 0)),decide (w64 ((0:Int)+((dgN s 0:Nat):Int))<((s.size:Nat):Int)),true,true,decide ((0:Int)<=w64 ((0:Int)+((dgN s 0:Nat):Int))),decide (w64 ((0:Int)+((dgN s 0:Nat):Int))<((s.size:Nat):Int)),true,true,!bt s (w64 ((0:Int)+((dgN s 0:Nat):Int)))==(46:Int),yes (wasS (bodyOf Try.f181 2) (nu3 s be (bt s 0==45) (w64 (0+((dgN s (0:Int).toNat:Nat):Int))) v1 0)),!bt s (0:Int)==(45:Int),decInt (w64 ((0:Int)+((dgN s 0:Nat):Int))) (((s.size:Nat):Int)) s.size],.tup [I64 v3,.c (.v (.string (s.extract (w64 ((0:Int)+((dgN s 0:Nat):Int))).toNat s.size))),Bo true],[]):=by kernel_rfl
theorem nn_k1 {s:ByteArray}{ah be v1 v2 v3 z1 z2 z3:Int}:(lfun numG (byReg 10 (tell (bodyOf Try.f181 0) (nu1 s be (bt s 0==45) 0 ((dgN s (0:Int).toNat:Nat):Int) 0 0) (.exit 0,(nu1 s be (bt s 0==45) 0 ((dgN s (0:Int).toNat:Nat):Int) v1 z1))) (tell (bodyOf Try.f181 2) (nu3 s be (bt s 0==45) (w64 (0+((dgN s (0:Int).toNat:Nat):Int))) v1 0) (.exit 4,(nu3 s be (bt s 0==45) (w64 (0+((dgN s (0:Int).toNat:Nat):Int))) v3 z3)))) 60 Try.f181 [StrA s,I64 ah,I64 be] []).go (dN 13 191)=some ([decide (((s.size:Nat):Int)>(0:Int)),true,true,decide ((0:Int)<((s.size:Nat):Int)),true,true,!bt s (0:Int)==(45:Int),yes (s.size<2^40/\(0:Int)<=(0:Int)/\(0:Int)<=((s.size:Nat):Int)),!decide (((dgN s 0:Nat):Int)<(1:Int)),true,true,true,!decide (((dgN s 0:Nat):Int)>ah),yes (wasS (bodyOf Try.f181 0) (nu1 s be (bt s 0==45) 0 ((dgN s (0:Int).toNat:Nat):Int) 0 0)),decide (w64 ((0:Int)+((dgN s 0:Nat):Int))<((s.size:Nat):Int)),true,true,decide ((0:Int)<=w64 ((0:Int)+((dgN s 0:Nat):Int))),decide (w64 ((0:Int)+((dgN s 0:Nat):Int))<((s.size:Nat):Int)),true,true,bt s (w64 ((0:Int)+((dgN s 0:Nat):Int)))==(46:Int),yes (s.size<2^40/\(0:Int)<=w64 (w64 ((0:Int)+((dgN s 0:Nat):Int))+(1:Int))/\w64 (w64 ((0:Int)+((dgN s 0:Nat):Int))+(1:Int))<=((s.size:Nat):Int)),decide (((dgN s (w64 (w64 ((0:Int)+((dgN s 0:Nat):Int))+(1:Int))).toNat:Nat):Int)<(1:Int)),true,true,true,true],.tup [I64 0,.c (.v (.string { data:=#[] })),Bo false],[]):=by kernel_rfl
theorem nn_k2 {s:ByteArray}{ah be v1 v2 v3 z1 z2 z3:Int}:(lfun numG (byReg 10 (tell (bodyOf Try.f181 0) (nu1 s be (bt s 0==45) 0 ((dgN s (0:Int).toNat:Nat):Int) 0 0) (.exit 0,(nu1 s be (bt s 0==45) 0 ((dgN s (0:Int).toNat:Nat):Int) v1 z1))) (tell (bodyOf Try.f181 2) (nu3 s be (bt s 0==45) (w64 (0+((dgN s (0:Int).toNat:Nat):Int))) v1 0) (.exit 4,(nu3 s be (bt s 0==45) (w64 (0+((dgN s (0:Int).toNat:Nat):Int))) v3 z3)))) 60 Try.f181 [StrA s,I64 ah,I64 be] []).go (dN 27 8380607)=some ([decide (((s.size:Nat):Int)>(0:Int)),true,true,decide ((0:Int)<((s.size:Nat):Int)),true,true,!bt s (0:Int)==(45:Int),yes (s.size<2^40/\(0:Int)<=(0:Int)/\(0:Int)<=((s.size:Nat):Int)),!decide (((dgN s 0:Nat):Int)<(1:Int)),true,true,true,!decide (((dgN s 0:Nat):Int)>ah),yes (wasS (bodyOf Try.f181 0) (nu1 s be (bt s 0==45) 0 ((dgN s (0:Int).toNat:Nat):Int) 0 0)),decide (w64 ((0:Int)+((dgN s 0:Nat):Int))<((s.size:Nat):Int)),true,true,decide ((0:Int)<=w64 ((0:Int)+((dgN s 0:Nat):Int))),decide (w64 ((0:Int)+((dgN s 0:Nat):Int))<((s.size:Nat):Int)),true,true,bt s (w64 ((0:Int)+((dgN s 0:Nat):Int)))==(46:Int),yes (s.size<2^40/\(0:Int)<=w64 (w64 ((0:Int)+((dgN s 0:Nat):Int))+(1:Int))/\w64 (w64 ((0:Int)+((dgN s 0:Nat):Int))+(1:Int))<=((s.size:Nat):Int)),!decide (((dgN s (w64 (w64 ((0:Int)+((dgN s 0:Nat):Int))+(1:Int))).toNat:Nat):Int)<(1:Int)),true,true,true,decide (((dgN s (w64 (w64 ((0:Int)+((dgN s 0:Nat):Int))+(1:Int))).toNat:Nat):Int)>be)],.tup [I64 0,.c (.v (.string { data:=#[] })),Bo false],[]):=by kernel_rfl
theorem nn_ok {s:ByteArray}{ah be v1 v2 v3 z1 z2 z3:Int}:(lfun numG (byReg 10 (tell (bodyOf Try.f181 0) (nu1 s be (bt s 0==45) 0 ((dgN s (0:Int).toNat:Nat):Int) 0 0) (.exit 0,(nu1 s be (bt s 0==45) 0 ((dgN s (0:Int).toNat:Nat):Int) v1 z1))) (byReg 20 (tell (bodyOf Try.f181 1) (nu2 s be (bt s 0==45) (w64 (0+((dgN s (0:Int).toNat:Nat):Int))) v1 ((dgN s (w64 ((w64 (0+((dgN s (0:Int).toNat:Nat):Int)))+1)).toNat:Nat):Int) 0) (.exit 2,(nu2 s be (bt s 0==45) (w64 (0+((dgN s (0:Int).toNat:Nat):Int))) v2 ((dgN s (w64 ((w64 (0+((dgN s (0:Int).toNat:Nat):Int)))+1)).toNat:Nat):Int) z2))) (tell (bodyOf Try.f181 2) (nu3 s be (bt s 0==45) (w64 (w64 ((w64 (0+((dgN s (0:Int).toNat:Nat):Int)))+1)+((dgN s (w64 ((w64 (0+((dgN s (0:Int).toNat:Nat):Int)))+1)).toNat:Nat):Int))) v2 ((dgN s (w64 ((w64 (0+((dgN s (0:Int).toNat:Nat):Int)))+1)).toNat:Nat):Int)) (.exit 4,(nu3 s be (bt s 0==45) (w64 (w64 ((w64 (0+((dgN s (0:Int).toNat:Nat):Int)))+1)+((dgN s (w64 ((w64 (0+((dgN s (0:Int).toNat:Nat):Int)))+1)).toNat:Nat):Int))) v3 z3))))) 60 Try.f181 [StrA s,I64 ah,I64 be] []).go (dN 31 813686975)=some ([decide (((s.size:Nat):Int)>(0:Int)),true,true,decide ((0:Int)<((s.size:Nat):Int)),true,true,!bt s (0:Int)==(45:Int),yes (s.size<2^40/\(0:Int)<=(0:Int)/\(0:Int)<=((s.size:Nat):Int)),!decide (((dgN s 0:Nat):Int)<(1:Int)),true,true,true,!decide (((dgN s 0:Nat):Int)>ah),yes (wasS (bodyOf Try.f181 0) (nu1 s be (bt s 0==45) 0 ((dgN s (0:Int).toNat:Nat):Int) 0 0)),decide (w64 ((0:Int)+((dgN s 0:Nat):Int))<((s.size:Nat):Int)),true,true,decide ((0:Int)<=w64 ((0:Int)+((dgN s 0:Nat):Int))),decide (w64 ((0:Int)+((dgN s 0:Nat):Int))<((s.size:Nat):Int)),true,true,bt s (w64 ((0:Int)+((dgN s 0:Nat):Int)))==(46:Int),yes (s.size<2^40/\(0:Int)<=w64 (w64 ((0:Int)+((dgN s 0:Nat):Int))+(1:Int))/\w64 (w64 ((0:Int)+((dgN s 0:Nat):Int))+(1:Int))<=((s.size:Nat):Int)),!decide (((dgN s (w64 (w64 ((0:Int)+((dgN s 0:Nat):Int))+(1:Int))).toNat:Nat):Int)<(1:Int)),true,true,true,!decide (((dgN s (w64 (w64 ((0:Int)+((dgN s 0:Nat):Int))+(1:Int))).toNat:Nat):Int)>be),yes (wasS (bodyOf Try.f181 1) (nu2 s be (bt s 0==45) (w64 (0+((dgN s (0:Int).toNat:Nat):Int))) v1 ((dgN s (w64 ((w64 (0+((dgN s (0:Int).toNat:Nat):Int)))+1)).toNat:Nat):Int) 0)),yes (wasS (bodyOf Try.f181 2) (nu3 s be (bt s 0==45) (w64 (w64 ((w64 (0+((dgN s (0:Int).toNat:Nat):Int)))+1)+((dgN s (w64 ((w64 (0+((dgN s (0:Int).toNat:Nat):Int)))+1)).toNat:Nat):Int))) v2 ((dgN s (w64 ((w64 (0+((dgN s (0:Int).toNat:Nat):Int)))+1)).toNat:Nat):Int))),!bt s (0:Int)==(45:Int),decInt (w64 (w64 (w64 ((0:Int)+((dgN s 0:Nat):Int))+(1:Int))+((dgN s (w64 (w64 ((0:Int)+((dgN s 0:Nat):Int))+(1:Int))).toNat:Nat):Int))) (((s.size:Nat):Int)) s.size],.tup [I64 v3,.c (.v (.string (s.extract (w64 (w64 (w64 ((0:Int)+((dgN s 0:Nat):Int))+(1:Int))+((dgN s (w64 (w64 ((0:Int)+((dgN s 0:Nat):Int))+(1:Int))).toNat:Nat):Int))).toNat s.size))),Bo true],[]):=by kernel_rfl
theorem nz {s:ByteArray}{ah be v1 v2 v3 z1 z2 z3:Int}:(lfun numG nol 60 Try.f181 [StrA s,I64 ah,I64 be] []).go (dN 5 0)=some ([!decide (((s.size:Nat):Int)>(0:Int)),true,true,true,true,yes (s.size<2^40/\(0:Int)<=(0:Int)/\(0:Int)<=((s.size:Nat):Int)),decide (((dgN s 0:Nat):Int)<(1:Int)),true,true,true,true],.tup [I64 0,.c (.v (.string { data:=#[] })),Bo false],[]):=by kernel_rfl
end
section
open Go Go.RowKit
theorem CodeSem.of_eq' {G:Ctx2}{n0:Nat}{c:Code}{S S':St}{r:Ex × St}(e:S=S') (h:CodeSem G n0 c S r):CodeSem G n0 c S' r:=e ▸ h
end
section
open Go Go.RowKit
theorem nu1_loop {s:ByteArray}{be:Int}{ng:Bool}{a n:Nat}(hs:s.size<2^40) (ha:a+n<=s.size):∀ d i v,i+d=n->∃ v',LoopR numG 0 (bodyOf Try.f181 0) (nu1 s be ng a n v (i:Nat)) (.exit 0,nu1 s be ng a n v' n)
 | 0,i,v,h=>⟨v,by
  rw [show i=n by omega]
  exact LoopR.stop (by simp) (rT_sem numG_ok noLoopsS (rT_go nu1_e ⟨by simp,trivial⟩))⟩
 | d+1,i,v,h=>by
  have e3:=succ64 (j:=i) (by omega)
  have w:w64 ((a:Int)+(i:Int))=((a+i:Nat):Int):=by rw [w64_id (by omega) (by omega)];omega
  obtain ⟨b0,b1⟩:=bt_lt s (a+i:Nat)
  obtain ⟨v',hv⟩:=nu1_loop (be:=be) (ng:=ng) hs ha d (i+1) _ (by omega)
  refine ⟨v',LoopR.next ?_ hv⟩
  refine rT_sem numG_ok noLoopsS ((rT_go nu1_go ?_).trans ?_)
  ·try simp only [Int.toNat_natCast,Nat.zero_add,e3,w]
   repeat' (first|exact AllT.nil|refine AllT.cons ?_ ?_)
   all_goals first|(with_reducible rfl)|(with_reducible assumption)|exact yes_of ⟨rfl,rfl⟩|exact decide_eq_true (by omega)|exact beq_iff_eq.2 (by omega)|(simp;done)|(simp;omega)
  ·try simp only [Int.toNat_natCast,Nat.zero_add,e3,w]
   rfl
theorem nu2_loop {s:ByteArray}{be:Int}{ng:Bool}{a n:Nat}(hs:s.size<2^40) (ha:a+1+n<=s.size):∀ d i v,i+d=n->∃ v',LoopR numG 0 (bodyOf Try.f181 1) (nu2 s be ng a v n (i:Nat)) (.exit 2,nu2 s be ng a v' n n)
 | 0,i,v,h=>⟨v,by
  rw [show i=n by omega]
  exact LoopR.stop (by simp) (rT_sem numG_ok noLoopsS (rT_go nu2_e ⟨by simp,trivial⟩))⟩
 | d+1,i,v,h=>by
  have e3:=succ64 (j:=i) (by omega)
  have w0:w64 ((a:Int)+1)=((a+1:Nat):Int):=succ64 (by omega)
  have w:w64 (((a+1:Nat):Int)+(i:Int))=((a+1+i:Nat):Int):=by rw [w64_id (by omega) (by omega)];omega
  obtain ⟨b0,b1⟩:=bt_lt s (a+1+i:Nat)
  obtain ⟨v',hv⟩:=nu2_loop (be:=be) (ng:=ng) hs ha d (i+1) _ (by omega)
  refine ⟨v',LoopR.next ?_ hv⟩
  refine rT_sem numG_ok noLoopsS ((rT_go nu2_go ?_).trans ?_)
  ·try simp only [Int.toNat_natCast,Nat.zero_add,e3,w0,w]
   repeat' (first|exact AllT.nil|refine AllT.cons ?_ ?_)
   all_goals first|(with_reducible rfl)|(with_reducible assumption)|exact yes_of ⟨rfl,rfl⟩|exact decide_eq_true (by omega)|exact beq_iff_eq.2 (by omega)|(simp;done)|(simp;omega)
  ·try simp only [Int.toNat_natCast,Nat.zero_add,e3,w0,w]
   rfl
theorem nu3_loop {s:ByteArray}{be:Nat}{ng:Bool}{a:Int}(hb:be<=10):∀ d i v,i+d=be->∃ v',LoopR numG 0 (bodyOf Try.f181 2) (nu3 s be ng a v (i:Nat)) (.exit 4,nu3 s be ng a v' be)
 | 0,i,v,h=>⟨v,by
  rw [show i=be by omega]
  exact LoopR.stop (by simp) (rT_sem numG_ok noLoopsS (rT_go nu3_e ⟨by simp,trivial⟩))⟩
 | d+1,i,v,h=>by
  have e3:=succ64 (j:=i) (by omega)
  obtain ⟨v',hv⟩:=nu3_loop (s:=s) (ng:=ng) (a:=a) hb d (i+1) _ (by omega)
  refine ⟨v',LoopR.next ?_ hv⟩
  refine rT_sem numG_ok noLoopsS ((rT_go nu3_go ?_).trans ?_)
  ·try simp only [Int.toNat_natCast,Nat.zero_add,e3]
   repeat' (first|exact AllT.nil|refine AllT.cons ?_ ?_)
   all_goals first|(with_reducible rfl)|(with_reducible assumption)|exact yes_of ⟨rfl,rfl⟩|exact decide_eq_true (by omega)|exact beq_iff_eq.2 (by omega)|(simp;done)|(simp;omega)
  ·try simp only [Int.toNat_natCast,Nat.zero_add,e3]
   rfl
def NuRes (s:ByteArray) (ah be:Int) (r:Int × ByteArray × Bool):Prop:=r.2.1.size<=s.size/\∃ ℓ,LoopsSem numG 0 ℓ/\(lfun numG ℓ 60 Try.f181 [StrA s,I64 ah,I64 be] []).eval=some (.tup [I64 r.1,StrA r.2.1,Bo r.2.2],[])
theorem ext_size (s:ByteArray) (a b:Nat):(s.extract a b).size<=s.size:=by
 simp only [ByteArray.size_extract];omega
theorem np_ex {s:ByteArray}{ah:Int}{be:Nat}(hs:s.size<2^40) (hb:be<=10) (hz:0<s.size) (hc:(bt s 0==45)=true):∃ r,NuRes s ah be r:=by
 have hd:=dgN_b (s:=s) (a:=1) (by omega)
 by_cases c1:((dgN s 1:Nat):Int)<1
 ·refine ⟨(0,⟨#[]⟩,false),Nat.zero_le _,nol,noLoopsS,(Tr.go_eval (np_b1 (v1:=0) (v2:=0) (v3:=0) (z1:=0) (z2:=0) (z3:=0)) ?_).trans rfl⟩
  repeat' (first|exact AllT.nil|refine AllT.cons ?_ ?_)
  all_goals first|(with_reducible rfl)|(with_reducible assumption)|exact yes_of ⟨rfl,rfl⟩|exact yes_of ⟨hs,by omega,by omega⟩|exact decide_eq_true (by omega)|(rw [decide_eq_false (by omega)];rfl)|exact beq_iff_eq.2 (by omega)|(simp;done)|(simp;omega)
 by_cases c2:((dgN s 1:Nat):Int)>ah
 ·refine ⟨(0,⟨#[]⟩,false),Nat.zero_le _,nol,noLoopsS,(Tr.go_eval (np_b2 (v1:=0) (v2:=0) (v3:=0) (z1:=0) (z2:=0) (z3:=0)) ?_).trans rfl⟩
  repeat' (first|exact AllT.nil|refine AllT.cons ?_ ?_)
  all_goals first|(with_reducible rfl)|(with_reducible assumption)|exact yes_of ⟨rfl,rfl⟩|exact yes_of ⟨hs,by omega,by omega⟩|exact decide_eq_true (by omega)|(rw [decide_eq_false (by omega)];rfl)|exact beq_iff_eq.2 (by omega)|(simp;done)|(simp;omega)
 obtain ⟨v1,l1⟩:=nu1_loop (s:=s) (be:=be) (ng:=bt s 0==45) (a:=1) (n:=dgN s 1) hs (by omega) (dgN s 1) 0 0 (by omega)
 have w1:w64 ((1:Int)+((dgN s 1:Nat):Int))=((1+dgN s 1:Nat):Int):=by rw [w64_id (by omega) (by omega)];omega
 have w2:w64 (((1+dgN s 1:Nat):Int)+1)=((1+dgN s 1+1:Nat):Int):=succ64 (by omega)
 by_cases c3:1+dgN s 1<s.size
 ·by_cases c4:bt s ((1+dgN s 1:Nat):Int)=46
  ·have hk:=dgN_b (s:=s) (a:=1+dgN s 1+1) (by omega)
   obtain ⟨v3,l3⟩:=nu3_loop (s:=s) (be:=be) (ng:=bt s 0==45) (a:=w64 ((1:Int)+((dgN s 1:Nat):Int))) hb be 0 v1 (by omega)
   by_cases c5:((dgN s (1+dgN s 1+1):Nat):Int)<1
   ·refine ⟨(0,⟨#[]⟩,false),Nat.zero_le _,_,byReg_sem (r:=10) (tell_ok l1.sem) (tell_ok l3.sem),(Tr.go_eval (np_k1 (v1:=v1) (v2:=0) (v3:=v3) (z1:=(dgN s 1:Nat)) (z2:=0) (z3:=be)) ?_).trans rfl⟩
    simp only [Int.toNat_natCast,w1,w2]
    repeat' (first|exact AllT.nil|refine AllT.cons ?_ ?_)
    all_goals first|(with_reducible rfl)|(with_reducible assumption)|exact yes_of ⟨rfl,rfl⟩|exact yes_of ⟨hs,by omega,by omega⟩|exact decide_eq_true (by omega)|(rw [decide_eq_false (by omega)];rfl)|exact beq_iff_eq.2 (by omega)|(simp;done)|(simp;omega)
   by_cases c6:((dgN s (1+dgN s 1+1):Nat):Int)>be
   ·refine ⟨(0,⟨#[]⟩,false),Nat.zero_le _,_,byReg_sem (r:=10) (tell_ok l1.sem) (tell_ok l3.sem),(Tr.go_eval (np_k2 (v1:=v1) (v2:=0) (v3:=v3) (z1:=(dgN s 1:Nat)) (z2:=0) (z3:=be)) ?_).trans rfl⟩
    simp only [Int.toNat_natCast,w1,w2]
    repeat' (first|exact AllT.nil|refine AllT.cons ?_ ?_)
    all_goals first|(with_reducible rfl)|(with_reducible assumption)|exact yes_of ⟨rfl,rfl⟩|exact yes_of ⟨hs,by omega,by omega⟩|exact decide_eq_true (by omega)|(rw [decide_eq_false (by omega)];rfl)|exact beq_iff_eq.2 (by omega)|(simp;done)|(simp;omega)
   clear l3
   obtain ⟨v2,l2⟩:=nu2_loop (s:=s) (be:=be) (ng:=bt s 0==45) (a:=1+dgN s 1) (n:=dgN s (1+dgN s 1+1)) hs (by omega) (dgN s (1+dgN s 1+1)) 0 v1 (by omega)
   have w3:w64 (((1+dgN s 1+1:Nat):Int)+((dgN s (1+dgN s 1+1):Nat):Int))=((1+dgN s 1+1+dgN s (1+dgN s 1+1):Nat):Int):=by rw [w64_id (by omega) (by omega)];omega
   obtain ⟨v4,l4⟩:=nu3_loop (s:=s) (be:=be) (ng:=bt s 0==45) (a:=((1+dgN s 1+1+dgN s (1+dgN s 1+1):Nat):Int)) hb (be-dgN s (1+dgN s 1+1)) (dgN s (1+dgN s 1+1)) v2 (by omega)
   have l2':=CodeSem.of_eq' (S':=nu2 s be (bt s 0==45) (w64 ((1:Int)+((dgN s (1:Int).toNat:Nat):Int))) v1 ((dgN s (w64 (w64 ((1:Int)+((dgN s (1:Int).toNat:Nat):Int))+1)).toNat:Nat):Int) 0) (by
    have e:dgN s (1:Int).toNat=dgN s 1:=rfl
    rw [e,w1,w2,Int.toNat_natCast];rfl) l2.sem
   have l4':=CodeSem.of_eq' (S':=nu3 s be (bt s 0==45) (w64 (w64 (w64 ((1:Int)+((dgN s (1:Int).toNat:Nat):Int))+1)+((dgN s (w64 (w64 ((1:Int)+((dgN s (1:Int).toNat:Nat):Int))+1)).toNat:Nat):Int))) v2 ((dgN s (w64 (w64 ((1:Int)+((dgN s (1:Int).toNat:Nat):Int))+1)).toNat:Nat):Int)) (by
    have e:dgN s (1:Int).toNat=dgN s 1:=rfl
    rw [e,w1,w2,Int.toNat_natCast,w3]) l4.sem
   have hw:=np_ok (s:=s) (ah:=ah) (be:=be) (v1:=v1) (v2:=v2) (v3:=v4) (z1:=(dgN s 1:Nat)) (z2:=(dgN s (1+dgN s 1+1):Nat)) (z3:=be)
   have ee:dgN s (1:Int).toNat=dgN s 1:=rfl
   simp only [ee,w1,w2,w3,Int.toNat_natCast] at hw l2' l4'
   refine ⟨(_,_,_),?_,_,byReg_sem (r:=10) (tell_ok l1.sem) (byReg_sem (r:=20) (tell_ok l2') (tell_ok l4')),(Tr.go_eval hw ?_).trans rfl⟩
   ·exact ext_size _ _ _
   ·repeat' (first|exact AllT.nil|refine AllT.cons ?_ ?_)
    all_goals first|(with_reducible rfl)|(with_reducible assumption)|exact yes_of ⟨rfl,rfl⟩|(unfold decInt;simp only [Bool.and_eq_true,decide_eq_true_eq];omega)|exact yes_of ⟨hs,by omega,by omega⟩|exact decide_eq_true (by omega)|(rw [decide_eq_false (by omega)];rfl)|exact beq_iff_eq.2 (by omega)|(simp;done)|(simp;omega)
  ·have c4':(!(bt s ((1+dgN s 1:Nat):Int)==46))=true:=by simpa using c4
   obtain ⟨v3,l3⟩:=nu3_loop (s:=s) (be:=be) (ng:=bt s 0==45) (a:=w64 ((1:Int)+((dgN s 1:Nat):Int))) hb be 0 v1 (by omega)
   refine ⟨(_,_,_),?_,_,byReg_sem (r:=10) (tell_ok l1.sem) (tell_ok l3.sem),(Tr.go_eval (np_d2 (v1:=v1) (v2:=0) (v3:=v3) (z1:=(dgN s 1:Nat)) (z2:=0) (z3:=be)) ?_).trans rfl⟩
   ·exact ext_size _ _ _
   ·simp only [Int.toNat_natCast,w1]
    repeat' (first|exact AllT.nil|refine AllT.cons ?_ ?_)
    all_goals first|(with_reducible rfl)|(with_reducible assumption)|exact yes_of ⟨rfl,rfl⟩|(unfold decInt;simp only [Bool.and_eq_true,decide_eq_true_eq];omega)|exact yes_of ⟨hs,by omega,by omega⟩|exact decide_eq_true (by omega)|(rw [decide_eq_false (by omega)];rfl)|exact beq_iff_eq.2 (by omega)|(simp;done)|(simp;omega)
 ·obtain ⟨v3,l3⟩:=nu3_loop (s:=s) (be:=be) (ng:=bt s 0==45) (a:=w64 ((1:Int)+((dgN s 1:Nat):Int))) hb be 0 v1 (by omega)
  refine ⟨(_,_,_),?_,_,byReg_sem (r:=10) (tell_ok l1.sem) (tell_ok l3.sem),(Tr.go_eval (np_d1 (v1:=v1) (v2:=0) (v3:=v3) (z1:=(dgN s 1:Nat)) (z2:=0) (z3:=be)) ?_).trans rfl⟩
  ·exact ext_size _ _ _
  ·simp only [Int.toNat_natCast,w1]
   repeat' (first|exact AllT.nil|refine AllT.cons ?_ ?_)
   all_goals first|(with_reducible rfl)|(with_reducible assumption)|exact yes_of ⟨rfl,rfl⟩|(unfold decInt;simp only [Bool.and_eq_true,decide_eq_true_eq];omega)|exact yes_of ⟨hs,by omega,by omega⟩|exact decide_eq_true (by omega)|(rw [decide_eq_false (by omega)];rfl)|exact beq_iff_eq.2 (by omega)|(simp;done)|(simp;omega)
theorem nn_ex {s:ByteArray}{ah:Int}{be:Nat}(hs:s.size<2^40) (hb:be<=10) (hz:0<s.size) (hc:(!(bt s 0==45))=true):∃ r,NuRes s ah be r:=by
 have hd:=dgN_b (s:=s) (a:=0) (by omega)
 by_cases c1:((dgN s 0:Nat):Int)<1
 ·refine ⟨(0,⟨#[]⟩,false),Nat.zero_le _,nol,noLoopsS,(Tr.go_eval (nn_b1 (v1:=0) (v2:=0) (v3:=0) (z1:=0) (z2:=0) (z3:=0)) ?_).trans rfl⟩
  repeat' (first|exact AllT.nil|refine AllT.cons ?_ ?_)
  all_goals first|(with_reducible rfl)|(with_reducible assumption)|exact yes_of ⟨rfl,rfl⟩|exact yes_of ⟨hs,by omega,by omega⟩|exact decide_eq_true (by omega)|(rw [decide_eq_false (by omega)];rfl)|exact beq_iff_eq.2 (by omega)|(simp;done)|(simp;omega)
 by_cases c2:((dgN s 0:Nat):Int)>ah
 ·refine ⟨(0,⟨#[]⟩,false),Nat.zero_le _,nol,noLoopsS,(Tr.go_eval (nn_b2 (v1:=0) (v2:=0) (v3:=0) (z1:=0) (z2:=0) (z3:=0)) ?_).trans rfl⟩
  repeat' (first|exact AllT.nil|refine AllT.cons ?_ ?_)
  all_goals first|(with_reducible rfl)|(with_reducible assumption)|exact yes_of ⟨rfl,rfl⟩|exact yes_of ⟨hs,by omega,by omega⟩|exact decide_eq_true (by omega)|(rw [decide_eq_false (by omega)];rfl)|exact beq_iff_eq.2 (by omega)|(simp;done)|(simp;omega)
 obtain ⟨v1,l1⟩:=nu1_loop (s:=s) (be:=be) (ng:=bt s 0==45) (a:=0) (n:=dgN s 0) hs (by omega) (dgN s 0) 0 0 (by omega)
 have w1:w64 ((0:Int)+((dgN s 0:Nat):Int))=((0+dgN s 0:Nat):Int):=by rw [w64_id (by omega) (by omega)];omega
 have w2:w64 (((0+dgN s 0:Nat):Int)+1)=((0+dgN s 0+1:Nat):Int):=succ64 (by omega)
 by_cases c3:0+dgN s 0<s.size
 ·by_cases c4:bt s ((0+dgN s 0:Nat):Int)=46
  ·have hk:=dgN_b (s:=s) (a:=0+dgN s 0+1) (by omega)
   obtain ⟨v3,l3⟩:=nu3_loop (s:=s) (be:=be) (ng:=bt s 0==45) (a:=w64 ((0:Int)+((dgN s 0:Nat):Int))) hb be 0 v1 (by omega)
   by_cases c5:((dgN s (0+dgN s 0+1):Nat):Int)<1
   ·refine ⟨(0,⟨#[]⟩,false),Nat.zero_le _,_,byReg_sem (r:=10) (tell_ok l1.sem) (tell_ok l3.sem),(Tr.go_eval (nn_k1 (v1:=v1) (v2:=0) (v3:=v3) (z1:=(dgN s 0:Nat)) (z2:=0) (z3:=be)) ?_).trans rfl⟩
    simp only [Int.toNat_natCast,w1,w2]
    repeat' (first|exact AllT.nil|refine AllT.cons ?_ ?_)
    all_goals first|(with_reducible rfl)|(with_reducible assumption)|exact yes_of ⟨rfl,rfl⟩|exact yes_of ⟨hs,by omega,by omega⟩|exact decide_eq_true (by omega)|(rw [decide_eq_false (by omega)];rfl)|exact beq_iff_eq.2 (by omega)|(simp;done)|(simp;omega)
   by_cases c6:((dgN s (0+dgN s 0+1):Nat):Int)>be
   ·refine ⟨(0,⟨#[]⟩,false),Nat.zero_le _,_,byReg_sem (r:=10) (tell_ok l1.sem) (tell_ok l3.sem),(Tr.go_eval (nn_k2 (v1:=v1) (v2:=0) (v3:=v3) (z1:=(dgN s 0:Nat)) (z2:=0) (z3:=be)) ?_).trans rfl⟩
    simp only [Int.toNat_natCast,w1,w2]
    repeat' (first|exact AllT.nil|refine AllT.cons ?_ ?_)
    all_goals first|(with_reducible rfl)|(with_reducible assumption)|exact yes_of ⟨rfl,rfl⟩|exact yes_of ⟨hs,by omega,by omega⟩|exact decide_eq_true (by omega)|(rw [decide_eq_false (by omega)];rfl)|exact beq_iff_eq.2 (by omega)|(simp;done)|(simp;omega)
   clear l3
   obtain ⟨v2,l2⟩:=nu2_loop (s:=s) (be:=be) (ng:=bt s 0==45) (a:=0+dgN s 0) (n:=dgN s (0+dgN s 0+1)) hs (by omega) (dgN s (0+dgN s 0+1)) 0 v1 (by omega)
   have w3:w64 (((0+dgN s 0+1:Nat):Int)+((dgN s (0+dgN s 0+1):Nat):Int))=((0+dgN s 0+1+dgN s (0+dgN s 0+1):Nat):Int):=by rw [w64_id (by omega) (by omega)];omega
   obtain ⟨v4,l4⟩:=nu3_loop (s:=s) (be:=be) (ng:=bt s 0==45) (a:=((0+dgN s 0+1+dgN s (0+dgN s 0+1):Nat):Int)) hb (be-dgN s (0+dgN s 0+1)) (dgN s (0+dgN s 0+1)) v2 (by omega)
   have l2':=CodeSem.of_eq' (S':=nu2 s be (bt s 0==45) (w64 ((0:Int)+((dgN s (0:Int).toNat:Nat):Int))) v1 ((dgN s (w64 (w64 ((0:Int)+((dgN s (0:Int).toNat:Nat):Int))+1)).toNat:Nat):Int) 0) (by
    have e:dgN s (0:Int).toNat=dgN s 0:=rfl
    rw [e,w1,w2,Int.toNat_natCast];rfl) l2.sem
   have l4':=CodeSem.of_eq' (S':=nu3 s be (bt s 0==45) (w64 (w64 (w64 ((0:Int)+((dgN s (0:Int).toNat:Nat):Int))+1)+((dgN s (w64 (w64 ((0:Int)+((dgN s (0:Int).toNat:Nat):Int))+1)).toNat:Nat):Int))) v2 ((dgN s (w64 (w64 ((0:Int)+((dgN s (0:Int).toNat:Nat):Int))+1)).toNat:Nat):Int)) (by
    have e:dgN s (0:Int).toNat=dgN s 0:=rfl
    rw [e,w1,w2,Int.toNat_natCast,w3]) l4.sem
   have hw:=nn_ok (s:=s) (ah:=ah) (be:=be) (v1:=v1) (v2:=v2) (v3:=v4) (z1:=(dgN s 0:Nat)) (z2:=(dgN s (0+dgN s 0+1):Nat)) (z3:=be)
   have ee:dgN s (0:Int).toNat=dgN s 0:=rfl
   simp only [ee,w1,w2,w3,Int.toNat_natCast] at hw l2' l4'
   refine ⟨(_,_,_),?_,_,byReg_sem (r:=10) (tell_ok l1.sem) (byReg_sem (r:=20) (tell_ok l2') (tell_ok l4')),(Tr.go_eval hw ?_).trans rfl⟩
   ·exact ext_size _ _ _
   ·repeat' (first|exact AllT.nil|refine AllT.cons ?_ ?_)
    all_goals first|(with_reducible rfl)|(with_reducible assumption)|exact yes_of ⟨rfl,rfl⟩|(unfold decInt;simp only [Bool.and_eq_true,decide_eq_true_eq];omega)|exact yes_of ⟨hs,by omega,by omega⟩|exact decide_eq_true (by omega)|(rw [decide_eq_false (by omega)];rfl)|exact beq_iff_eq.2 (by omega)|(simp;done)|(simp;omega)
  ·have c4':(!(bt s ((0+dgN s 0:Nat):Int)==46))=true:=by simpa using c4
   obtain ⟨v3,l3⟩:=nu3_loop (s:=s) (be:=be) (ng:=bt s 0==45) (a:=w64 ((0:Int)+((dgN s 0:Nat):Int))) hb be 0 v1 (by omega)
   refine ⟨(_,_,_),?_,_,byReg_sem (r:=10) (tell_ok l1.sem) (tell_ok l3.sem),(Tr.go_eval (nn_d2 (v1:=v1) (v2:=0) (v3:=v3) (z1:=(dgN s 0:Nat)) (z2:=0) (z3:=be)) ?_).trans rfl⟩
   ·exact ext_size _ _ _
   ·simp only [Int.toNat_natCast,w1]
    repeat' (first|exact AllT.nil|refine AllT.cons ?_ ?_)
    all_goals first|(with_reducible rfl)|(with_reducible assumption)|exact yes_of ⟨rfl,rfl⟩|(unfold decInt;simp only [Bool.and_eq_true,decide_eq_true_eq];omega)|exact yes_of ⟨hs,by omega,by omega⟩|exact decide_eq_true (by omega)|(rw [decide_eq_false (by omega)];rfl)|exact beq_iff_eq.2 (by omega)|(simp;done)|(simp;omega)
 ·obtain ⟨v3,l3⟩:=nu3_loop (s:=s) (be:=be) (ng:=bt s 0==45) (a:=w64 ((0:Int)+((dgN s 0:Nat):Int))) hb be 0 v1 (by omega)
  refine ⟨(_,_,_),?_,_,byReg_sem (r:=10) (tell_ok l1.sem) (tell_ok l3.sem),(Tr.go_eval (nn_d1 (v1:=v1) (v2:=0) (v3:=v3) (z1:=(dgN s 0:Nat)) (z2:=0) (z3:=be)) ?_).trans rfl⟩
  ·exact ext_size _ _ _
  ·simp only [Int.toNat_natCast,w1]
   repeat' (first|exact AllT.nil|refine AllT.cons ?_ ?_)
   all_goals first|(with_reducible rfl)|(with_reducible assumption)|exact yes_of ⟨rfl,rfl⟩|(unfold decInt;simp only [Bool.and_eq_true,decide_eq_true_eq];omega)|exact yes_of ⟨hs,by omega,by omega⟩|exact decide_eq_true (by omega)|(rw [decide_eq_false (by omega)];rfl)|exact beq_iff_eq.2 (by omega)|(simp;done)|(simp;omega)
theorem nu_ex {s:ByteArray}{ah:Int}{be:Nat}(hs:s.size<2^40) (hb:be<=10):∃ r,NuRes s ah be r:=by
 rcases Nat.eq_zero_or_pos s.size with hz|hz
 ·have hd:=dgN_b (s:=s) (a:=0) (by omega)
  refine ⟨(0,⟨#[]⟩,false),Nat.zero_le _,nol,noLoopsS,(Tr.go_eval (nz (v1:=0) (v2:=0) (v3:=0) (z1:=0) (z2:=0) (z3:=0)) ?_).trans rfl⟩
  repeat' (first|exact AllT.nil|refine AllT.cons ?_ ?_)
  all_goals first|(with_reducible rfl)|(with_reducible assumption)|exact yes_of ⟨rfl,rfl⟩|exact yes_of ⟨hs,by omega,by omega⟩|exact decide_eq_true (by omega)|(rw [decide_eq_false (by omega)];rfl)|exact beq_iff_eq.2 (by omega)|(simp;done)|(simp;omega)
 ·cases hc:(bt s 0==45)
  ·exact nn_ex hs hb hz (by rw [hc];rfl)
  ·exact np_ex hs hb hz hc
open Classical in
noncomputable def nuR (s:ByteArray) (ah be:Int):Int × ByteArray × Bool:=if h:∃ r,NuRes s ah be r then Classical.choose h else (0,⟨#[]⟩,false)
theorem nuR_ok {s:ByteArray}{ah:Int}{be:Nat}(hs:s.size<2^40) (hb:be<=10):NuRes s ah be (nuR s ah be):=by
 have h:=nu_ex (ah:=ah) hs hb
 unfold nuR
 rw [dif_pos h]
 exact Classical.choose_spec h
noncomputable def nuF:Spec:=fun args h=>match args,h with
 | [.c (.v (.string s)),.c (.v (.int .i64 ah)),.c (.v (.int .i64 be))],[]=>.need (yes (s.size<2^40/\0<=be/\be<=10)) (.ret (.tup [I64 (nuR s ah be).1,StrA (nuR s ah be).2.1,Bo (nuR s ah be).2.2],[]))
 | _,_=>.fail
theorem nuF_ok:SpecOk Try.prog 181 nuF:=by
 refine knownS KNU_ok Try.func181 fun args h r he=>?_
 unfold nuF at he
 split at he
 ·rename_i s ah be
  obtain ⟨⟨h1,h2,h3⟩,he⟩:=Tr.eval_ask.1 he
  cases he
  obtain ⟨n,rfl⟩:=Int.eq_ofNat_of_zero_le h2
  obtain ⟨_,ℓ,hl,hw⟩:=nuR_ok (ah:=ah) h1 (show n<=10 by omega)
  exact ⟨_,[],60,ℓ,hl,hw⟩
 ·cases he
end
section
open Go Go.RowKit
theorem bif_ex {α β:Type}{c:Bool}{A B:Option α}{f:β->Option α}(h1:∃ v,A=f v) (h2:∃ v,B=f v):∃ v,(bif c then A else B)=f v:=by cases c <;> assumption
noncomputable def KPH:Known:=[(150,afun (GK [] (fun _=>[]) 0) 60 Try.f150)]
theorem KPH_ok:KnownOk KPH:=consK (known0 nilK 60 Try.func150) (by kernel_rfl) nilK
noncomputable def KPX0:Known:=[(150,afun (GK [] (fun _=>[]) 0) 60 Try.f150),(155,afun (GK [] (fun _=>[]) 0) 60 Try.f155),(184,afun (GK KPH (fun _=>[]) 0) 60 Try.f184)]
theorem KPX0_ok:KnownOk KPX0:=consK (known0 nilK 60 Try.func150) (by kernel_rfl) (consK (known0 nilK 60 Try.func155) (by kernel_rfl) (consK (known0 KPH_ok 60 Try.func184) (by kernel_rfl) nilK))
noncomputable def px0G:Ctx2:=GT KPX0 (fun _=>[]) 0 []
theorem px_nf {t:Int}:(lfun px0G nol 60 Try.f182 [I64 t] []).eval=bif decide ((w64 (w64 ((64:Int)*mnI (1000000000000:Int) (mxI (-1000000000000:Int) t))+(500:Int))).tmod 1000<(0:Int)) then some (I64 (mnI (1073741824:Int) (mxI (-1073741824:Int) (w64 (w64 ((w64 (w64 ((64:Int)*mnI (1000000000000:Int) (mxI (-1000000000000:Int) t))+(500:Int))).tdiv (1000:Int))-(1:Int))))),[]) else some (I64 (mnI (1073741824:Int) (mxI (-1073741824:Int) (w64 ((w64 (w64 ((64:Int)*mnI (1000000000000:Int) (mxI (-1000000000000:Int) t))+(500:Int))).tdiv (1000:Int))))),[]):=by kernel_rfl
theorem px_ex (t:Int):∃ v,(lfun px0G nol 60 Try.f182 [I64 t] []).eval=some (I64 v,[]):=by
 rw [px_nf]
 repeat' (first|exact ⟨_,rfl⟩|refine bif_ex ?_ ?_)
noncomputable def pxR (t:Int):Int:=Classical.choose (px_ex t)
noncomputable def px1F:Spec:=fun args h=>match args,h with
 | [.c (.v (.int .i64 t))],[]=>.ret (I64 (pxR t),[])
 | _,_=>.fail
theorem px1F_ok:SpecOk Try.prog 182 px1F:=by
 refine knownS KPX0_ok Try.func182 fun args h r he=>?_
 unfold px1F at he
 split at he
 ·cases he
  exact ⟨fun _=>[],[],60,nol,noLoopsS,Classical.choose_spec (px_ex _)⟩
 ·cases he
noncomputable def KPX:Known:=[(181,nuF),(182,px1F)]
theorem KPX_ok:KnownOk KPX:=consK nuF_ok (by kernel_rfl) (consK px1F_ok (by kernel_rfl) nilK)
noncomputable def pxG:Ctx2:=GT KPX (fun _=>[]) 0 []
theorem pix_nf {s:ByteArray}:(lfun pxG nol 60 Try.f179 [StrA s] []).eval=bif s.toList==(⟨#[48]⟩:ByteArray).toList then some (.tup [I64 0,Bo true],[]) else bif yes (s.size<2^40/\(0:Int)<=(3:Int)/\(3:Int)<=(10:Int)) then bif (nuR s (5:Int) (3:Int)).snd.snd then some (.tup [I64 (pxR (nuR s (5:Int) (3:Int)).fst),Bo ((nuR s (5:Int) (3:Int)).snd.fst.toList==(⟨#[112,120]⟩:ByteArray).toList)],[]) else some (.tup [I64 (pxR (nuR s (5:Int) (3:Int)).fst),Bo false],[]) else none:=by kernel_rfl
theorem who_nf {s:ByteArray}{lo hi:Int}:(lfun pxG nol 60 Try.f178 [StrA s,I64 lo,I64 hi] []).eval=bif yes (s.size<2^40/\(0:Int)<=(0:Int)/\(0:Int)<=(10:Int)) then bif !(nuR s (4:Int) (0:Int)).snd.snd then some (.tup [I64 0,Bo false],[]) else bif !(nuR s (4:Int) (0:Int)).snd.fst.toList==(⟨#[]⟩:ByteArray).toList then some (.tup [I64 0,Bo false],[]) else bif decide ((nuR s (4:Int) (0:Int)).fst<lo) then some (.tup [I64 0,Bo false],[]) else bif decide ((nuR s (4:Int) (0:Int)).fst>hi) then some (.tup [I64 0,Bo false],[]) else some (.tup [I64 (nuR s (4:Int) (0:Int)).fst,Bo true],[]) else none:=by kernel_rfl
theorem pix_ex {s:ByteArray}(hs:s.size<2^40):∃ v:Int × Bool,(lfun pxG nol 60 Try.f179 [StrA s] []).eval=some (.tup [I64 v.1,Bo v.2],[]):=by
 have hy:yes (s.size<2^40/\(0:Int)<=(3:Int)/\(3:Int)<=(10:Int))=true:=yes_of ⟨hs,by omega,by omega⟩
 rw [pix_nf,hy]
 simp only [cond_true]
 repeat' (first|exact ⟨(_,_),rfl⟩|refine bif_ex ?_ ?_)
theorem who_ex {s:ByteArray}(hs:s.size<2^40) (lo hi:Int):∃ v:Int × Bool,(lfun pxG nol 60 Try.f178 [StrA s,I64 lo,I64 hi] []).eval=some (.tup [I64 v.1,Bo v.2],[]):=by
 have hy:yes (s.size<2^40/\(0:Int)<=(0:Int)/\(0:Int)<=(10:Int))=true:=yes_of ⟨hs,by omega,by omega⟩
 rw [who_nf,hy]
 simp only [cond_true]
 repeat' (first|exact ⟨(_,_),rfl⟩|refine bif_ex ?_ ?_)
open Classical in
noncomputable def pixR (s:ByteArray):Int × Bool:=if h:s.size<2^40 then Classical.choose (pix_ex h) else (0,false)
open Classical in
noncomputable def whoR (s:ByteArray) (lo hi:Int):Int × Bool:=if h:s.size<2^40 then Classical.choose (who_ex h lo hi) else (0,false)
noncomputable def pixF:Spec:=fun args h=>match args,h with
 | [.c (.v (.string s))],[]=>.need (yes (s.size<2^40)) (.ret (.tup [I64 (pixR s).1,Bo (pixR s).2],[]))
 | _,_=>.fail
theorem pixF_ok:SpecOk Try.prog 179 pixF:=by
 refine knownS KPX_ok Try.func179 fun args h r he=>?_
 unfold pixF at he
 split at he
 ·rename_i s
  obtain ⟨h1,he⟩:=Tr.eval_ask.1 he
  cases he
  refine ⟨fun _=>[],[],60,nol,noLoopsS,?_⟩
  unfold pixR
  rw [dif_pos h1]
  exact Classical.choose_spec (pix_ex h1)
 ·cases he
noncomputable def whoF:Spec:=fun args h=>match args,h with
 | [.c (.v (.string s)),.c (.v (.int .i64 lo)),.c (.v (.int .i64 hi))],[]=>.need (yes (s.size<2^40)) (.ret (.tup [I64 (whoR s lo hi).1,Bo (whoR s lo hi).2],[]))
 | _,_=>.fail
theorem whoF_ok:SpecOk Try.prog 178 whoF:=by
 refine knownS KPX_ok Try.func178 fun args h r he=>?_
 unfold whoF at he
 split at he
 ·rename_i s lo hi
  obtain ⟨h1,he⟩:=Tr.eval_ask.1 he
  cases he
  refine ⟨fun _=>[],[],60,nol,noLoopsS,?_⟩
  unfold whoR
  rw [dif_pos h1]
  exact Classical.choose_spec (who_ex h1 lo hi)
 ·cases he
noncomputable def KPL:Known:=[(181,nuF),(179,pixF)]
theorem KPL_ok:KnownOk KPL:=consK nuF_ok (by kernel_rfl) (consK pixF_ok (by kernel_rfl) nilK)
noncomputable def pleG:Ctx2:=GT KPL (fun _=>[]) 0 []
theorem len_nf {s:ByteArray}:(lfun pleG nol 60 Try.f180 [StrA s] []).eval=bif yes (s.size<2^40) then bif (pixR s).snd then some (.tup [.agg [i64 1,i64 (pixR s).fst],Bo true],[]) else bif yes (s.size<2^40/\(0:Int)<=(2:Int)/\(2:Int)<=(10:Int)) then bif !(nuR s (4:Int) (2:Int)).snd.snd then some (.tup [.agg [i64 0,i64 0],Bo false],[]) else bif !(nuR s (4:Int) (2:Int)).snd.fst.toList==(⟨#[37]⟩:ByteArray).toList then some (.tup [.agg [i64 0,i64 0],Bo false],[]) else some (.tup [.agg [i64 2,i64 (nuR s (4:Int) (2:Int)).fst],Bo true],[]) else none else none:=by kernel_rfl
theorem len_ex {s:ByteArray}(hs:s.size<2^40):∃ v:Int × Int × Bool,(lfun pleG nol 60 Try.f180 [StrA s] []).eval=some (.tup [.agg [i64 v.1,i64 v.2.1],Bo v.2.2],[]):=by
 have hy:yes (s.size<2^40/\(0:Int)<=(2:Int)/\(2:Int)<=(10:Int))=true:=yes_of ⟨hs,by omega,by omega⟩
 have hy2:yes (s.size<2^40)=true:=yes_of hs
 rw [len_nf,hy,hy2]
 simp only [cond_true]
 repeat' (first|exact ⟨(1,(pixR s).1,true),rfl⟩|exact ⟨(2,(nuR s 4 2).1,true),rfl⟩|exact ⟨(0,0,false),rfl⟩|refine bif_ex ?_ ?_)
open Classical in
noncomputable def lenRR (s:ByteArray):Int × Int × Bool:=if h:s.size<2^40 then Classical.choose (len_ex h) else (0,0,false)
noncomputable def lenF:Spec:=fun args h=>match args,h with
 | [.c (.v (.string s))],[]=>.need (yes (s.size<2^40)) (.ret (.tup [.agg [i64 (lenRR s).1,i64 (lenRR s).2.1],Bo (lenRR s).2.2],[]))
 | _,_=>.fail
theorem lenF_ok:SpecOk Try.prog 180 lenF:=by
 refine knownS KPL_ok Try.func180 fun args h r he=>?_
 unfold lenF at he
 split at he
 ·rename_i s
  obtain ⟨h1,he⟩:=Tr.eval_ask.1 he
  cases he
  refine ⟨fun _=>[],[],60,nol,noLoopsS,?_⟩
  unfold lenRR
  rw [dif_pos h1]
  exact Classical.choose_spec (len_ex h1)
 ·cases he
end
section
open Go Go.RowKit
noncomputable def KVA:Known:=[(177,afun (GK [] (fun _=>[]) 0) 60 Try.f177),(178,whoF),(179,pixF),(180,lenF)]
theorem KVA_ok:KnownOk KVA:=consK (known0 nilK 60 Try.func177) (by kernel_rfl) (consK whoF_ok (by kernel_rfl) (consK pixF_ok (by kernel_rfl) (consK lenF_ok (by kernel_rfl) nilK)))
noncomputable def vaG:Ctx2:=GK KVA (fun k=>if k=4 then [(0,none),(1,none),(4,none),(6,none),(7,none),(8,none)] else []) 8
theorem va_1 {s:ByteArray}:(afun vaG 60 Try.f174 [I64 1,StrA s] []).eval=bif ([(⟨#[98,108,111,99,107]⟩:ByteArray),(⟨#[105,110,108,105,110,101]⟩:ByteArray),(⟨#[102,108,101,120]⟩:ByteArray),(⟨#[110,111,110,101]⟩:ByteArray)].getD 0 (⟨#[]⟩:ByteArray)).toList==s.toList then some (.tup [.agg [i64 1,i64 0,i64 0,i64 0],Bo true],[]) else bif ([(⟨#[98,108,111,99,107]⟩:ByteArray),{ data:=#[105,110,108,105,110,101] },(⟨#[102,108,101,120]⟩:ByteArray),(⟨#[110,111,110,101]⟩:ByteArray)].getD 1 (⟨#[]⟩:ByteArray)).toList==s.toList then some (.tup [.agg [i64 1,i64 (w64 ((0:Int)+(1:Int))),i64 0,i64 0],Bo true],[]) else bif ([(⟨#[98,108,111,99,107]⟩:ByteArray),{ data:=#[105,110,108,105,110,101] },(⟨#[102,108,101,120]⟩:ByteArray),(⟨#[110,111,110,101]⟩:ByteArray)].getD 2 (⟨#[]⟩:ByteArray)).toList==s.toList then some (.tup [.agg [i64 1,i64 (w64 (w64 ((0:Int)+(1:Int))+(1:Int))),i64 0,i64 0],Bo true],[]) else bif ([(⟨#[98,108,111,99,107]⟩:ByteArray),{ data:=#[105,110,108,105,110,101] },(⟨#[102,108,101,120]⟩:ByteArray),(⟨#[110,111,110,101]⟩:ByteArray)].getD 3 (⟨#[]⟩:ByteArray)).toList==s.toList then some (.tup [.agg [i64 1,i64 (w64 (w64 (w64 ((0:Int)+(1:Int))+(1:Int))+(1:Int))),i64 0,i64 0],Bo true],[]) else some (.tup [.agg [i64 0,i64 0,i64 0,i64 0],Bo false],[]):=by kernel_rfl
theorem va_2 {s:ByteArray}:(afun vaG 60 Try.f174 [I64 2,StrA s] []).eval=bif s.toList==(⟨#[97,117,116,111]⟩:ByteArray).toList then some (.tup [.agg [i64 2,i64 0,i64 0,i64 0],Bo true],[]) else bif yes (s.size<2^40) then bif (lenRR s).snd.snd then bif decide ((lenRR s).snd.fst>=(0:Int)) then some (.tup [.agg [i64 2,i64 0,i64 (lenRR s).fst,i64 (lenRR s).snd.fst],Bo true],[]) else some (.tup [.agg [i64 0,i64 0,i64 0,i64 0],Bo false],[]) else some (.tup [.agg [i64 0,i64 0,i64 0,i64 0],Bo false],[]) else none:=by kernel_rfl
theorem va_3 {s:ByteArray}:(afun vaG 60 Try.f174 [I64 3,StrA s] []).eval=bif s.toList==(⟨#[97,117,116,111]⟩:ByteArray).toList then some (.tup [.agg [i64 3,i64 0,i64 0,i64 0],Bo true],[]) else bif yes (s.size<2^40) then bif (lenRR s).snd.snd then bif decide ((lenRR s).snd.fst>=(0:Int)) then some (.tup [.agg [i64 3,i64 0,i64 (lenRR s).fst,i64 (lenRR s).snd.fst],Bo true],[]) else some (.tup [.agg [i64 0,i64 0,i64 0,i64 0],Bo false],[]) else some (.tup [.agg [i64 0,i64 0,i64 0,i64 0],Bo false],[]) else none:=by kernel_rfl
theorem va_4 {s:ByteArray}:(afun vaG 60 Try.f174 [I64 4,StrA s] []).eval=bif yes (s.size<2^40) then bif (lenRR s).snd.snd then bif decide ((lenRR s).snd.fst>=(0:Int)) then some (.tup [.agg [i64 4,i64 0,i64 (lenRR s).fst,i64 (lenRR s).snd.fst],Bo true],[]) else some (.tup [.agg [i64 0,i64 0,i64 0,i64 0],Bo false],[]) else some (.tup [.agg [i64 0,i64 0,i64 0,i64 0],Bo false],[]) else none:=by kernel_rfl
theorem va_5 {s:ByteArray}:(afun vaG 60 Try.f174 [I64 5,StrA s] []).eval=bif yes (s.size<2^40) then bif (lenRR s).snd.snd then bif decide ((lenRR s).snd.fst>=(0:Int)) then some (.tup [.agg [i64 5,i64 0,i64 (lenRR s).fst,i64 (lenRR s).snd.fst],Bo true],[]) else some (.tup [.agg [i64 0,i64 0,i64 0,i64 0],Bo false],[]) else some (.tup [.agg [i64 0,i64 0,i64 0,i64 0],Bo false],[]) else none:=by kernel_rfl
theorem va_6 {s:ByteArray}:(afun vaG 60 Try.f174 [I64 6,StrA s] []).eval=bif s.toList==(⟨#[110,111,110,101]⟩:ByteArray).toList then some (.tup [.agg [i64 6,i64 0,i64 0,i64 0],Bo true],[]) else bif yes (s.size<2^40) then bif (lenRR s).snd.snd then bif decide ((lenRR s).snd.fst>=(0:Int)) then some (.tup [.agg [i64 6,i64 0,i64 (lenRR s).fst,i64 (lenRR s).snd.fst],Bo true],[]) else some (.tup [.agg [i64 0,i64 0,i64 0,i64 0],Bo false],[]) else some (.tup [.agg [i64 0,i64 0,i64 0,i64 0],Bo false],[]) else none:=by kernel_rfl
theorem va_7 {s:ByteArray}:(afun vaG 60 Try.f174 [I64 7,StrA s] []).eval=bif s.toList==(⟨#[110,111,110,101]⟩:ByteArray).toList then some (.tup [.agg [i64 7,i64 0,i64 0,i64 0],Bo true],[]) else bif yes (s.size<2^40) then bif (lenRR s).snd.snd then bif decide ((lenRR s).snd.fst>=(0:Int)) then some (.tup [.agg [i64 7,i64 0,i64 (lenRR s).fst,i64 (lenRR s).snd.fst],Bo true],[]) else some (.tup [.agg [i64 0,i64 0,i64 0,i64 0],Bo false],[]) else some (.tup [.agg [i64 0,i64 0,i64 0,i64 0],Bo false],[]) else none:=by kernel_rfl
theorem va_8 {s:ByteArray}:(afun vaG 60 Try.f174 [I64 8,StrA s] []).eval=bif s.toList==(⟨#[97,117,116,111]⟩:ByteArray).toList then some (.tup [.agg [i64 8,i64 0,i64 0,i64 0],Bo true],[]) else bif yes (s.size<2^40) then bif (lenRR s).snd.snd then bif decide ((lenRR s).snd.fst>=(0:Int)) then some (.tup [.agg [i64 8,i64 0,i64 (lenRR s).fst,i64 (lenRR s).snd.fst],Bo true],[]) else some (.tup [.agg [i64 8,i64 0,i64 (lenRR s).fst,i64 (lenRR s).snd.fst],Bo true],[]) else some (.tup [.agg [i64 0,i64 0,i64 0,i64 0],Bo false],[]) else none:=by kernel_rfl
theorem va_9 {s:ByteArray}:(afun vaG 60 Try.f174 [I64 9,StrA s] []).eval=bif s.toList==(⟨#[97,117,116,111]⟩:ByteArray).toList then some (.tup [.agg [i64 9,i64 0,i64 0,i64 0],Bo true],[]) else bif yes (s.size<2^40) then bif (lenRR s).snd.snd then bif decide ((lenRR s).snd.fst>=(0:Int)) then some (.tup [.agg [i64 9,i64 0,i64 (lenRR s).fst,i64 (lenRR s).snd.fst],Bo true],[]) else some (.tup [.agg [i64 9,i64 0,i64 (lenRR s).fst,i64 (lenRR s).snd.fst],Bo true],[]) else some (.tup [.agg [i64 0,i64 0,i64 0,i64 0],Bo false],[]) else none:=by kernel_rfl
theorem va_10 {s:ByteArray}:(afun vaG 60 Try.f174 [I64 10,StrA s] []).eval=bif s.toList==(⟨#[97,117,116,111]⟩:ByteArray).toList then some (.tup [.agg [i64 10,i64 0,i64 0,i64 0],Bo true],[]) else bif yes (s.size<2^40) then bif (lenRR s).snd.snd then bif decide ((lenRR s).snd.fst>=(0:Int)) then some (.tup [.agg [i64 10,i64 0,i64 (lenRR s).fst,i64 (lenRR s).snd.fst],Bo true],[]) else some (.tup [.agg [i64 10,i64 0,i64 (lenRR s).fst,i64 (lenRR s).snd.fst],Bo true],[]) else some (.tup [.agg [i64 0,i64 0,i64 0,i64 0],Bo false],[]) else none:=by kernel_rfl
theorem va_11 {s:ByteArray}:(afun vaG 60 Try.f174 [I64 11,StrA s] []).eval=bif s.toList==(⟨#[97,117,116,111]⟩:ByteArray).toList then some (.tup [.agg [i64 11,i64 0,i64 0,i64 0],Bo true],[]) else bif yes (s.size<2^40) then bif (lenRR s).snd.snd then bif decide ((lenRR s).snd.fst>=(0:Int)) then some (.tup [.agg [i64 11,i64 0,i64 (lenRR s).fst,i64 (lenRR s).snd.fst],Bo true],[]) else some (.tup [.agg [i64 11,i64 0,i64 (lenRR s).fst,i64 (lenRR s).snd.fst],Bo true],[]) else some (.tup [.agg [i64 0,i64 0,i64 0,i64 0],Bo false],[]) else none:=by kernel_rfl
theorem va_12 {s:ByteArray}:(afun vaG 60 Try.f174 [I64 12,StrA s] []).eval=bif yes (s.size<2^40) then bif (pixR s).snd then bif !decide ((pixR s).fst>=(0:Int)) then some (.tup [.agg [i64 0,i64 0,i64 0,i64 0],Bo false],[]) else some (.tup [.agg [i64 12,i64 0,i64 1,i64 (pixR s).fst],Bo true],[]) else some (.tup [.agg [i64 0,i64 0,i64 0,i64 0],Bo false],[]) else none:=by kernel_rfl
theorem va_13 {s:ByteArray}:(afun vaG 60 Try.f174 [I64 13,StrA s] []).eval=bif yes (s.size<2^40) then bif (pixR s).snd then bif !decide ((pixR s).fst>=(0:Int)) then some (.tup [.agg [i64 0,i64 0,i64 0,i64 0],Bo false],[]) else some (.tup [.agg [i64 13,i64 0,i64 1,i64 (pixR s).fst],Bo true],[]) else some (.tup [.agg [i64 0,i64 0,i64 0,i64 0],Bo false],[]) else none:=by kernel_rfl
theorem va_14 {s:ByteArray}:(afun vaG 60 Try.f174 [I64 14,StrA s] []).eval=bif yes (s.size<2^40) then bif (pixR s).snd then bif !decide ((pixR s).fst>=(0:Int)) then some (.tup [.agg [i64 0,i64 0,i64 0,i64 0],Bo false],[]) else some (.tup [.agg [i64 14,i64 0,i64 1,i64 (pixR s).fst],Bo true],[]) else some (.tup [.agg [i64 0,i64 0,i64 0,i64 0],Bo false],[]) else none:=by kernel_rfl
theorem va_15 {s:ByteArray}:(afun vaG 60 Try.f174 [I64 15,StrA s] []).eval=bif yes (s.size<2^40) then bif (pixR s).snd then bif !decide ((pixR s).fst>=(0:Int)) then some (.tup [.agg [i64 0,i64 0,i64 0,i64 0],Bo false],[]) else some (.tup [.agg [i64 15,i64 0,i64 1,i64 (pixR s).fst],Bo true],[]) else some (.tup [.agg [i64 0,i64 0,i64 0,i64 0],Bo false],[]) else none:=by kernel_rfl
theorem va_16 {s:ByteArray}:(afun vaG 60 Try.f174 [I64 16,StrA s] []).eval=bif yes (s.size<2^40) then bif (pixR s).snd then bif !decide ((pixR s).fst>=(0:Int)) then some (.tup [.agg [i64 0,i64 0,i64 0,i64 0],Bo false],[]) else some (.tup [.agg [i64 16,i64 0,i64 1,i64 (pixR s).fst],Bo true],[]) else some (.tup [.agg [i64 0,i64 0,i64 0,i64 0],Bo false],[]) else none:=by kernel_rfl
theorem va_17 {s:ByteArray}:(afun vaG 60 Try.f174 [I64 17,StrA s] []).eval=bif yes (s.size<2^40) then bif (pixR s).snd then bif !decide ((pixR s).fst>=(0:Int)) then some (.tup [.agg [i64 0,i64 0,i64 0,i64 0],Bo false],[]) else some (.tup [.agg [i64 17,i64 0,i64 1,i64 (pixR s).fst],Bo true],[]) else some (.tup [.agg [i64 0,i64 0,i64 0,i64 0],Bo false],[]) else none:=by kernel_rfl
theorem va_18 {s:ByteArray}:(afun vaG 60 Try.f174 [I64 18,StrA s] []).eval=bif yes (s.size<2^40) then bif (pixR s).snd then bif !decide ((pixR s).fst>=(0:Int)) then some (.tup [.agg [i64 0,i64 0,i64 0,i64 0],Bo false],[]) else some (.tup [.agg [i64 18,i64 0,i64 1,i64 (pixR s).fst],Bo true],[]) else some (.tup [.agg [i64 0,i64 0,i64 0,i64 0],Bo false],[]) else none:=by kernel_rfl
theorem va_19 {s:ByteArray}:(afun vaG 60 Try.f174 [I64 19,StrA s] []).eval=bif yes (s.size<2^40) then bif (pixR s).snd then bif !decide ((pixR s).fst>=(0:Int)) then some (.tup [.agg [i64 0,i64 0,i64 0,i64 0],Bo false],[]) else some (.tup [.agg [i64 19,i64 0,i64 1,i64 (pixR s).fst],Bo true],[]) else some (.tup [.agg [i64 0,i64 0,i64 0,i64 0],Bo false],[]) else none:=by kernel_rfl
theorem va_20 {s:ByteArray}:(afun vaG 60 Try.f174 [I64 20,StrA s] []).eval=bif ([(⟨#[114,111,119]⟩:ByteArray),{ data:=#[114,111,119,45,114,101,118,101,114,115,101] },(⟨#[99,111,108,117,109,110]⟩:ByteArray),{ data:=#[99,111,108,117,109,110,45,114,101,118,101,114,115,101] }].getD 0 (⟨#[]⟩:ByteArray)).toList==s.toList then some (.tup [.agg [i64 20,i64 0,i64 0,i64 0],Bo true],[]) else bif ([(⟨#[114,111,119]⟩:ByteArray),{ data:=#[114,111,119,45,114,101,118,101,114,115,101] },{ data:=#[99,111,108,117,109,110] },{ data:=#[99,111,108,117,109,110,45,114,101,118,101,114,115,101] }].getD 1 (⟨#[]⟩:ByteArray)).toList==s.toList then some (.tup [.agg [i64 20,i64 (w64 ((0:Int)+(1:Int))),i64 0,i64 0],Bo true],[]) else bif ([(⟨#[114,111,119]⟩:ByteArray),{ data:=#[114,111,119,45,114,101,118,101,114,115,101] },{ data:=#[99,111,108,117,109,110] },{ data:=#[99,111,108,117,109,110,45,114,101,118,101,114,115,101] }].getD 2 (⟨#[]⟩:ByteArray)).toList==s.toList then some (.tup [.agg [i64 20,i64 (w64 (w64 ((0:Int)+(1:Int))+(1:Int))),i64 0,i64 0],Bo true],[]) else bif ([(⟨#[114,111,119]⟩:ByteArray),{ data:=#[114,111,119,45,114,101,118,101,114,115,101] },{ data:=#[99,111,108,117,109,110] },{ data:=#[99,111,108,117,109,110,45,114,101,118,101,114,115,101] }].getD 3 (⟨#[]⟩:ByteArray)).toList==s.toList then some (.tup [.agg [i64 20,i64 (w64 (w64 (w64 ((0:Int)+(1:Int))+(1:Int))+(1:Int))),i64 0,i64 0],Bo true],[]) else some (.tup [.agg [i64 0,i64 0,i64 0,i64 0],Bo false],[]):=by kernel_rfl
theorem va_21 {s:ByteArray}:(afun vaG 60 Try.f174 [I64 21,StrA s] []).eval=bif ([(⟨#[110,111,119,114,97,112]⟩:ByteArray),(⟨#[119,114,97,112]⟩:ByteArray),{ data:=#[119,114,97,112,45,114,101,118,101,114,115,101] }].getD 0 (⟨#[]⟩:ByteArray)).toList==s.toList then some (.tup [.agg [i64 21,i64 0,i64 0,i64 0],Bo true],[]) else bif ([(⟨#[110,111,119,114,97,112]⟩:ByteArray),(⟨#[119,114,97,112]⟩:ByteArray),{ data:=#[119,114,97,112,45,114,101,118,101,114,115,101] }].getD 1 (⟨#[]⟩:ByteArray)).toList==s.toList then some (.tup [.agg [i64 21,i64 (w64 ((0:Int)+(1:Int))),i64 0,i64 0],Bo true],[]) else bif ([(⟨#[110,111,119,114,97,112]⟩:ByteArray),(⟨#[119,114,97,112]⟩:ByteArray),{ data:=#[119,114,97,112,45,114,101,118,101,114,115,101] }].getD 2 (⟨#[]⟩:ByteArray)).toList==s.toList then some (.tup [.agg [i64 21,i64 (w64 (w64 ((0:Int)+(1:Int))+(1:Int))),i64 0,i64 0],Bo true],[]) else some (.tup [.agg [i64 0,i64 0,i64 0,i64 0],Bo false],[]):=by kernel_rfl
theorem va_22 {s:ByteArray}:(afun vaG 60 Try.f174 [I64 22,StrA s] []).eval=bif s.toList==(⟨#[97,117,116,111]⟩:ByteArray).toList then some (.tup [.agg [i64 22,i64 0,i64 0,i64 0],Bo true],[]) else bif yes (s.size<2^40) then bif (lenRR s).snd.snd then bif decide ((lenRR s).snd.fst>=(0:Int)) then some (.tup [.agg [i64 22,i64 0,i64 (lenRR s).fst,i64 (lenRR s).snd.fst],Bo true],[]) else some (.tup [.agg [i64 0,i64 0,i64 0,i64 0],Bo false],[]) else some (.tup [.agg [i64 0,i64 0,i64 0,i64 0],Bo false],[]) else none:=by kernel_rfl
theorem va_23 {s:ByteArray}:(afun vaG 60 Try.f174 [I64 23,StrA s] []).eval=bif yes (s.size<2^40) then bif !(whoR s (0:Int) (100:Int)).snd then some (.tup [.agg [i64 0,i64 0,i64 0,i64 0],Bo false],[]) else some (.tup [.agg [i64 23,i64 (whoR s (0:Int) (100:Int)).fst,i64 0,i64 0],Bo true],[]) else none:=by kernel_rfl
theorem va_24 {s:ByteArray}:(afun vaG 60 Try.f174 [I64 24,StrA s] []).eval=bif yes (s.size<2^40) then bif !(whoR s (0:Int) (100:Int)).snd then some (.tup [.agg [i64 0,i64 0,i64 0,i64 0],Bo false],[]) else some (.tup [.agg [i64 24,i64 (whoR s (0:Int) (100:Int)).fst,i64 0,i64 0],Bo true],[]) else none:=by kernel_rfl
theorem va_25 {s:ByteArray}:(afun vaG 60 Try.f174 [I64 25,StrA s] []).eval=bif yes (s.size<2^40) then bif !(whoR s (-1000:Int) (1000:Int)).snd then some (.tup [.agg [i64 0,i64 0,i64 0,i64 0],Bo false],[]) else some (.tup [.agg [i64 25,i64 (whoR s (-1000:Int) (1000:Int)).fst,i64 0,i64 0],Bo true],[]) else none:=by kernel_rfl
theorem va_26 {s:ByteArray}:(afun vaG 60 Try.f174 [I64 26,StrA s] []).eval=bif ([(⟨#[115,116,97,114,116]⟩:ByteArray),(⟨#[101,110,100]⟩:ByteArray),(⟨#[99,101,110,116,101,114]⟩:ByteArray),{ data:=#[98,101,116,119,101,101,110] },{ data:=#[97,114,111,117,110,100] }].getD 0 (⟨#[]⟩:ByteArray)).toList==s.toList then some (.tup [.agg [i64 26,i64 0,i64 0,i64 0],Bo true],[]) else bif ([(⟨#[115,116,97,114,116]⟩:ByteArray),(⟨#[101,110,100]⟩:ByteArray),{ data:=#[99,101,110,116,101,114] },{ data:=#[98,101,116,119,101,101,110] },{ data:=#[97,114,111,117,110,100] }].getD 1 (⟨#[]⟩:ByteArray)).toList==s.toList then some (.tup [.agg [i64 26,i64 (w64 ((0:Int)+(1:Int))),i64 0,i64 0],Bo true],[]) else bif ([(⟨#[115,116,97,114,116]⟩:ByteArray),(⟨#[101,110,100]⟩:ByteArray),{ data:=#[99,101,110,116,101,114] },{ data:=#[98,101,116,119,101,101,110] },{ data:=#[97,114,111,117,110,100] }].getD 2 (⟨#[]⟩:ByteArray)).toList==s.toList then some (.tup [.agg [i64 26,i64 (w64 (w64 ((0:Int)+(1:Int))+(1:Int))),i64 0,i64 0],Bo true],[]) else bif ([(⟨#[115,116,97,114,116]⟩:ByteArray),(⟨#[101,110,100]⟩:ByteArray),{ data:=#[99,101,110,116,101,114] },{ data:=#[98,101,116,119,101,101,110] },{ data:=#[97,114,111,117,110,100] }].getD 3 (⟨#[]⟩:ByteArray)).toList==s.toList then some (.tup [.agg [i64 26,i64 (w64 (w64 (w64 ((0:Int)+(1:Int))+(1:Int))+(1:Int))),i64 0,i64 0],Bo true],[]) else bif ([(⟨#[115,116,97,114,116]⟩:ByteArray),(⟨#[101,110,100]⟩:ByteArray),{ data:=#[99,101,110,116,101,114] },{ data:=#[98,101,116,119,101,101,110] },{ data:=#[97,114,111,117,110,100] }].getD 4 (⟨#[]⟩:ByteArray)).toList==s.toList then some (.tup [.agg [i64 26,i64 (w64 (w64 (w64 (w64 ((0:Int)+(1:Int))+(1:Int))+(1:Int))+(1:Int))),i64 0,i64 0],Bo true],[]) else some (.tup [.agg [i64 0,i64 0,i64 0,i64 0],Bo false],[]):=by kernel_rfl
theorem va_27 {s:ByteArray}:(afun vaG 60 Try.f174 [I64 27,StrA s] []).eval=bif ([(⟨#[115,116,97,114,116]⟩:ByteArray),(⟨#[101,110,100]⟩:ByteArray),(⟨#[99,101,110,116,101,114]⟩:ByteArray),{ data:=#[115,116,114,101,116,99,104] }].getD 0 (⟨#[]⟩:ByteArray)).toList==s.toList then some (.tup [.agg [i64 27,i64 0,i64 0,i64 0],Bo true],[]) else bif ([(⟨#[115,116,97,114,116]⟩:ByteArray),(⟨#[101,110,100]⟩:ByteArray),{ data:=#[99,101,110,116,101,114] },{ data:=#[115,116,114,101,116,99,104] }].getD 1 (⟨#[]⟩:ByteArray)).toList==s.toList then some (.tup [.agg [i64 27,i64 (w64 ((0:Int)+(1:Int))),i64 0,i64 0],Bo true],[]) else bif ([(⟨#[115,116,97,114,116]⟩:ByteArray),(⟨#[101,110,100]⟩:ByteArray),{ data:=#[99,101,110,116,101,114] },{ data:=#[115,116,114,101,116,99,104] }].getD 2 (⟨#[]⟩:ByteArray)).toList==s.toList then some (.tup [.agg [i64 27,i64 (w64 (w64 ((0:Int)+(1:Int))+(1:Int))),i64 0,i64 0],Bo true],[]) else bif ([(⟨#[115,116,97,114,116]⟩:ByteArray),(⟨#[101,110,100]⟩:ByteArray),{ data:=#[99,101,110,116,101,114] },{ data:=#[115,116,114,101,116,99,104] }].getD 3 (⟨#[]⟩:ByteArray)).toList==s.toList then some (.tup [.agg [i64 27,i64 (w64 (w64 (w64 ((0:Int)+(1:Int))+(1:Int))+(1:Int))),i64 0,i64 0],Bo true],[]) else some (.tup [.agg [i64 0,i64 0,i64 0,i64 0],Bo false],[]):=by kernel_rfl
theorem va_28 {s:ByteArray}:(afun vaG 60 Try.f174 [I64 28,StrA s] []).eval=bif ([(⟨#[97,117,116,111]⟩:ByteArray),(⟨#[115,116,97,114,116]⟩:ByteArray),(⟨#[101,110,100]⟩:ByteArray),(⟨#[99,101,110,116,101,114]⟩:ByteArray),{ data:=#[115,116,114,101,116,99,104] }].getD 0 (⟨#[]⟩:ByteArray)).toList==s.toList then some (.tup [.agg [i64 28,i64 0,i64 0,i64 0],Bo true],[]) else bif ([(⟨#[97,117,116,111]⟩:ByteArray),(⟨#[115,116,97,114,116]⟩:ByteArray),(⟨#[101,110,100]⟩:ByteArray),{ data:=#[99,101,110,116,101,114] },{ data:=#[115,116,114,101,116,99,104] }].getD 1 (⟨#[]⟩:ByteArray)).toList==s.toList then some (.tup [.agg [i64 28,i64 (w64 ((0:Int)+(1:Int))),i64 0,i64 0],Bo true],[]) else bif ([(⟨#[97,117,116,111]⟩:ByteArray),(⟨#[115,116,97,114,116]⟩:ByteArray),(⟨#[101,110,100]⟩:ByteArray),{ data:=#[99,101,110,116,101,114] },{ data:=#[115,116,114,101,116,99,104] }].getD 2 (⟨#[]⟩:ByteArray)).toList==s.toList then some (.tup [.agg [i64 28,i64 (w64 (w64 ((0:Int)+(1:Int))+(1:Int))),i64 0,i64 0],Bo true],[]) else bif ([(⟨#[97,117,116,111]⟩:ByteArray),(⟨#[115,116,97,114,116]⟩:ByteArray),(⟨#[101,110,100]⟩:ByteArray),{ data:=#[99,101,110,116,101,114] },{ data:=#[115,116,114,101,116,99,104] }].getD 3 (⟨#[]⟩:ByteArray)).toList==s.toList then some (.tup [.agg [i64 28,i64 (w64 (w64 (w64 ((0:Int)+(1:Int))+(1:Int))+(1:Int))),i64 0,i64 0],Bo true],[]) else bif ([(⟨#[97,117,116,111]⟩:ByteArray),(⟨#[115,116,97,114,116]⟩:ByteArray),(⟨#[101,110,100]⟩:ByteArray),{ data:=#[99,101,110,116,101,114] },{ data:=#[115,116,114,101,116,99,104] }].getD 4 (⟨#[]⟩:ByteArray)).toList==s.toList then some (.tup [.agg [i64 28,i64 (w64 (w64 (w64 (w64 ((0:Int)+(1:Int))+(1:Int))+(1:Int))+(1:Int))),i64 0,i64 0],Bo true],[]) else some (.tup [.agg [i64 0,i64 0,i64 0,i64 0],Bo false],[]):=by kernel_rfl
theorem va_29 {s:ByteArray}:(afun vaG 60 Try.f174 [I64 29,StrA s] []).eval=bif ([(⟨#[108,101,102,116]⟩:ByteArray),(⟨#[114,105,103,104,116]⟩:ByteArray),{ data:=#[99,101,110,116,101,114] }].getD 0 (⟨#[]⟩:ByteArray)).toList==s.toList then some (.tup [.agg [i64 29,i64 0,i64 0,i64 0],Bo true],[]) else bif ([(⟨#[108,101,102,116]⟩:ByteArray),(⟨#[114,105,103,104,116]⟩:ByteArray),{ data:=#[99,101,110,116,101,114] }].getD 1 (⟨#[]⟩:ByteArray)).toList==s.toList then some (.tup [.agg [i64 29,i64 (w64 ((0:Int)+(1:Int))),i64 0,i64 0],Bo true],[]) else bif ([(⟨#[108,101,102,116]⟩:ByteArray),(⟨#[114,105,103,104,116]⟩:ByteArray),{ data:=#[99,101,110,116,101,114] }].getD 2 (⟨#[]⟩:ByteArray)).toList==s.toList then some (.tup [.agg [i64 29,i64 (w64 (w64 ((0:Int)+(1:Int))+(1:Int))),i64 0,i64 0],Bo true],[]) else some (.tup [.agg [i64 0,i64 0,i64 0,i64 0],Bo false],[]):=by kernel_rfl
theorem va_30 {s:ByteArray}:(afun vaG 60 Try.f174 [I64 30,StrA s] []).eval=bif ([(⟨#[110,111,114,109,97,108]⟩:ByteArray),(⟨#[110,111,119,114,97,112]⟩:ByteArray),(⟨#[112,114,101]⟩:ByteArray)].getD 0 (⟨#[]⟩:ByteArray)).toList==s.toList then some (.tup [.agg [i64 30,i64 0,i64 0,i64 0],Bo true],[]) else bif ([(⟨#[110,111,114,109,97,108]⟩:ByteArray),{ data:=#[110,111,119,114,97,112] },(⟨#[112,114,101]⟩:ByteArray)].getD 1 (⟨#[]⟩:ByteArray)).toList==s.toList then some (.tup [.agg [i64 30,i64 (w64 ((0:Int)+(1:Int))),i64 0,i64 0],Bo true],[]) else bif ([(⟨#[110,111,114,109,97,108]⟩:ByteArray),{ data:=#[110,111,119,114,97,112] },(⟨#[112,114,101]⟩:ByteArray)].getD 2 (⟨#[]⟩:ByteArray)).toList==s.toList then some (.tup [.agg [i64 30,i64 (w64 (w64 ((0:Int)+(1:Int))+(1:Int))),i64 0,i64 0],Bo true],[]) else some (.tup [.agg [i64 0,i64 0,i64 0,i64 0],Bo false],[]):=by kernel_rfl
theorem va_31 {s:ByteArray}:(afun vaG 60 Try.f174 [I64 31,StrA s] []).eval=bif yes (s.size<2^40) then bif (pixR s).snd then bif !decide ((pixR s).fst>=(0:Int)) then some (.tup [.agg [i64 0,i64 0,i64 0,i64 0],Bo false],[]) else some (.tup [.agg [i64 31,i64 0,i64 1,i64 (pixR s).fst],Bo true],[]) else some (.tup [.agg [i64 0,i64 0,i64 0,i64 0],Bo false],[]) else none:=by kernel_rfl
theorem va_32 {s:ByteArray}:(afun vaG 60 Try.f174 [I64 32,StrA s] []).eval=bif ([{ data:=#[118,105,115,105,98,108,101] },{ data:=#[104,105,100,100,101,110] }].getD 0 (⟨#[]⟩:ByteArray)).toList==s.toList then some (.tup [.agg [i64 32,i64 0,i64 0,i64 0],Bo true],[]) else bif ([{ data:=#[118,105,115,105,98,108,101] },{ data:=#[104,105,100,100,101,110] }].getD 1 (⟨#[]⟩:ByteArray)).toList==s.toList then some (.tup [.agg [i64 32,i64 (w64 ((0:Int)+(1:Int))),i64 0,i64 0],Bo true],[]) else some (.tup [.agg [i64 0,i64 0,i64 0,i64 0],Bo false],[]):=by kernel_rfl
end
section
open Go Go.RowKit
theorem bif5 {α:Type}{c:Bool}{A B:Option α}{f:Int->Int->Int->Int->Bool->Option α}(h1:∃ a b x y o,A=f a b x y o) (h2:∃ a b x y o,B=f a b x y o):∃ a b x y o,(bif c then A else B)=f a b x y o:=by cases c <;> assumption
theorem va_ex {s:ByteArray}(hs:s.size<2^40) {p:Int}(h1:1<=p) (h2:p<=32):∃ a b x y o,(afun vaG 60 Try.f174 [I64 p,StrA s] []).eval=some (.tup [.agg [i64 a,i64 b,i64 x,i64 y],Bo o],[]):=by
 have hy:yes (s.size<2^40)=true:=yes_of hs
 have:p=1\/p=2\/p=3\/p=4\/p=5\/p=6\/p=7\/p=8\/p=9\/p=10\/p=11\/p=12\/p=13\/p=14\/p=15\/p=16\/p=17\/p=18\/p=19\/p=20\/p=21\/p=22\/p=23\/p=24\/p=25\/p=26\/p=27\/p=28\/p=29\/p=30\/p=31\/p=32:=by omega
 rcases this with rfl|rfl|rfl|rfl|rfl|rfl|rfl|rfl|rfl|rfl|rfl|rfl|rfl|rfl|rfl|rfl|rfl|rfl|rfl|rfl|rfl|rfl|rfl|rfl|rfl|rfl|rfl|rfl|rfl|rfl|rfl|rfl
 ·rw [va_1]
  try simp only [hy,cond_true]
  repeat' (first|exact ⟨_,_,_,_,_,rfl⟩|refine bif5 ?_ ?_)
 ·rw [va_2]
  try simp only [hy,cond_true]
  repeat' (first|exact ⟨_,_,_,_,_,rfl⟩|refine bif5 ?_ ?_)
 ·rw [va_3]
  try simp only [hy,cond_true]
  repeat' (first|exact ⟨_,_,_,_,_,rfl⟩|refine bif5 ?_ ?_)
 ·rw [va_4]
  try simp only [hy,cond_true]
  repeat' (first|exact ⟨_,_,_,_,_,rfl⟩|refine bif5 ?_ ?_)
 ·rw [va_5]
  try simp only [hy,cond_true]
  repeat' (first|exact ⟨_,_,_,_,_,rfl⟩|refine bif5 ?_ ?_)
 ·rw [va_6]
  try simp only [hy,cond_true]
  repeat' (first|exact ⟨_,_,_,_,_,rfl⟩|refine bif5 ?_ ?_)
 ·rw [va_7]
  try simp only [hy,cond_true]
  repeat' (first|exact ⟨_,_,_,_,_,rfl⟩|refine bif5 ?_ ?_)
 ·rw [va_8]
  try simp only [hy,cond_true]
  repeat' (first|exact ⟨_,_,_,_,_,rfl⟩|refine bif5 ?_ ?_)
 ·rw [va_9]
  try simp only [hy,cond_true]
  repeat' (first|exact ⟨_,_,_,_,_,rfl⟩|refine bif5 ?_ ?_)
 ·rw [va_10]
  try simp only [hy,cond_true]
  repeat' (first|exact ⟨_,_,_,_,_,rfl⟩|refine bif5 ?_ ?_)
 ·rw [va_11]
  try simp only [hy,cond_true]
  repeat' (first|exact ⟨_,_,_,_,_,rfl⟩|refine bif5 ?_ ?_)
 ·rw [va_12]
  try simp only [hy,cond_true]
  repeat' (first|exact ⟨_,_,_,_,_,rfl⟩|refine bif5 ?_ ?_)
 ·rw [va_13]
  try simp only [hy,cond_true]
  repeat' (first|exact ⟨_,_,_,_,_,rfl⟩|refine bif5 ?_ ?_)
 ·rw [va_14]
  try simp only [hy,cond_true]
  repeat' (first|exact ⟨_,_,_,_,_,rfl⟩|refine bif5 ?_ ?_)
 ·rw [va_15]
  try simp only [hy,cond_true]
  repeat' (first|exact ⟨_,_,_,_,_,rfl⟩|refine bif5 ?_ ?_)
 ·rw [va_16]
  try simp only [hy,cond_true]
  repeat' (first|exact ⟨_,_,_,_,_,rfl⟩|refine bif5 ?_ ?_)
 ·rw [va_17]
  try simp only [hy,cond_true]
  repeat' (first|exact ⟨_,_,_,_,_,rfl⟩|refine bif5 ?_ ?_)
 ·rw [va_18]
  try simp only [hy,cond_true]
  repeat' (first|exact ⟨_,_,_,_,_,rfl⟩|refine bif5 ?_ ?_)
 ·rw [va_19]
  try simp only [hy,cond_true]
  repeat' (first|exact ⟨_,_,_,_,_,rfl⟩|refine bif5 ?_ ?_)
 ·rw [va_20]
  try simp only [hy,cond_true]
  repeat' (first|exact ⟨_,_,_,_,_,rfl⟩|refine bif5 ?_ ?_)
 ·rw [va_21]
  try simp only [hy,cond_true]
  repeat' (first|exact ⟨_,_,_,_,_,rfl⟩|refine bif5 ?_ ?_)
 ·rw [va_22]
  try simp only [hy,cond_true]
  repeat' (first|exact ⟨_,_,_,_,_,rfl⟩|refine bif5 ?_ ?_)
 ·rw [va_23]
  try simp only [hy,cond_true]
  repeat' (first|exact ⟨_,_,_,_,_,rfl⟩|refine bif5 ?_ ?_)
 ·rw [va_24]
  try simp only [hy,cond_true]
  repeat' (first|exact ⟨_,_,_,_,_,rfl⟩|refine bif5 ?_ ?_)
 ·rw [va_25]
  try simp only [hy,cond_true]
  repeat' (first|exact ⟨_,_,_,_,_,rfl⟩|refine bif5 ?_ ?_)
 ·rw [va_26]
  try simp only [hy,cond_true]
  repeat' (first|exact ⟨_,_,_,_,_,rfl⟩|refine bif5 ?_ ?_)
 ·rw [va_27]
  try simp only [hy,cond_true]
  repeat' (first|exact ⟨_,_,_,_,_,rfl⟩|refine bif5 ?_ ?_)
 ·rw [va_28]
  try simp only [hy,cond_true]
  repeat' (first|exact ⟨_,_,_,_,_,rfl⟩|refine bif5 ?_ ?_)
 ·rw [va_29]
  try simp only [hy,cond_true]
  repeat' (first|exact ⟨_,_,_,_,_,rfl⟩|refine bif5 ?_ ?_)
 ·rw [va_30]
  try simp only [hy,cond_true]
  repeat' (first|exact ⟨_,_,_,_,_,rfl⟩|refine bif5 ?_ ?_)
 ·rw [va_31]
  try simp only [hy,cond_true]
  repeat' (first|exact ⟨_,_,_,_,_,rfl⟩|refine bif5 ?_ ?_)
 ·rw [va_32]
  try simp only [hy,cond_true]
  repeat' (first|exact ⟨_,_,_,_,_,rfl⟩|refine bif5 ?_ ?_)
structure ValR where
 a:Int
 b:Int
 x:Int
 y:Int
 o:Bool
theorem va_ex' {s:ByteArray}(hs:s.size<2^40) {p:Int}(h1:1<=p) (h2:p<=32):∃ v:ValR,(afun vaG 60 Try.f174 [I64 p,StrA s] []).eval=some (.tup [.agg [i64 v.a,i64 v.b,i64 v.x,i64 v.y],Bo v.o],[]):=by
 obtain ⟨a,b,x,y,o,h⟩:=va_ex hs h1 h2
 exact ⟨⟨a,b,x,y,o⟩,h⟩
open Classical in
noncomputable def valR (p:Int) (s:ByteArray):ValR:=if h:s.size<2^40/\1<=p/\p<=32 then Classical.choose (va_ex' h.1 h.2.1 h.2.2) else ⟨0,0,0,0,false⟩
noncomputable def valF:Spec:=fun args h=>match args,h with
 | [.c (.v (.int .i64 p)),.c (.v (.string s))],[]=>.need (yes (s.size<2^40/\1<=p/\p<=32)) (.ret (.tup [.agg [i64 (valR p s).a,i64 (valR p s).b,i64 (valR p s).x,i64 (valR p s).y],Bo (valR p s).o],[]))
 | _,_=>.fail
theorem valF_ok:SpecOk Try.prog 174 valF:=by
 refine known' KVA_ok Try.func174 fun args h r he=>?_
 unfold valF at he
 split at he
 ·rename_i p s
  obtain ⟨h1,he⟩:=Tr.eval_ask.1 he
  cases he
  refine ⟨fun k=>if k=4 then [(0,none),(1,none),(4,none),(6,none),(7,none),(8,none)] else [],8,60,?_⟩
  unfold valR
  rw [dif_pos h1]
  exact Classical.choose_spec (va_ex' h1.1 h1.2.1 h1.2.2)
 ·cases he
end
section
open Go Go.RowKit
def nmS:List ByteArray:=[(⟨#[]⟩:ByteArray),(⟨#[100,105,115,112,108,97,121]⟩:ByteArray),(⟨#[119,105,100,116,104]⟩:ByteArray),(⟨#[104,101,105,103,104,116]⟩:ByteArray),(⟨#[109,105,110,45,119,105,100,116,104]⟩:ByteArray),(⟨#[109,105,110,45,104,101,105,103,104,116]⟩:ByteArray),(⟨#[109,97,120,45,119,105,100,116,104]⟩:ByteArray),(⟨#[109,97,120,45,104,101,105,103,104,116]⟩:ByteArray),(⟨#[109,97,114,103,105,110,45,116,111,112]⟩:ByteArray),(⟨#[109,97,114,103,105,110,45,114,105,103,104,116]⟩:ByteArray),(⟨#[109,97,114,103,105,110,45,98,111,116,116,111,109]⟩:ByteArray),(⟨#[109,97,114,103,105,110,45,108,101,102,116]⟩:ByteArray),(⟨#[112,97,100,100,105,110,103,45,116,111,112]⟩:ByteArray),(⟨#[112,97,100,100,105,110,103,45,114,105,103,104,116]⟩:ByteArray),(⟨#[112,97,100,100,105,110,103,45,98,111,116,116,111,109]⟩:ByteArray),(⟨#[112,97,100,100,105,110,103,45,108,101,102,116]⟩:ByteArray),(⟨#[98,111,114,100,101,114,45,116,111,112]⟩:ByteArray),(⟨#[98,111,114,100,101,114,45,114,105,103,104,116]⟩:ByteArray),(⟨#[98,111,114,100,101,114,45,98,111,116,116,111,109]⟩:ByteArray),(⟨#[98,111,114,100,101,114,45,108,101,102,116]⟩:ByteArray),(⟨#[102,108,101,120,45,100,105,114,101,99,116,105,111,110]⟩:ByteArray),(⟨#[102,108,101,120,45,119,114,97,112]⟩:ByteArray),(⟨#[102,108,101,120,45,98,97,115,105,115]⟩:ByteArray),(⟨#[102,108,101,120,45,103,114,111,119]⟩:ByteArray),(⟨#[102,108,101,120,45,115,104,114,105,110,107]⟩:ByteArray),(⟨#[111,114,100,101,114]⟩:ByteArray),(⟨#[106,117,115,116,105,102,121,45,99,111,110,116,101,110,116]⟩:ByteArray),(⟨#[97,108,105,103,110,45,105,116,101,109,115]⟩:ByteArray),(⟨#[97,108,105,103,110,45,115,101,108,102]⟩:ByteArray),(⟨#[116,101,120,116,45,97,108,105,103,110]⟩:ByteArray),(⟨#[119,104,105,116,101,45,115,112,97,99,101]⟩:ByteArray),(⟨#[108,105,110,101,45,104,101,105,103,104,116]⟩:ByteArray),(⟨#[111,118,101,114,102,108,111,119]⟩:ByteArray)]
def namB:Option ABlk:=some ⟨9,true,.lst 1 (nmS.map fun s=>[.v (.string s)]) [.v (.string ⟨#[]⟩)]⟩
noncomputable def namF:Spec:=fun args h=>match args,h with
 | [],[]=>.ret (.c (.sl 0 0 33),[namB])
 | _,_=>.fail
theorem nam_eq:(lfun niG nol 60 Try.f170 [] []).eval=some (.c (.sl 0 0 33),[namB]):=by kernel_rfl
theorem namF_ok:SpecOk Try.prog 170 namF:=by
 refine knownS nilK Try.func170 fun args h r he=>?_
 unfold namF at he
 split at he
 ·cases he
  exact ⟨fun _=>[],[],60,nol,noLoopsS,nam_eq⟩
 ·cases he
noncomputable def KPA:Known:=[(170,namF),(171,skF),(172,c8F nmc),(173,c8F vlc),(174,valF)]
theorem KPA_ok:KnownOk KPA:=consK namF_ok (by kernel_rfl) (consK skF_ok (by kernel_rfl) (consK nmc_ok (by kernel_rfl) (consK vlc_ok (by kernel_rfl) (consK valF_ok (by kernel_rfl) nilK))))
abbrev paK:List (Nat × Option TypeId):=[(0,none),(5,some 207),(6,none)]
abbrev paKa:List (Nat × Option TypeId):=[(2,none),(3,none),(4,none),(5,some 207)]
abbrev paK1:List (Nat × Option TypeId):=[(0,none),(5,some 207),(6,none),(7,none)]
abbrev paK2:List (Nat × Option TypeId):=[(0,none),(5,some 207),(6,none),(8,none),(10,none),(11,none)]
abbrev paK3:List (Nat × Option TypeId):=[(0,none),(5,some 207),(6,none),(8,none),(10,none),(11,none),(12,none),(13,none),(14,none)]
noncomputable def paG:Ctx2:=GT KPA (fun k=>if k=5 then paK else if k=7 then paK1 else if k=17 then paK2 else if k=24 then paK3 else []) 0 []
theorem paG_ok:XOk paG:=GT_ok KPA_ok _ _ _
def rowD (n:Nat) (D:Nat->Gl):Option ABlk:=some ⟨207,true,.row 4 n fun j=>encG (D j)⟩
def appG (D:Nat->Gl) (n:Nat) (g:Gl):Nat->Gl:=fun q=>⟨bif decide (q=n) then g.k else (D q).k,bif decide (q=n) then g.r else (D q).r,bif decide (q=n) then g.a else (D q).a,bif decide (q=n) then g.w else (D q).w⟩
def paO (s:ByteArray) (n:Nat) (D:Nat->Gl) (a:Int):St:=⟨slots 138 [(0,StrA s),(5,.c (.sl 0 0 n)),(6,I64 a)],[rowD n D]⟩
def pa1 (s:ByteArray) (n:Nat) (D:Nat->Gl) (a k:Int):St:=⟨slots 138 [(0,StrA s),(5,.c (.sl 0 0 n)),(6,I64 a),(7,I64 k)],[rowD n D]⟩
def pa2 (s:ByteArray) (n:Nat) (D:Nat->Gl) (a:Int) (nm:ByteArray) (v e:Int):St:=⟨slots 138 [(0,StrA s),(5,.c (.sl 0 0 n)),(6,I64 a),(8,StrA nm),(10,I64 v),(11,I64 e)],[rowD n D]⟩
def pa3 (s:ByteArray) (n:Nat) (D:Nat->Gl) (a:Int) (nm:ByteArray) (v e p i:Int):St:=⟨slots 138 [(0,StrA s),(5,.c (.sl 0 0 n)),(6,I64 a),(8,StrA nm),(10,I64 v),(11,I64 e),(12,I64 p),(13,.c (.sl 1 0 33)),(14,I64 i)],[rowD n D,namB]⟩
theorem pa1_go {s:ByteArray}{n:Nat}{D:Nat->Gl}{a:Int}{k:Int}:(rT paG nol 0 47 (bodyOf Try.f168 1) paK1 paK1 (pa1 s n D a k)).go []=some ([decide (k<((s.size:Nat):Int)),true,true,decide ((0:Int)<=k),decide (k<((s.size:Nat):Int)),true,true,nmc (bt s k)],Ex.normal,{ sl:=slots 138 [(0,.c (.v (.string s))),(5,.c (.sl 0 0 n)),(6,I64 a),(7,I64 (w64 (k+(1:Int))))],h:=[some ⟨207,true,.row 4 n fun j=>[.int .i64 (D j).k,.int .i64 (D j).r,.int .i64 (D j).a,.int .i64 (D j).w]⟩] }):=by kernel_rfl
theorem pa1_e1 {s:ByteArray}{n:Nat}{D:Nat->Gl}{a:Int}{k:Int}:(rT paG nol 0 47 (bodyOf Try.f168 1) paK1 paK1 (pa1 s n D a k)).go (dN 6 0)=some ([!decide (k<((s.size:Nat):Int)),true,true,true,true,true],Ex.exit 2,{ sl:=slots 138 [(0,.c (.v (.string s))),(5,.c (.sl 0 0 n)),(6,I64 a),(7,I64 k)],h:=[some ⟨207,true,.row 4 n fun j=>[.int .i64 (D j).k,.int .i64 (D j).r,.int .i64 (D j).a,.int .i64 (D j).w]⟩] }):=by kernel_rfl
theorem pa1_e2 {s:ByteArray}{n:Nat}{D:Nat->Gl}{a:Int}{k:Int}:(rT paG nol 0 47 (bodyOf Try.f168 1) paK1 paK1 (pa1 s n D a k)).go (dN 8 127)=some ([decide (k<((s.size:Nat):Int)),true,true,decide ((0:Int)<=k),decide (k<((s.size:Nat):Int)),true,true,!nmc (bt s k)],Ex.exit 2,{ sl:=slots 138 [(0,.c (.v (.string s))),(5,.c (.sl 0 0 n)),(6,I64 a),(7,I64 k)],h:=[some ⟨207,true,.row 4 n fun j=>[.int .i64 (D j).k,.int .i64 (D j).r,.int .i64 (D j).a,.int .i64 (D j).w]⟩] }):=by kernel_rfl
theorem pa2_go {s:ByteArray}{n:Nat}{D:Nat->Gl}{a:Int}{nm:ByteArray}{v e:Int}:(rT paG nol 0 40 (bodyOf Try.f168 2) paK2 paK2 (pa2 s n D a nm v e)).go []=some ([decide (e<((s.size:Nat):Int)),true,true,decide ((0:Int)<=e),decide (e<((s.size:Nat):Int)),true,true,vlc (bt s e)],Ex.normal,{ sl:=slots 138 [(0,.c (.v (.string s))),(5,.c (.sl 0 0 n)),(6,I64 a),(8,.c (.v (.string nm))),(10,I64 v),(11,I64 (w64 (e+(1:Int))))],h:=[some ⟨207,true,.row 4 n fun j=>[.int .i64 (D j).k,.int .i64 (D j).r,.int .i64 (D j).a,.int .i64 (D j).w]⟩] }):=by kernel_rfl
theorem pa2_e1 {s:ByteArray}{n:Nat}{D:Nat->Gl}{a:Int}{nm:ByteArray}{v e:Int}:(rT paG nol 0 40 (bodyOf Try.f168 2) paK2 paK2 (pa2 s n D a nm v e)).go (dN 6 0)=some ([!decide (e<((s.size:Nat):Int)),true,true,true,true,true],Ex.exit 4,{ sl:=slots 138 [(0,.c (.v (.string s))),(5,.c (.sl 0 0 n)),(6,I64 a),(8,.c (.v (.string nm))),(10,I64 v),(11,I64 e)],h:=[some ⟨207,true,.row 4 n fun j=>[.int .i64 (D j).k,.int .i64 (D j).r,.int .i64 (D j).a,.int .i64 (D j).w]⟩] }):=by kernel_rfl
theorem pa2_e2 {s:ByteArray}{n:Nat}{D:Nat->Gl}{a:Int}{nm:ByteArray}{v e:Int}:(rT paG nol 0 40 (bodyOf Try.f168 2) paK2 paK2 (pa2 s n D a nm v e)).go (dN 8 127)=some ([decide (e<((s.size:Nat):Int)),true,true,decide ((0:Int)<=e),decide (e<((s.size:Nat):Int)),true,true,!vlc (bt s e)],Ex.exit 4,{ sl:=slots 138 [(0,.c (.v (.string s))),(5,.c (.sl 0 0 n)),(6,I64 a),(8,.c (.v (.string nm))),(10,I64 v),(11,I64 e)],h:=[some ⟨207,true,.row 4 n fun j=>[.int .i64 (D j).k,.int .i64 (D j).r,.int .i64 (D j).a,.int .i64 (D j).w]⟩] }):=by kernel_rfl
theorem pa3_t {s:ByteArray}{n:Nat}{D:Nat->Gl}{a:Int}{nm:ByteArray}{v e:Int}{p i:Int}:(rT paG nol 0 35 (bodyOf Try.f168 3) paK3 paK3 (pa3 s n D a nm v e p i)).go []=some ([decide (i<((33:Nat):Int)),decide ((0:Int)<=i),decide (i<((33:Nat):Int)),decide (0+i.toNat<33),([(⟨#[]⟩:ByteArray),(⟨#[100,105,115,112,108,97,121]⟩:ByteArray),(⟨#[119,105,100,116,104]⟩:ByteArray),(⟨#[104,101,105,103,104,116]⟩:ByteArray),(⟨#[109,105,110,45,119,105,100,116,104]⟩:ByteArray),(⟨#[109,105,110,45,104,101,105,103,104,116]⟩:ByteArray),(⟨#[109,97,120,45,119,105,100,116,104]⟩:ByteArray),(⟨#[109,97,120,45,104,101,105,103,104,116]⟩:ByteArray),(⟨#[109,97,114,103,105,110,45,116,111,112]⟩:ByteArray),(⟨#[109,97,114,103,105,110,45,114,105,103,104,116]⟩:ByteArray),(⟨#[109,97,114,103,105,110,45,98,111,116,116,111,109]⟩:ByteArray),(⟨#[109,97,114,103,105,110,45,108,101,102,116]⟩:ByteArray),(⟨#[112,97,100,100,105,110,103,45,116,111,112]⟩:ByteArray),(⟨#[112,97,100,100,105,110,103,45,114,105,103,104,116]⟩:ByteArray),(⟨#[112,97,100,100,105,110,103,45,98,111,116,116,111,109]⟩:ByteArray),(⟨#[112,97,100,100,105,110,103,45,108,101,102,116]⟩:ByteArray),(⟨#[98,111,114,100,101,114,45,116,111,112]⟩:ByteArray),(⟨#[98,111,114,100,101,114,45,114,105,103,104,116]⟩:ByteArray),(⟨#[98,111,114,100,101,114,45,98,111,116,116,111,109]⟩:ByteArray),(⟨#[98,111,114,100,101,114,45,108,101,102,116]⟩:ByteArray),(⟨#[102,108,101,120,45,100,105,114,101,99,116,105,111,110]⟩:ByteArray),(⟨#[102,108,101,120,45,119,114,97,112]⟩:ByteArray),(⟨#[102,108,101,120,45,98,97,115,105,115]⟩:ByteArray),(⟨#[102,108,101,120,45,103,114,111,119]⟩:ByteArray),(⟨#[102,108,101,120,45,115,104,114,105,110,107]⟩:ByteArray),(⟨#[111,114,100,101,114]⟩:ByteArray),(⟨#[106,117,115,116,105,102,121,45,99,111,110,116,101,110,116]⟩:ByteArray),(⟨#[97,108,105,103,110,45,105,116,101,109,115]⟩:ByteArray),(⟨#[97,108,105,103,110,45,115,101,108,102]⟩:ByteArray),(⟨#[116,101,120,116,45,97,108,105,103,110]⟩:ByteArray),(⟨#[119,104,105,116,101,45,115,112,97,99,101]⟩:ByteArray),(⟨#[108,105,110,101,45,104,101,105,103,104,116]⟩:ByteArray),(⟨#[111,118,101,114,102,108,111,119]⟩:ByteArray)].getD (0+i.toNat) (⟨#[]⟩:ByteArray)).toList==nm.toList],Ex.normal,{ sl:=slots 138 [(0,.c (.v (.string s))),(5,.c (.sl 0 0 n)),(6,I64 a),(8,.c (.v (.string nm))),(10,I64 v),(11,I64 e),(12,I64 i),(13,.c (.sl 1 0 33)),(14,I64 (w64 (i+(1:Int))))],h:=[some ⟨207,true,.row 4 n fun j=>[.int .i64 (D j).k,.int .i64 (D j).r,.int .i64 (D j).a,.int .i64 (D j).w]⟩,some ⟨9,true,.lst 1 [[.v (.string (⟨#[]⟩:ByteArray))],[.v (.string (⟨#[100,105,115,112,108,97,121]⟩:ByteArray))],[.v (.string (⟨#[119,105,100,116,104]⟩:ByteArray))],[.v (.string (⟨#[104,101,105,103,104,116]⟩:ByteArray))],[.v (.string (⟨#[109,105,110,45,119,105,100,116,104]⟩:ByteArray))],[.v (.string (⟨#[109,105,110,45,104,101,105,103,104,116]⟩:ByteArray))],[.v (.string (⟨#[109,97,120,45,119,105,100,116,104]⟩:ByteArray))],[.v (.string (⟨#[109,97,120,45,104,101,105,103,104,116]⟩:ByteArray))],[.v (.string (⟨#[109,97,114,103,105,110,45,116,111,112]⟩:ByteArray))],[.v (.string (⟨#[109,97,114,103,105,110,45,114,105,103,104,116]⟩:ByteArray))],[.v (.string (⟨#[109,97,114,103,105,110,45,98,111,116,116,111,109]⟩:ByteArray))],[.v (.string (⟨#[109,97,114,103,105,110,45,108,101,102,116]⟩:ByteArray))],[.v (.string (⟨#[112,97,100,100,105,110,103,45,116,111,112]⟩:ByteArray))],[.v (.string (⟨#[112,97,100,100,105,110,103,45,114,105,103,104,116]⟩:ByteArray))],[.v (.string (⟨#[112,97,100,100,105,110,103,45,98,111,116,116,111,109]⟩:ByteArray))],[.v (.string (⟨#[112,97,100,100,105,110,103,45,108,101,102,116]⟩:ByteArray))],[.v (.string (⟨#[98,111,114,100,101,114,45,116,111,112]⟩:ByteArray))],[.v (.string (⟨#[98,111,114,100,101,114,45,114,105,103,104,116]⟩:ByteArray))],[.v (.string (⟨#[98,111,114,100,101,114,45,98,111,116,116,111,109]⟩:ByteArray))],[.v (.string (⟨#[98,111,114,100,101,114,45,108,101,102,116]⟩:ByteArray))],[.v (.string (⟨#[102,108,101,120,45,100,105,114,101,99,116,105,111,110]⟩:ByteArray))],[.v (.string (⟨#[102,108,101,120,45,119,114,97,112]⟩:ByteArray))],[.v (.string (⟨#[102,108,101,120,45,98,97,115,105,115]⟩:ByteArray))],[.v (.string (⟨#[102,108,101,120,45,103,114,111,119]⟩:ByteArray))],[.v (.string (⟨#[102,108,101,120,45,115,104,114,105,110,107]⟩:ByteArray))],[.v (.string (⟨#[111,114,100,101,114]⟩:ByteArray))],[.v (.string (⟨#[106,117,115,116,105,102,121,45,99,111,110,116,101,110,116]⟩:ByteArray))],[.v (.string (⟨#[97,108,105,103,110,45,105,116,101,109,115]⟩:ByteArray))],[.v (.string (⟨#[97,108,105,103,110,45,115,101,108,102]⟩:ByteArray))],[.v (.string (⟨#[116,101,120,116,45,97,108,105,103,110]⟩:ByteArray))],[.v (.string (⟨#[119,104,105,116,101,45,115,112,97,99,101]⟩:ByteArray))],[.v (.string (⟨#[108,105,110,101,45,104,101,105,103,104,116]⟩:ByteArray))],[.v (.string (⟨#[111,118,101,114,102,108,111,119]⟩:ByteArray))]] [.v (.string (⟨#[]⟩:ByteArray))]⟩] }):=by kernel_rfl
theorem pa3_f {s:ByteArray}{n:Nat}{D:Nat->Gl}{a:Int}{nm:ByteArray}{v e:Int}{p i:Int}:(rT paG nol 0 35 (bodyOf Try.f168 3) paK3 paK3 (pa3 s n D a nm v e p i)).go (dN 5 15)=some ([decide (i<((33:Nat):Int)),decide ((0:Int)<=i),decide (i<((33:Nat):Int)),decide (0+i.toNat<33),!([(⟨#[]⟩:ByteArray),(⟨#[100,105,115,112,108,97,121]⟩:ByteArray),(⟨#[119,105,100,116,104]⟩:ByteArray),(⟨#[104,101,105,103,104,116]⟩:ByteArray),(⟨#[109,105,110,45,119,105,100,116,104]⟩:ByteArray),(⟨#[109,105,110,45,104,101,105,103,104,116]⟩:ByteArray),(⟨#[109,97,120,45,119,105,100,116,104]⟩:ByteArray),(⟨#[109,97,120,45,104,101,105,103,104,116]⟩:ByteArray),(⟨#[109,97,114,103,105,110,45,116,111,112]⟩:ByteArray),(⟨#[109,97,114,103,105,110,45,114,105,103,104,116]⟩:ByteArray),(⟨#[109,97,114,103,105,110,45,98,111,116,116,111,109]⟩:ByteArray),(⟨#[109,97,114,103,105,110,45,108,101,102,116]⟩:ByteArray),(⟨#[112,97,100,100,105,110,103,45,116,111,112]⟩:ByteArray),(⟨#[112,97,100,100,105,110,103,45,114,105,103,104,116]⟩:ByteArray),(⟨#[112,97,100,100,105,110,103,45,98,111,116,116,111,109]⟩:ByteArray),(⟨#[112,97,100,100,105,110,103,45,108,101,102,116]⟩:ByteArray),(⟨#[98,111,114,100,101,114,45,116,111,112]⟩:ByteArray),(⟨#[98,111,114,100,101,114,45,114,105,103,104,116]⟩:ByteArray),(⟨#[98,111,114,100,101,114,45,98,111,116,116,111,109]⟩:ByteArray),(⟨#[98,111,114,100,101,114,45,108,101,102,116]⟩:ByteArray),(⟨#[102,108,101,120,45,100,105,114,101,99,116,105,111,110]⟩:ByteArray),(⟨#[102,108,101,120,45,119,114,97,112]⟩:ByteArray),(⟨#[102,108,101,120,45,98,97,115,105,115]⟩:ByteArray),(⟨#[102,108,101,120,45,103,114,111,119]⟩:ByteArray),(⟨#[102,108,101,120,45,115,104,114,105,110,107]⟩:ByteArray),(⟨#[111,114,100,101,114]⟩:ByteArray),(⟨#[106,117,115,116,105,102,121,45,99,111,110,116,101,110,116]⟩:ByteArray),(⟨#[97,108,105,103,110,45,105,116,101,109,115]⟩:ByteArray),(⟨#[97,108,105,103,110,45,115,101,108,102]⟩:ByteArray),(⟨#[116,101,120,116,45,97,108,105,103,110]⟩:ByteArray),(⟨#[119,104,105,116,101,45,115,112,97,99,101]⟩:ByteArray),(⟨#[108,105,110,101,45,104,101,105,103,104,116]⟩:ByteArray),(⟨#[111,118,101,114,102,108,111,119]⟩:ByteArray)].getD (0+i.toNat) (⟨#[]⟩:ByteArray)).toList==nm.toList],Ex.normal,{ sl:=slots 138 [(0,.c (.v (.string s))),(5,.c (.sl 0 0 n)),(6,I64 a),(8,.c (.v (.string nm))),(10,I64 v),(11,I64 e),(12,I64 p),(13,.c (.sl 1 0 33)),(14,I64 (w64 (i+(1:Int))))],h:=[some ⟨207,true,.row 4 n fun j=>[.int .i64 (D j).k,.int .i64 (D j).r,.int .i64 (D j).a,.int .i64 (D j).w]⟩,some ⟨9,true,.lst 1 [[.v (.string (⟨#[]⟩:ByteArray))],[.v (.string (⟨#[100,105,115,112,108,97,121]⟩:ByteArray))],[.v (.string (⟨#[119,105,100,116,104]⟩:ByteArray))],[.v (.string (⟨#[104,101,105,103,104,116]⟩:ByteArray))],[.v (.string (⟨#[109,105,110,45,119,105,100,116,104]⟩:ByteArray))],[.v (.string (⟨#[109,105,110,45,104,101,105,103,104,116]⟩:ByteArray))],[.v (.string (⟨#[109,97,120,45,119,105,100,116,104]⟩:ByteArray))],[.v (.string (⟨#[109,97,120,45,104,101,105,103,104,116]⟩:ByteArray))],[.v (.string (⟨#[109,97,114,103,105,110,45,116,111,112]⟩:ByteArray))],[.v (.string (⟨#[109,97,114,103,105,110,45,114,105,103,104,116]⟩:ByteArray))],[.v (.string (⟨#[109,97,114,103,105,110,45,98,111,116,116,111,109]⟩:ByteArray))],[.v (.string (⟨#[109,97,114,103,105,110,45,108,101,102,116]⟩:ByteArray))],[.v (.string (⟨#[112,97,100,100,105,110,103,45,116,111,112]⟩:ByteArray))],[.v (.string (⟨#[112,97,100,100,105,110,103,45,114,105,103,104,116]⟩:ByteArray))],[.v (.string (⟨#[112,97,100,100,105,110,103,45,98,111,116,116,111,109]⟩:ByteArray))],[.v (.string (⟨#[112,97,100,100,105,110,103,45,108,101,102,116]⟩:ByteArray))],[.v (.string (⟨#[98,111,114,100,101,114,45,116,111,112]⟩:ByteArray))],[.v (.string (⟨#[98,111,114,100,101,114,45,114,105,103,104,116]⟩:ByteArray))],[.v (.string (⟨#[98,111,114,100,101,114,45,98,111,116,116,111,109]⟩:ByteArray))],[.v (.string (⟨#[98,111,114,100,101,114,45,108,101,102,116]⟩:ByteArray))],[.v (.string (⟨#[102,108,101,120,45,100,105,114,101,99,116,105,111,110]⟩:ByteArray))],[.v (.string (⟨#[102,108,101,120,45,119,114,97,112]⟩:ByteArray))],[.v (.string (⟨#[102,108,101,120,45,98,97,115,105,115]⟩:ByteArray))],[.v (.string (⟨#[102,108,101,120,45,103,114,111,119]⟩:ByteArray))],[.v (.string (⟨#[102,108,101,120,45,115,104,114,105,110,107]⟩:ByteArray))],[.v (.string (⟨#[111,114,100,101,114]⟩:ByteArray))],[.v (.string (⟨#[106,117,115,116,105,102,121,45,99,111,110,116,101,110,116]⟩:ByteArray))],[.v (.string (⟨#[97,108,105,103,110,45,105,116,101,109,115]⟩:ByteArray))],[.v (.string (⟨#[97,108,105,103,110,45,115,101,108,102]⟩:ByteArray))],[.v (.string (⟨#[116,101,120,116,45,97,108,105,103,110]⟩:ByteArray))],[.v (.string (⟨#[119,104,105,116,101,45,115,112,97,99,101]⟩:ByteArray))],[.v (.string (⟨#[108,105,110,101,45,104,101,105,103,104,116]⟩:ByteArray))],[.v (.string (⟨#[111,118,101,114,102,108,111,119]⟩:ByteArray))]] [.v (.string (⟨#[]⟩:ByteArray))]⟩] }):=by kernel_rfl
theorem pa3_e {s:ByteArray}{n:Nat}{D:Nat->Gl}{a:Int}{nm:ByteArray}{v e:Int}{p i:Int}:(rT paG nol 0 35 (bodyOf Try.f168 3) paK3 paK3 (pa3 s n D a nm v e p i)).go [false]=some ([!decide (i<((33:Nat):Int))],Ex.exit 6,{ sl:=slots 138 [(0,.c (.v (.string s))),(5,.c (.sl 0 0 n)),(6,I64 a),(8,.c (.v (.string nm))),(10,I64 v),(11,I64 e),(12,I64 p),(13,.c (.sl 1 0 33)),(14,I64 i)],h:=[some ⟨207,true,.row 4 n fun j=>[.int .i64 (D j).k,.int .i64 (D j).r,.int .i64 (D j).a,.int .i64 (D j).w]⟩,some ⟨9,true,.lst 1 [[.v (.string (⟨#[]⟩:ByteArray))],[.v (.string (⟨#[100,105,115,112,108,97,121]⟩:ByteArray))],[.v (.string (⟨#[119,105,100,116,104]⟩:ByteArray))],[.v (.string (⟨#[104,101,105,103,104,116]⟩:ByteArray))],[.v (.string (⟨#[109,105,110,45,119,105,100,116,104]⟩:ByteArray))],[.v (.string (⟨#[109,105,110,45,104,101,105,103,104,116]⟩:ByteArray))],[.v (.string (⟨#[109,97,120,45,119,105,100,116,104]⟩:ByteArray))],[.v (.string (⟨#[109,97,120,45,104,101,105,103,104,116]⟩:ByteArray))],[.v (.string (⟨#[109,97,114,103,105,110,45,116,111,112]⟩:ByteArray))],[.v (.string (⟨#[109,97,114,103,105,110,45,114,105,103,104,116]⟩:ByteArray))],[.v (.string (⟨#[109,97,114,103,105,110,45,98,111,116,116,111,109]⟩:ByteArray))],[.v (.string (⟨#[109,97,114,103,105,110,45,108,101,102,116]⟩:ByteArray))],[.v (.string (⟨#[112,97,100,100,105,110,103,45,116,111,112]⟩:ByteArray))],[.v (.string (⟨#[112,97,100,100,105,110,103,45,114,105,103,104,116]⟩:ByteArray))],[.v (.string (⟨#[112,97,100,100,105,110,103,45,98,111,116,116,111,109]⟩:ByteArray))],[.v (.string (⟨#[112,97,100,100,105,110,103,45,108,101,102,116]⟩:ByteArray))],[.v (.string (⟨#[98,111,114,100,101,114,45,116,111,112]⟩:ByteArray))],[.v (.string (⟨#[98,111,114,100,101,114,45,114,105,103,104,116]⟩:ByteArray))],[.v (.string (⟨#[98,111,114,100,101,114,45,98,111,116,116,111,109]⟩:ByteArray))],[.v (.string (⟨#[98,111,114,100,101,114,45,108,101,102,116]⟩:ByteArray))],[.v (.string (⟨#[102,108,101,120,45,100,105,114,101,99,116,105,111,110]⟩:ByteArray))],[.v (.string (⟨#[102,108,101,120,45,119,114,97,112]⟩:ByteArray))],[.v (.string (⟨#[102,108,101,120,45,98,97,115,105,115]⟩:ByteArray))],[.v (.string (⟨#[102,108,101,120,45,103,114,111,119]⟩:ByteArray))],[.v (.string (⟨#[102,108,101,120,45,115,104,114,105,110,107]⟩:ByteArray))],[.v (.string (⟨#[111,114,100,101,114]⟩:ByteArray))],[.v (.string (⟨#[106,117,115,116,105,102,121,45,99,111,110,116,101,110,116]⟩:ByteArray))],[.v (.string (⟨#[97,108,105,103,110,45,105,116,101,109,115]⟩:ByteArray))],[.v (.string (⟨#[97,108,105,103,110,45,115,101,108,102]⟩:ByteArray))],[.v (.string (⟨#[116,101,120,116,45,97,108,105,103,110]⟩:ByteArray))],[.v (.string (⟨#[119,104,105,116,101,45,115,112,97,99,101]⟩:ByteArray))],[.v (.string (⟨#[108,105,110,101,45,104,101,105,103,104,116]⟩:ByteArray))],[.v (.string (⟨#[111,118,101,114,102,108,111,119]⟩:ByteArray))]] [.v (.string (⟨#[]⟩:ByteArray))]⟩] }):=by kernel_rfl
end
end Go.Proofs.Ytcpahifgdppkbaa.QAI
