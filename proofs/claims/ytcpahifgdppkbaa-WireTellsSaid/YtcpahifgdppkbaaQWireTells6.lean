/- Lemmas. -/
import Derived.Test.YtcpahifgdppkbaaQWireTells5
set_option linter.unusedVariables false
set_option linter.unusedSimpArgs false
set_option maxRecDepth 100000
namespace Go.Proofs.Ytcpahifgdppkbaa.QAI
section
open Go Go.RowKit
def SameB:Option ABlk->Option ABlk->Prop
 | none,none=>True
 | some b,some b'=>b.t=b'.t/\b.own=b'.own/\b.c.sz=b'.c.sz/\b.c.n=b'.c.n/\∀ i,i<b.c.n->b.c.el i=b'.c.el i
 | _,_=>False
theorem SameB.refl:∀ b,SameB b b
 | none=>trivial
 | some b=>⟨rfl,rfl,rfl,rfl,fun _ _=>rfl⟩
theorem SameB.symm:∀ {b b'},SameB b b'->SameB b' b
 | none,none,_=>trivial
 | some b,some b',⟨h1,h2,h3,h4,h5⟩=>⟨h1.symm,h2.symm,h3.symm,h4.symm,fun i hi=>(h5 i (by rw [h4];exact hi)).symm⟩
def SameH (h h':AHeap):Prop:=F2 SameB h h'
theorem SameH.refl:∀ h,SameH h h
 | []=>.nil
 | b::h=>.cons (SameB.refl b) (SameH.refl h)
theorem SameH.symm {h h':AHeap}(H:SameH h h'):SameH h' h:=by
 induction H with
 | nil=>exact .nil
 | cons hr _ ih=>exact .cons hr.symm ih
theorem SameH.get {h h':AHeap}(H:SameH h h') {id:Nat}{b':ABlk}(hb:h'[id]?=some (some b')):∃ b,h[id]?=some (some b)/\SameB (some b) (some b'):=by
 obtain ⟨o,h1,h2⟩:=F2.get (SameH.symm H) id _ hb
 match o,h2 with
 | some b,h2=>exact ⟨b,h1,SameB.symm h2⟩
theorem BR.same {B:Nat}{m:List Pl}{b b':ABlk}{p:Pl}{w:World}(h:SameB (some b) (some b')) (H:BR B m b p w):BR B m b' p w:=by
 obtain ⟨h1,h2,h3,h4,h5⟩:=h
 constructor
 ·rw [H.sz,h3]
 ·intro i hi
  rw [<-h5 i (by rw [h4];exact hi)]
  exact H.len i (by rw [h4];exact hi)
 ·rw [<-h4];exact H.cap
 ·intro i j c hi hc
  rw [<-h5 i (by rw [h4];exact hi)] at hc
  exact H.cell i j c (by rw [h4];exact hi) hc
 ·intro ho
  rw [<-h1]
  exact H.own (by rw [h2];exact ho)
 ·intro ho A hA h0
  exact H.came (by rw [h2];exact ho) A hA (by rw [h4];exact h0)
theorem HR.same {B:Nat}{m:List Pl}{h h':AHeap}{w:World}(e:SameH h h') (H:HR B m h w):HR B m h' w:=by
 constructor
 ·rw [H.len];exact e.length
 ·intro id b p hb hp
  obtain ⟨b0,h1,h2⟩:=e.get hb
  exact (H.blk id b0 p h1 hp).same h2
 ·intro id id' b b' p p' A A' hne hb hb' ho ho' hp hp' hA hA'
  obtain ⟨b0,h1,h2⟩:=e.get hb
  obtain ⟨b1,h3,h4⟩:=e.get hb'
  exact H.apart id id' b0 b1 p p' A A' hne h1 h3 (by rw [h2.2.1];exact ho) (by rw [h4.2.1];exact ho') hp hp' hA hA'
theorem Own.same {m:List Pl}{h h':AHeap}{k:Nat}(e:SameH h h') (H:Own m h' k):Own m h k:=by
 obtain ⟨id,b,p,A,hb,ho,hp,hA,hk⟩:=H
 obtain ⟨b0,h1,h2⟩:=e.get hb
 exact ⟨id,b0,p,A,h1,by rw [h2.2.1];exact ho,hp,hA,hk⟩
theorem SpecOk.same {P:Program}{f:FuncId}{F F':Spec}(hF:SpecOk P f F) (h:∀ args H r H',(F' args H).eval=some (r,H')->∃ H1 H1',SameH H1 H/\SameH H1' H'/\(F args H1).eval=some (r,H1')):SpecOk P f F':=by
 intro B args H r H' he m w vals hH hB hv
 obtain ⟨H1,H1',e1,e2,he1⟩:=h args H r H' he
 refine (hF B args H1 r H1' he1 m w vals (hH.same e1.symm) hB hv).mono fun e w' ⟨m',x,h1,hst,hr⟩=>⟨m',x,h1,?_,hr⟩
 refine ⟨hst.ext,hst.hr.same e2,⟨hst.fr.os,hst.fr.tape,hst.fr.output,hst.fr.size,fun k hk hx=>hst.fr.blk k hk fun hy=>hx (hy.same e1.symm)⟩,fun k hk=>?_⟩
 rcases hst.own k (hk.same e2) with h2|h2
 ·exact .inl (h2.same e1.symm)
 ·exact .inr h2
end
section
open Go Go.RowKit
abbrev eqK:List (Nat × Option TypeId):=[(0,none),(1,none),(4,none),(12,none),(13,none)]
noncomputable def eqG:Ctx2:=GT [] (fun k=>if k=4 then eqK else []) 0 []
theorem eqG_ok:XOk eqG:=GT_ok nilK _ _ _
def eqS (o1 o2:Bool) (m1 m2:Nat) (P1 P2:Nat->Opp) (n n2:Nat) (i:Int):St:=⟨slots 26 [(0,.c (.sl 0 0 n)),(1,.c (.sl 1 0 n2)),(4,Bo false),(12,I64 n),(13,I64 i)],[rowP o1 m1 P1,rowP o2 m2 P2]⟩
theorem eq_e {o1 o2:Bool}{m1 m2:Nat}{P1 P2:Nat->Opp}{n n2:Nat}{i:Int}:(rT eqG nol 2 54 (bodyOf Try.f161 0) eqK eqK (eqS o1 o2 m1 m2 P1 P2 n n2 i)).go [false]=some ([!decide (i<((n:Nat):Int))],Ex.exit 0,{ sl:=slots 26 [(0,.c (.sl 0 0 n)),(1,.c (.sl 1 0 n2)),(4,Bo false),(12,I64 ((n:Nat):Int)),(13,I64 i)],h:=[some ⟨121,o1,.row 5 m1 fun j=>[.int .i64 (P1 j).k,.int .i64 (P1 j).i,.int .i64 (P1 j).a,.int .i64 (P1 j).b,.string (P1 j).s]⟩,some ⟨121,o2,.row 5 m2 fun j=>[.int .i64 (P2 j).k,.int .i64 (P2 j).i,.int .i64 (P2 j).a,.int .i64 (P2 j).b,.string (P2 j).s]⟩] }):=by kernel_rfl
theorem eq_df {o1 o2:Bool}{m1 m2:Nat}{P1 P2:Nat->Opp}{n n2:Nat}{i:Int}:(rT eqG nol 2 54 (bodyOf Try.f161 0) eqK eqK (eqS o1 o2 m1 m2 P1 P2 n n2 i)).go []=some ([decide (i<((n:Nat):Int)),decide ((0:Int)<=i),decide (i<((n:Nat):Int)),decide (0+i.toNat<m1),decide ((0:Int)<=i),decide (i<((n2:Nat):Int)),decide (0+i.toNat<m2),!((P1 (0+i.toNat)).k==(P2 (0+i.toNat)).k&&((P1 (0+i.toNat)).i==(P2 (0+i.toNat)).i&&((P1 (0+i.toNat)).a==(P2 (0+i.toNat)).a&&((P1 (0+i.toNat)).b==(P2 (0+i.toNat)).b&&((P1 (0+i.toNat)).s==(P2 (0+i.toNat)).s&&true)))))],Ex.ret,{ sl:=slots 26 [(0,.c (.sl 0 0 n)),(1,.c (.sl 1 0 n2)),(4,Bo false),(12,I64 ((n:Nat):Int)),(13,I64 i)],h:=[some ⟨121,o1,.row 5 m1 fun j=>[.int .i64 (P1 j).k,.int .i64 (P1 j).i,.int .i64 (P1 j).a,.int .i64 (P1 j).b,.string (P1 j).s]⟩,some ⟨121,o2,.row 5 m2 fun j=>[.int .i64 (P2 j).k,.int .i64 (P2 j).i,.int .i64 (P2 j).a,.int .i64 (P2 j).b,.string (P2 j).s]⟩] }):=by kernel_rfl
theorem eq_go {o1 o2:Bool}{m1 m2:Nat}{P1 P2:Nat->Opp}{n n2:Nat}{i:Int}:(rT eqG nol 2 54 (bodyOf Try.f161 0) eqK eqK (eqS o1 o2 m1 m2 P1 P2 n n2 i)).go (dN 8 127)=some ([decide (i<((n:Nat):Int)),decide ((0:Int)<=i),decide (i<((n:Nat):Int)),decide (0+i.toNat<m1),decide ((0:Int)<=i),decide (i<((n2:Nat):Int)),decide (0+i.toNat<m2),!!((P1 (0+i.toNat)).k==(P2 (0+i.toNat)).k&&((P1 (0+i.toNat)).i==(P2 (0+i.toNat)).i&&((P1 (0+i.toNat)).a==(P2 (0+i.toNat)).a&&((P1 (0+i.toNat)).b==(P2 (0+i.toNat)).b&&((P1 (0+i.toNat)).s==(P2 (0+i.toNat)).s&&true)))))],Ex.normal,{ sl:=slots 26 [(0,.c (.sl 0 0 n)),(1,.c (.sl 1 0 n2)),(4,Bo false),(12,I64 ((n:Nat):Int)),(13,I64 (w64 (i+(1:Int))))],h:=[some ⟨121,o1,.row 5 m1 fun j=>[.int .i64 (P1 j).k,.int .i64 (P1 j).i,.int .i64 (P1 j).a,.int .i64 (P1 j).b,.string (P1 j).s]⟩,some ⟨121,o2,.row 5 m2 fun j=>[.int .i64 (P2 j).k,.int .i64 (P2 j).i,.int .i64 (P2 j).a,.int .i64 (P2 j).b,.string (P2 j).s]⟩] }):=by kernel_rfl
def nilS:AV:=.c (.v (.slice none 0 0))
def eqN:St:=⟨slots 26 [(0,nilS),(1,nilS),(4,Bo false),(12,I64 ((0:Nat):Int)),(13,I64 0)],[]⟩
def eqN1 (o1:Bool) (m1:Nat) (P1:Nat->Opp):St:=⟨slots 26 [(0,.c (.sl 0 0 0)),(1,nilS),(4,Bo false),(12,I64 ((0:Nat):Int)),(13,I64 0)],[rowP o1 m1 P1]⟩
def eqN2 (o1:Bool) (m1:Nat) (P1:Nat->Opp):St:=⟨slots 26 [(0,nilS),(1,.c (.sl 0 0 0)),(4,Bo false),(12,I64 ((0:Nat):Int)),(13,I64 0)],[rowP o1 m1 P1]⟩
theorem eqn_e:(rT eqG nol 0 54 (bodyOf Try.f161 0) eqK eqK eqN).go [false]=some ([true],Ex.exit 0,{ sl:=slots 26 [(0,.c (.v (.slice none 0 0))),(1,.c (.v (.slice none 0 0))),(4,Bo false),(12,I64 ((0:Nat):Int)),(13,I64 0)],h:=[] }):=by kernel_rfl
theorem eqn1_e {o1:Bool}{m1:Nat}{P1:Nat->Opp}:(rT eqG nol 1 54 (bodyOf Try.f161 0) eqK eqK (eqN1 o1 m1 P1)).go [false]=some ([true],Ex.exit 0,{ sl:=slots 26 [(0,.c (.sl 0 0 0)),(1,.c (.v (.slice none 0 0))),(4,Bo false),(12,I64 ((0:Nat):Int)),(13,I64 0)],h:=[some ⟨121,o1,.row 5 m1 fun j=>[.int .i64 (P1 j).k,.int .i64 (P1 j).i,.int .i64 (P1 j).a,.int .i64 (P1 j).b,.string (P1 j).s]⟩] }):=by kernel_rfl
theorem eqn2_e {o1:Bool}{m1:Nat}{P1:Nat->Opp}:(rT eqG nol 1 54 (bodyOf Try.f161 0) eqK eqK (eqN2 o1 m1 P1)).go [false]=some ([true],Ex.exit 0,{ sl:=slots 26 [(0,.c (.v (.slice none 0 0))),(1,.c (.sl 0 0 0)),(4,Bo false),(12,I64 ((0:Nat):Int)),(13,I64 0)],h:=[some ⟨121,o1,.row 5 m1 fun j=>[.int .i64 (P1 j).k,.int .i64 (P1 j).i,.int .i64 (P1 j).a,.int .i64 (P1 j).b,.string (P1 j).s]⟩] }):=by kernel_rfl
theorem eq_nn:(lfun eqG (tell (bodyOf Try.f161 0) eqN (.exit 0,eqN)) 60 Try.f161 [nilS,nilS] []).go [false]=some ([true,yes (wasS (bodyOf Try.f161 0) eqN)],Bo true,[]):=by kernel_rfl
theorem eq_sn0 {o1:Bool}{m1:Nat}{P1:Nat->Opp}:(lfun eqG (tell (bodyOf Try.f161 0) (eqN1 o1 m1 P1) (.exit 0,eqN1 o1 m1 P1)) 60 Try.f161 [.c (.sl 0 0 0),nilS] [rowP o1 m1 P1]).go [false]=some ([true,yes (wasS (bodyOf Try.f161 0) (eqN1 o1 m1 P1))],Bo true,[some ⟨121,o1,.row 5 m1 fun j=>[.int .i64 (P1 j).k,.int .i64 (P1 j).i,.int .i64 (P1 j).a,.int .i64 (P1 j).b,.string (P1 j).s]⟩]):=by kernel_rfl
theorem eq_ns0 {o1:Bool}{m1:Nat}{P1:Nat->Opp}:(lfun eqG (tell (bodyOf Try.f161 0) (eqN2 o1 m1 P1) (.exit 0,eqN2 o1 m1 P1)) 60 Try.f161 [nilS,.c (.sl 0 0 0)] [rowP o1 m1 P1]).go [false]=some ([true,yes (wasS (bodyOf Try.f161 0) (eqN2 o1 m1 P1))],Bo true,[some ⟨121,o1,.row 5 m1 fun j=>[.int .i64 (P1 j).k,.int .i64 (P1 j).i,.int .i64 (P1 j).a,.int .i64 (P1 j).b,.string (P1 j).s]⟩]):=by kernel_rfl
theorem eq_ns {o2:Bool}{m2 n:Nat}{P2:Nat->Opp}:(lfun eqG nol 60 Try.f161 [.c (.v (.slice none 0 0)),.c (.sl 0 0 n)] [rowP o2 m2 P2]).go []=some ([((0:Nat):Int) != ((n:Nat):Int)],Bo false,[some ⟨121,o2,.row 5 m2 fun j=>[.int .i64 (P2 j).k,.int .i64 (P2 j).i,.int .i64 (P2 j).a,.int .i64 (P2 j).b,.string (P2 j).s]⟩]):=by kernel_rfl
theorem eq_sn {o1:Bool}{m1 n:Nat}{P1:Nat->Opp}:(lfun eqG nol 60 Try.f161 [.c (.sl 0 0 n),.c (.v (.slice none 0 0))] [rowP o1 m1 P1]).go []=some ([((n:Nat):Int) != ((0:Nat):Int)],Bo false,[some ⟨121,o1,.row 5 m1 fun j=>[.int .i64 (P1 j).k,.int .i64 (P1 j).i,.int .i64 (P1 j).a,.int .i64 (P1 j).b,.string (P1 j).s]⟩]):=by kernel_rfl
theorem eq_sd {o1 o2:Bool}{m1 m2:Nat}{P1 P2:Nat->Opp}{n1 n2:Nat}:(lfun eqG nol 60 Try.f161 [.c (.sl 0 0 n1),.c (.sl 1 0 n2)] [rowP o1 m1 P1,rowP o2 m2 P2]).go []=some ([((n1:Nat):Int) != ((n2:Nat):Int)],Bo false,[some ⟨121,o1,.row 5 m1 fun j=>[.int .i64 (P1 j).k,.int .i64 (P1 j).i,.int .i64 (P1 j).a,.int .i64 (P1 j).b,.string (P1 j).s]⟩,some ⟨121,o2,.row 5 m2 fun j=>[.int .i64 (P2 j).k,.int .i64 (P2 j).i,.int .i64 (P2 j).a,.int .i64 (P2 j).b,.string (P2 j).s]⟩]):=by kernel_rfl
theorem eq_wt {o1 o2:Bool}{m1 m2:Nat}{P1 P2:Nat->Opp}{n1 n2:Nat}{i:Int}:(lfun eqG (tell (bodyOf Try.f161 0) (eqS o1 o2 m1 m2 P1 P2 n1 n2 0) (.exit 0,eqS o1 o2 m1 m2 P1 P2 n1 n2 i)) 60 Try.f161 [.c (.sl 0 0 n1),.c (.sl 1 0 n2)] [rowP o1 m1 P1,rowP o2 m2 P2]).go [false]=some ([!((n1:Nat):Int) != ((n2:Nat):Int),yes (wasS (bodyOf Try.f161 0) (eqS o1 o2 m1 m2 P1 P2 n1 n2 0))],Bo true,[some ⟨121,o1,.row 5 m1 fun j=>[.int .i64 (P1 j).k,.int .i64 (P1 j).i,.int .i64 (P1 j).a,.int .i64 (P1 j).b,.string (P1 j).s]⟩,some ⟨121,o2,.row 5 m2 fun j=>[.int .i64 (P2 j).k,.int .i64 (P2 j).i,.int .i64 (P2 j).a,.int .i64 (P2 j).b,.string (P2 j).s]⟩]):=by kernel_rfl
theorem eq_wf {o1 o2:Bool}{m1 m2:Nat}{P1 P2:Nat->Opp}{n1 n2:Nat}{i:Int}:(lfun eqG (tell (bodyOf Try.f161 0) (eqS o1 o2 m1 m2 P1 P2 n1 n2 0) (.ret,eqS o1 o2 m1 m2 P1 P2 n1 n2 i)) 60 Try.f161 [.c (.sl 0 0 n1),.c (.sl 1 0 n2)] [rowP o1 m1 P1,rowP o2 m2 P2]).go [false]=some ([!((n1:Nat):Int) != ((n2:Nat):Int),yes (wasS (bodyOf Try.f161 0) (eqS o1 o2 m1 m2 P1 P2 n1 n2 0))],Bo false,[some ⟨121,o1,.row 5 m1 fun j=>[.int .i64 (P1 j).k,.int .i64 (P1 j).i,.int .i64 (P1 j).a,.int .i64 (P1 j).b,.string (P1 j).s]⟩,some ⟨121,o2,.row 5 m2 fun j=>[.int .i64 (P2 j).k,.int .i64 (P2 j).i,.int .i64 (P2 j).a,.int .i64 (P2 j).b,.string (P2 j).s]⟩]):=by kernel_rfl
end
section
open Go Go.RowKit
theorem first_diff (p:Nat->Prop):∀ n,(∀ t,t<n->p t)\/∃ t,t<n/\¬ p t/\∀ s,s<t->p s
 | 0=>.inl fun t h=>absurd h (Nat.not_lt_zero t)
 | n+1=>by
  rcases first_diff p n with h | ⟨t,h1,h2,h3⟩
  ·by_cases hn:p n
   ·refine .inl fun t ht=>?_
    by_cases e:t=n
    ·subst e;exact hn
    ·exact h t (by omega)
   ·exact .inr ⟨n,by omega,hn,h⟩
  ·exact .inr ⟨t,by omega,h2,h3⟩
theorem ba_beq (a b:ByteArray):(a==b)=true ↔ a=b:=by
 cases a with|mk x=>cases b with|mk y=>
 show (ByteArray.beq ⟨x⟩ ⟨y⟩)=true ↔ _
 simp [ByteArray.beq]
theorem eqO_iff (a b:Opp):(a.k==b.k&&(a.i==b.i&&(a.a==b.a&&(a.b==b.b&&(a.s==b.s&&true)))))=true ↔ a=b:=by
 cases a;cases b
 simp only [Bool.and_eq_true,beq_iff_eq,ba_beq,and_true,Opp.mk.injEq]
theorem eq_loop_t {o1 o2:Bool}{m1 m2:Nat}{P1 P2:Nat->Opp}{n:Nat}(h1:n<=m1) (h2:n<=m2) (hn:n<2^60) (hp:∀ t,t<n->P1 t=P2 t) :
  CodeSem eqG 2 (.loop (bodyOf Try.f161 0)) (eqS o1 o2 m1 m2 P1 P2 n n 0) (.exit 0,eqS o1 o2 m1 m2 P1 P2 n n (n:Nat)):=by
 refine loop_of (fun i=>eqS o1 o2 m1 m2 P1 P2 n n (i:Nat)) n (by simp) ?_ fun j hj=>?_
 ·exact rT_sem eqG_ok noLoopsS (rT_go eq_e ⟨by rw [decide_eq_false (by omega)];rfl,trivial⟩)
 ·have e1:=succ64 (j:=j) (by omega)
  refine rT_sem eqG_ok noLoopsS ((rT_go eq_go ?_).trans ?_)
  ·simp only [Int.toNat_natCast,Nat.zero_add]
   have e2:=(eqO_iff (P1 j) (P2 j)).2 (hp j hj)
   repeat' (first|exact AllT.nil|refine AllT.cons ?_ ?_)
   all_goals first|(with_reducible rfl)|exact decide_eq_true (by omega)|(rw [e2];rfl)
  ·simp only [Int.toNat_natCast,e1]
   rfl
theorem eq_loop_f {o1 o2:Bool}{m1 m2:Nat}{P1 P2:Nat->Opp}{n t:Nat}(h1:n<=m1) (h2:n<=m2) (hn:n<2^60) (ht:t<n) (hd:¬ P1 t=P2 t) (hp:∀ s,s<t->P1 s=P2 s) :
  CodeSem eqG 2 (.loop (bodyOf Try.f161 0)) (eqS o1 o2 m1 m2 P1 P2 n n 0) (.ret,eqS o1 o2 m1 m2 P1 P2 n n (t:Nat)):=by
 refine loop_of (fun i=>eqS o1 o2 m1 m2 P1 P2 n n (i:Nat)) t (by simp) ?_ fun j hj=>?_
 ·refine rT_sem eqG_ok noLoopsS ((rT_go eq_df ?_).trans ?_)
  ·simp only [Int.toNat_natCast,Nat.zero_add]
   have e2:(((P1 t).k==(P2 t).k&&((P1 t).i==(P2 t).i&&((P1 t).a==(P2 t).a&&((P1 t).b==(P2 t).b&&((P1 t).s==(P2 t).s&&true))))):Bool)=false:=by
    rw [<-Bool.not_eq_true,eqO_iff];exact hd
   repeat' (first|exact AllT.nil|refine AllT.cons ?_ ?_)
   all_goals first|(with_reducible rfl)|exact decide_eq_true (by omega)|(rw [e2];rfl)
  ·rfl
 ·have e1:=succ64 (j:=j) (by omega)
  refine rT_sem eqG_ok noLoopsS ((rT_go eq_go ?_).trans ?_)
  ·simp only [Int.toNat_natCast,Nat.zero_add]
   have e2:=(eqO_iff (P1 j) (P2 j)).2 (hp j hj)
   repeat' (first|exact AllT.nil|refine AllT.cons ?_ ?_)
   all_goals first|(with_reducible rfl)|exact decide_eq_true (by omega)|(rw [e2];rfl)
  ·simp only [Int.toNat_natCast,e1]
   rfl
noncomputable def eqF:Spec:=fun args h=>match args,h with
 | [.c (.v (.slice none 0 0)),.c (.v (.slice none 0 0))],[]=>.ret (Bo true,[])
 | [.c (.v (.slice none 0 0)),.c (.sl 0 0 n)],[some ⟨121,o,.row 5 m f⟩]=>.need (yes (f=fun j=>encO (decO (f j)))) (.ret (Bo (decide (n=0)),[rowP o m fun j=>decO (f j)]))
 | [.c (.sl 0 0 n),.c (.v (.slice none 0 0))],[some ⟨121,o,.row 5 m f⟩]=>.need (yes (f=fun j=>encO (decO (f j)))) (.ret (Bo (decide (n=0)),[rowP o m fun j=>decO (f j)]))
 | [.c (.sl 0 0 n1),.c (.sl 1 0 n2)],[some ⟨121,o1,.row 5 m1 f1⟩,some ⟨121,o2,.row 5 m2 f2⟩]=>
  .need (yes (n1<=m1/\n2<=m2/\n1<2^60/\(f1=fun j=>encO (decO (f1 j)))/\f2=fun j=>encO (decO (f2 j))))
   (.ret (Bo (yes (n1=n2/\∀ t,t<n1->decO (f1 t)=decO (f2 t))),[rowP o1 m1 fun j=>decO (f1 j),rowP o2 m2 fun j=>decO (f2 j)]))
 | _,_=>.fail
theorem yes_no {p:Prop}(h:¬ p):yes p=false:=by
 cases e:yes p with
 | false=>rfl
 | true=>exact absurd (by simpa [yes] using e) h
theorem eqF_ok:SpecOk Try.prog 161 eqF:=by
 refine knownS nilK Try.func161 fun args h r he=>?_
 unfold eqF at he
 split at he
 ·cases he
  exact ⟨(fun k=>if k=4 then eqK else []),[],60,_,tell_ok (LoopR.stop (by simp) (rT_sem eqG_ok noLoopsS (rT_go eqn_e ⟨rfl,trivial⟩))).sem,(Tr.go_eval eq_nn ⟨rfl,yes_of ⟨rfl,rfl⟩,trivial⟩).trans rfl⟩
 ·rename_i n o m f
  obtain ⟨h1,he'⟩:=Tr.eval_ask.1 he
  cases he'
  have e2:some ⟨121,o,.row 5 m f⟩=rowP o m fun j=>decO (f j):=by rw [rowP,<-h1]
  rw [e2]
  cases n with
  | zero=>exact ⟨(fun k=>if k=4 then eqK else []),[],60,_,tell_ok (LoopR.stop (by simp) (rT_sem eqG_ok noLoopsS (rT_go (eqn2_e (o1:=o) (m1:=m) (P1:=fun j=>decO (f j))) ⟨rfl,trivial⟩))).sem,(Tr.go_eval eq_ns0 ⟨rfl,yes_of ⟨rfl,rfl⟩,trivial⟩).trans rfl⟩
  | succ n=>
   have hne:(((0:Nat):Int) != ((n+1:Nat):Int))=true:=by rw [bne_iff_ne];omega
   exact ⟨(fun k=>if k=4 then eqK else []),[],60,_,noLoopsS,(Tr.go_eval eq_ns ⟨hne,trivial⟩).trans (by rw [decide_eq_false (by omega)];rfl)⟩
 ·rename_i n o m f
  obtain ⟨h1,he'⟩:=Tr.eval_ask.1 he
  cases he'
  have e2:some ⟨121,o,.row 5 m f⟩=rowP o m fun j=>decO (f j):=by rw [rowP,<-h1]
  rw [e2]
  cases n with
  | zero=>exact ⟨(fun k=>if k=4 then eqK else []),[],60,_,tell_ok (LoopR.stop (by simp) (rT_sem eqG_ok noLoopsS (rT_go (eqn1_e (o1:=o) (m1:=m) (P1:=fun j=>decO (f j))) ⟨rfl,trivial⟩))).sem,(Tr.go_eval eq_sn0 ⟨rfl,yes_of ⟨rfl,rfl⟩,trivial⟩).trans rfl⟩
  | succ n=>
   have hne:(((n+1:Nat):Int) != ((0:Nat):Int))=true:=by rw [bne_iff_ne];omega
   exact ⟨(fun k=>if k=4 then eqK else []),[],60,_,noLoopsS,(Tr.go_eval eq_sn ⟨hne,trivial⟩).trans (by rw [decide_eq_false (by omega)];rfl)⟩
 ·rename_i n1 n2 o1 m1 f1 o2 m2 f2
  obtain ⟨⟨h1,h2,h3,h4,h5⟩,he'⟩:=Tr.eval_ask.1 he
  cases he'
  have e1:some ⟨121,o1,.row 5 m1 f1⟩=rowP o1 m1 fun j=>decO (f1 j):=by rw [rowP,<-h4]
  have e2:some ⟨121,o2,.row 5 m2 f2⟩=rowP o2 m2 fun j=>decO (f2 j):=by rw [rowP,<-h5]
  rw [e1,e2]
  by_cases hn:n1=n2
  ·subst hn
   have hb:(!(((n1:Nat):Int) != ((n1:Nat):Int)))=true:=by simp
   rcases first_diff (fun t=>decO (f1 t)=decO (f2 t)) n1 with hp | ⟨t,ht,hd,hp⟩
   ·refine ⟨(fun k=>if k=4 then eqK else []),[],60,_,tell_ok (eq_loop_t (o1:=o1) (o2:=o2) (m1:=m1) (m2:=m2) (P1:=fun j=>decO (f1 j)) (P2:=fun j=>decO (f2 j)) h1 h2 h3 hp),(Tr.go_eval eq_wt ⟨hb,yes_of ⟨rfl,rfl⟩,trivial⟩).trans ?_⟩
    rw [yes_of ⟨rfl,hp⟩];rfl
   ·refine ⟨(fun k=>if k=4 then eqK else []),[],60,_,tell_ok (eq_loop_f (o1:=o1) (o2:=o2) (m1:=m1) (m2:=m2) (P1:=fun j=>decO (f1 j)) (P2:=fun j=>decO (f2 j)) h1 h2 h3 ht hd hp),(Tr.go_eval eq_wf ⟨hb,yes_of ⟨rfl,rfl⟩,trivial⟩).trans ?_⟩
    rw [yes_no fun h=>hd (h.2 t ht)];rfl
  ·have hne:(((n1:Nat):Int) != ((n2:Nat):Int))=true:=by rw [bne_iff_ne];omega
   refine ⟨(fun k=>if k=4 then eqK else []),[],60,_,noLoopsS,(Tr.go_eval eq_sd ⟨hne,trivial⟩).trans ?_⟩
   rw [yes_no fun h=>hn h.1];rfl
 ·cases he
end
section
open Go Go.RowKit
noncomputable def KSQ:Known:=[(161,eqF)]
theorem KSQ_ok:KnownOk KSQ:=consK eqF_ok (by kernel_rfl) nilK
noncomputable def sqG:Ctx2:=GT KSQ (fun _=>[]) 0 []
theorem sq_nn {a b:Qd}:(lfun sqG nol 60 Try.f144 [qV a (.v (.slice none 0 0)),qV b (.v (.slice none 0 0))] []).eval=bif a.k==b.k then bif a.n==b.n then bif a.p==b.p&&(a.t==b.t&&true) then bif a.x==b.x then bif a.y==b.y then some (Bo true,[]) else some (Bo false,[]) else some (Bo false,[]) else some (Bo false,[]) else some (Bo false,[]) else some (Bo false,[]):=by kernel_rfl
theorem sq_ns {a b:Qd}{o:Bool}{m n:Nat}{P:Nat->Opp}:(lfun sqG nol 60 Try.f144 [qV a (.v (.slice none 0 0)),qV b (.sl 0 0 n)] [rowP o m P]).eval=bif a.k==b.k then bif a.n==b.n then bif a.p==b.p&&(a.t==b.t&&true) then bif a.x==b.x then bif a.y==b.y then bif yes ((fun j=>encO (P j))=fun j=>encO (decO (encO (P j)))) then some (Bo (decide (n=0)),[some ⟨121,o,.row 5 m fun j=>[.int .i64 (decO (encO (P j))).k,.int .i64 (decO (encO (P j))).i,.int .i64 (decO (encO (P j))).a,.int .i64 (decO (encO (P j))).b,.string (decO (encO (P j))).s]⟩]) else none else some (Bo false,[some ⟨121,o,.row 5 m fun j=>[.int .i64 (P j).k,.int .i64 (P j).i,.int .i64 (P j).a,.int .i64 (P j).b,.string (P j).s]⟩]) else some (Bo false,[some ⟨121,o,.row 5 m fun j=>[.int .i64 (P j).k,.int .i64 (P j).i,.int .i64 (P j).a,.int .i64 (P j).b,.string (P j).s]⟩]) else some (Bo false,[some ⟨121,o,.row 5 m fun j=>[.int .i64 (P j).k,.int .i64 (P j).i,.int .i64 (P j).a,.int .i64 (P j).b,.string (P j).s]⟩]) else some (Bo false,[some ⟨121,o,.row 5 m fun j=>[.int .i64 (P j).k,.int .i64 (P j).i,.int .i64 (P j).a,.int .i64 (P j).b,.string (P j).s]⟩]) else some (Bo false,[some ⟨121,o,.row 5 m fun j=>[.int .i64 (P j).k,.int .i64 (P j).i,.int .i64 (P j).a,.int .i64 (P j).b,.string (P j).s]⟩]):=by kernel_rfl
theorem sq_sn {a b:Qd}{o:Bool}{m n:Nat}{P:Nat->Opp}:(lfun sqG nol 60 Try.f144 [qV a (.sl 0 0 n),qV b (.v (.slice none 0 0))] [rowP o m P]).eval=bif a.k==b.k then bif a.n==b.n then bif a.p==b.p&&(a.t==b.t&&true) then bif a.x==b.x then bif a.y==b.y then bif yes ((fun j=>encO (P j))=fun j=>encO (decO (encO (P j)))) then some (Bo (decide (n=0)),[some ⟨121,o,.row 5 m fun j=>[.int .i64 (decO (encO (P j))).k,.int .i64 (decO (encO (P j))).i,.int .i64 (decO (encO (P j))).a,.int .i64 (decO (encO (P j))).b,.string (decO (encO (P j))).s]⟩]) else none else some (Bo false,[some ⟨121,o,.row 5 m fun j=>[.int .i64 (P j).k,.int .i64 (P j).i,.int .i64 (P j).a,.int .i64 (P j).b,.string (P j).s]⟩]) else some (Bo false,[some ⟨121,o,.row 5 m fun j=>[.int .i64 (P j).k,.int .i64 (P j).i,.int .i64 (P j).a,.int .i64 (P j).b,.string (P j).s]⟩]) else some (Bo false,[some ⟨121,o,.row 5 m fun j=>[.int .i64 (P j).k,.int .i64 (P j).i,.int .i64 (P j).a,.int .i64 (P j).b,.string (P j).s]⟩]) else some (Bo false,[some ⟨121,o,.row 5 m fun j=>[.int .i64 (P j).k,.int .i64 (P j).i,.int .i64 (P j).a,.int .i64 (P j).b,.string (P j).s]⟩]) else some (Bo false,[some ⟨121,o,.row 5 m fun j=>[.int .i64 (P j).k,.int .i64 (P j).i,.int .i64 (P j).a,.int .i64 (P j).b,.string (P j).s]⟩]):=by kernel_rfl
theorem sq_ss {a b:Qd}{o o2:Bool}{m n m2 n2:Nat}{P P2:Nat->Opp}:(lfun sqG nol 60 Try.f144 [qV a (.sl 0 0 n),qV b (.sl 1 0 n2)] [rowP o m P,rowP o2 m2 P2]).eval=bif a.k==b.k then bif a.n==b.n then bif a.p==b.p&&(a.t==b.t&&true) then bif a.x==b.x then bif a.y==b.y then bif yes (n<=m/\n2<=m2/\n<2^60/\((fun j=>encO (P j))=fun j=>encO (decO (encO (P j))))/\(fun j=>encO (P2 j))=fun j=>encO (decO (encO (P2 j)))) then some (Bo (yes (n=n2/\∀ (t:Nat),t<n->decO (encO (P t))=decO (encO (P2 t)))),[some ⟨121,o,.row 5 m fun j=>[.int .i64 (decO (encO (P j))).k,.int .i64 (decO (encO (P j))).i,.int .i64 (decO (encO (P j))).a,.int .i64 (decO (encO (P j))).b,.string (decO (encO (P j))).s]⟩,some ⟨121,o2,.row 5 m2 fun j=>[.int .i64 (decO (encO (P2 j))).k,.int .i64 (decO (encO (P2 j))).i,.int .i64 (decO (encO (P2 j))).a,.int .i64 (decO (encO (P2 j))).b,.string (decO (encO (P2 j))).s]⟩]) else none else some (Bo false,[some ⟨121,o,.row 5 m fun j=>[.int .i64 (P j).k,.int .i64 (P j).i,.int .i64 (P j).a,.int .i64 (P j).b,.string (P j).s]⟩,some ⟨121,o2,.row 5 m2 fun j=>[.int .i64 (P2 j).k,.int .i64 (P2 j).i,.int .i64 (P2 j).a,.int .i64 (P2 j).b,.string (P2 j).s]⟩]) else some (Bo false,[some ⟨121,o,.row 5 m fun j=>[.int .i64 (P j).k,.int .i64 (P j).i,.int .i64 (P j).a,.int .i64 (P j).b,.string (P j).s]⟩,some ⟨121,o2,.row 5 m2 fun j=>[.int .i64 (P2 j).k,.int .i64 (P2 j).i,.int .i64 (P2 j).a,.int .i64 (P2 j).b,.string (P2 j).s]⟩]) else some (Bo false,[some ⟨121,o,.row 5 m fun j=>[.int .i64 (P j).k,.int .i64 (P j).i,.int .i64 (P j).a,.int .i64 (P j).b,.string (P j).s]⟩,some ⟨121,o2,.row 5 m2 fun j=>[.int .i64 (P2 j).k,.int .i64 (P2 j).i,.int .i64 (P2 j).a,.int .i64 (P2 j).b,.string (P2 j).s]⟩]) else some (Bo false,[some ⟨121,o,.row 5 m fun j=>[.int .i64 (P j).k,.int .i64 (P j).i,.int .i64 (P j).a,.int .i64 (P j).b,.string (P j).s]⟩,some ⟨121,o2,.row 5 m2 fun j=>[.int .i64 (P2 j).k,.int .i64 (P2 j).i,.int .i64 (P2 j).a,.int .i64 (P2 j).b,.string (P2 j).s]⟩]) else some (Bo false,[some ⟨121,o,.row 5 m fun j=>[.int .i64 (P j).k,.int .i64 (P j).i,.int .i64 (P j).a,.int .i64 (P j).b,.string (P j).s]⟩,some ⟨121,o2,.row 5 m2 fun j=>[.int .i64 (P2 j).k,.int .i64 (P2 j).i,.int .i64 (P2 j).a,.int .i64 (P2 j).b,.string (P2 j).s]⟩]):=by kernel_rfl
end
section
open Go Go.RowKit
def sameF (a b:Qd):Prop:=a.k=b.k/\a.n=b.n/\a.p=b.p/\a.t=b.t/\a.x=b.x/\a.y=b.y
theorem six_t {α:Type}{a b:Qd}{X F:α}(h:sameF a b):(bif a.k==b.k then (bif a.n==b.n then (bif a.p==b.p&&(a.t==b.t&&true) then (bif a.x==b.x then (bif a.y==b.y then X else F) else F) else F) else F) else F)=X:=by
 obtain ⟨h1,h2,h3,h4,h5,h6⟩:=h
 rw [h1,h2,h3,h4,h5,h6]
 simp
theorem six_f {α:Type}{a b:Qd}{X F:α}(h:¬ sameF a b):(bif a.k==b.k then (bif a.n==b.n then (bif a.p==b.p&&(a.t==b.t&&true) then (bif a.x==b.x then (bif a.y==b.y then X else F) else F) else F) else F) else F)=F:=by
 by_cases h1:a.k=b.k
 ·by_cases h2:a.n=b.n
  ·by_cases h3:a.p=b.p
   ·by_cases h4:a.t=b.t
    ·by_cases h5:a.x=b.x
     ·by_cases h6:a.y=b.y
      ·exact absurd ⟨h1,h2,h3,h4,h5,h6⟩ h
      ·rw [nb h6];simp
     ·rw [nb h5];simp
    ·rw [nb h4];simp
   ·rw [nb h3];simp
  ·rw [nb h2];simp
 ·rw [nb h1];rfl
noncomputable def sqF:Spec:=fun args h=>match args,h with
 | [.agg [.v (.int .i64 k1),.v (.int .i64 n1),.v (.int .i64 p1),.v (.int .i64 t1),.v (.int .i64 x1),.v (.int .i64 y1),.v (.slice none 0 0)],.agg [.v (.int .i64 k2),.v (.int .i64 n2),.v (.int .i64 p2),.v (.int .i64 t2),.v (.int .i64 x2),.v (.int .i64 y2),.v (.slice none 0 0)]],[]=>
  .ret (Bo (yes (sameF ⟨k1,n1,p1,t1,x1,y1,[]⟩ ⟨k2,n2,p2,t2,x2,y2,[]⟩)),[])
 | [.agg [.v (.int .i64 k1),.v (.int .i64 n1),.v (.int .i64 p1),.v (.int .i64 t1),.v (.int .i64 x1),.v (.int .i64 y1),.v (.slice none 0 0)],.agg [.v (.int .i64 k2),.v (.int .i64 n2),.v (.int .i64 p2),.v (.int .i64 t2),.v (.int .i64 x2),.v (.int .i64 y2),.sl 0 0 c]],[some ⟨121,o,.row 5 m f⟩]=>
  .need (yes (f=fun j=>encO (decO (f j)))) (.ret (Bo (yes (sameF ⟨k1,n1,p1,t1,x1,y1,[]⟩ ⟨k2,n2,p2,t2,x2,y2,[]⟩/\c=0)),[rowP o m fun j=>decO (f j)]))
 | [.agg [.v (.int .i64 k1),.v (.int .i64 n1),.v (.int .i64 p1),.v (.int .i64 t1),.v (.int .i64 x1),.v (.int .i64 y1),.sl 0 0 c],.agg [.v (.int .i64 k2),.v (.int .i64 n2),.v (.int .i64 p2),.v (.int .i64 t2),.v (.int .i64 x2),.v (.int .i64 y2),.v (.slice none 0 0)]],[some ⟨121,o,.row 5 m f⟩]=>
  .need (yes (f=fun j=>encO (decO (f j)))) (.ret (Bo (yes (sameF ⟨k1,n1,p1,t1,x1,y1,[]⟩ ⟨k2,n2,p2,t2,x2,y2,[]⟩/\c=0)),[rowP o m fun j=>decO (f j)]))
 | [.agg [.v (.int .i64 k1),.v (.int .i64 n1),.v (.int .i64 p1),.v (.int .i64 t1),.v (.int .i64 x1),.v (.int .i64 y1),.sl 0 0 c1],.agg [.v (.int .i64 k2),.v (.int .i64 n2),.v (.int .i64 p2),.v (.int .i64 t2),.v (.int .i64 x2),.v (.int .i64 y2),.sl 1 0 c2]],[some ⟨121,o1,.row 5 m1 f1⟩,some ⟨121,o2,.row 5 m2 f2⟩]=>
  .need (yes (c1<=m1/\c2<=m2/\c1<2^60/\(f1=fun j=>encO (decO (f1 j)))/\f2=fun j=>encO (decO (f2 j))))
   (.ret (Bo (yes (sameF ⟨k1,n1,p1,t1,x1,y1,[]⟩ ⟨k2,n2,p2,t2,x2,y2,[]⟩/\c1=c2/\∀ t,t<c1->decO (f1 t)=decO (f2 t))),[rowP o1 m1 fun j=>decO (f1 j),rowP o2 m2 fun j=>decO (f2 j)]))
 | _,_=>.fail
theorem yes_eq {p q:Prop}(h:p ↔ q):yes p=yes q:=by rw [propext h]
theorem sqF_ok:SpecOk Try.prog 144 sqF:=by
 refine knownS KSQ_ok Try.func144 fun args h r he=>?_
 unfold sqF at he
 split at he
 ·rename_i k1 n1 p1 t1 x1 y1 k2 n2 p2 t2 x2 y2
  cases he
  refine ⟨(fun _=>[]),[],60,nol,noLoopsS,(sq_nn (a:=⟨k1,n1,p1,t1,x1,y1,[]⟩) (b:=⟨k2,n2,p2,t2,x2,y2,[]⟩)).trans ?_⟩
  by_cases hs:sameF ⟨k1,n1,p1,t1,x1,y1,[]⟩ ⟨k2,n2,p2,t2,x2,y2,[]⟩
  ·rw [yes_of hs];exact (six_t hs).trans rfl
  ·rw [yes_no hs];exact (six_f hs).trans rfl
 ·rename_i k1 n1 p1 t1 x1 y1 k2 n2 p2 t2 x2 y2 c o m f
  obtain ⟨h1,he'⟩:=Tr.eval_ask.1 he
  cases he'
  have e2:some ⟨121,o,.row 5 m f⟩=rowP o m fun j=>decO (f j):=by rw [rowP,<-h1]
  rw [e2]
  refine ⟨(fun _=>[]),[],60,nol,noLoopsS,(sq_ns (a:=⟨k1,n1,p1,t1,x1,y1,[]⟩) (b:=⟨k2,n2,p2,t2,x2,y2,[]⟩)).trans ?_⟩
  by_cases hs:sameF ⟨k1,n1,p1,t1,x1,y1,[]⟩ ⟨k2,n2,p2,t2,x2,y2,[]⟩
  ·refine (six_t hs).trans ((bif_yes ?_).trans ?_)
   ·rfl
   ·by_cases hc:c=0
    ·rw [yes_of ⟨hs,hc⟩,decide_eq_true hc];rfl
    ·rw [yes_no fun h=>hc h.2,decide_eq_false hc];rfl
  ·refine (six_f hs).trans ?_
   rw [yes_no fun h=>hs h.1];rfl
 ·rename_i k1 n1 p1 t1 x1 y1 c k2 n2 p2 t2 x2 y2 o m f
  obtain ⟨h1,he'⟩:=Tr.eval_ask.1 he
  cases he'
  have e2:some ⟨121,o,.row 5 m f⟩=rowP o m fun j=>decO (f j):=by rw [rowP,<-h1]
  rw [e2]
  refine ⟨(fun _=>[]),[],60,nol,noLoopsS,(sq_sn (a:=⟨k1,n1,p1,t1,x1,y1,[]⟩) (b:=⟨k2,n2,p2,t2,x2,y2,[]⟩)).trans ?_⟩
  by_cases hs:sameF ⟨k1,n1,p1,t1,x1,y1,[]⟩ ⟨k2,n2,p2,t2,x2,y2,[]⟩
  ·refine (six_t hs).trans ((bif_yes ?_).trans ?_)
   ·rfl
   ·by_cases hc:c=0
    ·rw [yes_of ⟨hs,hc⟩,decide_eq_true hc];rfl
    ·rw [yes_no fun h=>hc h.2,decide_eq_false hc];rfl
  ·refine (six_f hs).trans ?_
   rw [yes_no fun h=>hs h.1];rfl
 ·rename_i k1 n1 p1 t1 x1 y1 c1 k2 n2 p2 t2 x2 y2 c2 o1 m1 f1 o2 m2 f2
  obtain ⟨⟨h1,h2,h3,h4,h5⟩,he'⟩:=Tr.eval_ask.1 he
  cases he'
  have e1:some ⟨121,o1,.row 5 m1 f1⟩=rowP o1 m1 fun j=>decO (f1 j):=by rw [rowP,<-h4]
  have e2:some ⟨121,o2,.row 5 m2 f2⟩=rowP o2 m2 fun j=>decO (f2 j):=by rw [rowP,<-h5]
  rw [e1,e2]
  refine ⟨(fun _=>[]),[],60,nol,noLoopsS,(sq_ss (a:=⟨k1,n1,p1,t1,x1,y1,[]⟩) (b:=⟨k2,n2,p2,t2,x2,y2,[]⟩)).trans ?_⟩
  by_cases hs:sameF ⟨k1,n1,p1,t1,x1,y1,[]⟩ ⟨k2,n2,p2,t2,x2,y2,[]⟩
  ·refine (six_t hs).trans ((bif_yes ?_).trans ?_)
   ·exact ⟨h1,h2,h3,rfl,rfl⟩
   ·rw [yes_eq (p:=sameF ⟨k1,n1,p1,t1,x1,y1,[]⟩ ⟨k2,n2,p2,t2,x2,y2,[]⟩/\c1=c2/\∀ t,t<c1->decO (f1 t)=decO (f2 t)) (q:=c1=c2/\∀ t,t<c1->decO (f1 t)=decO (f2 t)) ⟨fun h=>h.2,fun h=>⟨hs,h⟩⟩]
    rfl
  ·refine (six_f hs).trans ?_
   rw [yes_no fun h=>hs h.1];rfl
 ·cases he
end
section
open Go Go.RowKit
def wqN (bad:Bool) (k:Nat) (B:Nat->Int):St:=⟨slots 49 [(0,.c (.ptr 0 0 0)),(22,nilS),(23,I64 ((0:Nat):Int)),(24,I64 0)],[some ⟨168,true,.one [.sl 2 0 k,.v (.bool bad)]⟩,none,rowU true k B]⟩
theorem wqn_e {bad:Bool}{k:Nat}{B:Nat->Int}:(rT wqG nol 2 55 (bodyOf Try.f141 0) wqK wqK (wqN bad k B)).go [false] =
 some
  ([true],Ex.exit 0,
   {
    sl:=
     slots 49
      [(0,AV.c (AC.ptr 0 0 0)),
       (22,AV.c (AC.v (Value.slice none 0 0))),(23,I64 ((0:Nat):Int)),
       (24,I64 (0:Int))],
    h:=
     [some { t:=168,own:=true,c:=Cont.one [AC.sl 2 0 k,AC.v (Value.bool bad)] },
      none,
      some { t:=5,own:=true,c:=Cont.row 1 k fun j=>[Value.int IntKind.u8 (B j)] }] }):=by kernel_rfl
theorem wqn_t {k:Nat}{B:Nat->Int}:(lfun wqG (tell (bodyOf Try.f141 0) (wqN true (k+1) (appB B k (IntKind.u8.wrap ((0:Nat):Int)))) (.exit 0,wqN true (k+1) (appB B k (IntKind.u8.wrap ((0:Nat):Int))))) 60 Try.f141 [.c (.ptr 0 0 0),nilS] [wrB true k,rowU true k B]).go [] =
 some
  ([true,true,true,true,
    yes (k+1<=maxCells/\k=k/\(fun j=>ub (B j))=fun j=>ub (ud (ub (B j)))),yes (wasS (bodyOf Try.f141 0) (wqN true (k+1) (appB B k (IntKind.u8.wrap ((0:Nat):Int)))))],
   AV.tup [],
   [some
     {t:=168,own:=true,
      c:=Cont.one [AC.sl 2 0 (k+1),AC.v (Value.bool true)] },
    none,
    some
     {t:=5,own:=true,
      c:=
       Cont.row 1 (k+1) fun j=>
        [Value.int IntKind.u8 (appB B k (IntKind.u8.wrap ((0:Nat):Int)) j)] }]):=by kernel_rfl
theorem wqn_f {k:Nat}{B:Nat->Int}:(lfun wqG (tell (bodyOf Try.f141 0) (wqN false (k+1) (appB B k (IntKind.u8.wrap ((0:Nat):Int)))) (.exit 0,wqN false (k+1) (appB B k (IntKind.u8.wrap ((0:Nat):Int))))) 60 Try.f141 [.c (.ptr 0 0 0),nilS] [wrB false k,rowU true k B]).go (dN 4 0) =
 some
  ([true,true,true,true,
    yes (k+1<=maxCells/\k=k/\(fun j=>ub (B j))=fun j=>ub (ud (ub (B j)))),yes (wasS (bodyOf Try.f141 0) (wqN false (k+1) (appB B k (IntKind.u8.wrap ((0:Nat):Int)))))],
   AV.tup [],
   [some
     {t:=168,own:=true,
      c:=Cont.one [AC.sl 2 0 (k+1),AC.v (Value.bool false)] },
    none,
    some
     {t:=5,own:=true,
      c:=
       Cont.row 1 (k+1) fun j=>
        [Value.int IntKind.u8 (appB B k (IntKind.u8.wrap ((0:Nat):Int)) j)] }]):=by kernel_rfl
noncomputable def wqNF:Spec:=fun args h=>match args,h with
 | [.c (.ptr 0 0 0),.c (.v (.slice none 0 0))],[some ⟨168,true,.one [.sl 1 0 k,.v (.bool bad)]⟩,some ⟨5,true,.row 1 k' f⟩]=>
  .need (yes (k+1<=maxCells/\k'=k/\(f=fun j=>ub (ud (f j))))) (.ret (.tup [],[some ⟨168,true,.one [.sl 2 0 (k+1),.v (.bool bad)]⟩,none,rowU true (k+1) (appB (fun j=>ud (f j)) k (IntKind.u8.wrap ((0:Nat):Int)))]))
 | _,_=>.fail
theorem wqNF_ok:SpecOk Try.prog 141 wqNF:=by
 refine knownS KWO_ok Try.func141 fun args h r he=>?_
 unfold wqNF at he
 split at he
 ·rename_i k bad k' f
  obtain ⟨⟨h1,h2,h3⟩,he'⟩:=Tr.eval_ask.1 he
  subst h2
  cases he'
  have e1:some ⟨5,true,.row 1 k' f⟩=rowU true k' fun j=>ud (f j):=by rw [rowU,<-h3]
  rw [e1]
  cases bad
  ·exact ⟨(fun k=>if k=3 then wqK else []),[],60,_,tell_ok (LoopR.stop (by simp) (rT_sem wqG_ok noLoopsS (rT_go (wqn_e (bad:=false) (k:=k'+1) (B:=appB (fun j=>ud (f j)) k' (IntKind.u8.wrap ((0:Nat):Int)))) ⟨rfl,trivial⟩))).sem,(Tr.go_eval wqn_f ⟨rfl,rfl,rfl,rfl,yes_of ⟨h1,rfl,rfl⟩,yes_of ⟨rfl,rfl⟩,trivial⟩).trans rfl⟩
  ·exact ⟨(fun k=>if k=3 then wqK else []),[],60,_,tell_ok (LoopR.stop (by simp) (rT_sem wqG_ok noLoopsS (rT_go (wqn_e (bad:=true) (k:=k'+1) (B:=appB (fun j=>ud (f j)) k' (IntKind.u8.wrap ((0:Nat):Int)))) ⟨rfl,trivial⟩))).sem,(Tr.go_eval wqn_t ⟨rfl,rfl,rfl,rfl,yes_of ⟨h1,rfl,rfl⟩,yes_of ⟨rfl,rfl⟩,trivial⟩).trans rfl⟩
 ·cases he
noncomputable def wqF2:Spec:=fun args h=>match args with
 | [_,.c (.v (.slice none 0 0))]=>wqNF args h
 | _=>wqF args h
theorem wqF2_ok:SpecOk Try.prog 141 wqF2:=by
 refine fun B args h r H' he=>?_
 unfold wqF2 at he
 split at he
 ·exact wqNF_ok B _ _ r H' he
 ·exact wqF_ok B _ _ r H' he
end
section
open Go Go.RowKit
noncomputable def KRE:Known:=[(140,wbF),(141,wqF2),(142,haF),(143,wnF),(144,sqF),(145,rqF)]
theorem KRE_ok:KnownOk KRE:=consK wbF_ok (by kernel_rfl) (consK wqF2_ok (by kernel_rfl) (consK haF_ok (by kernel_rfl) (consK wnF_ok (by kernel_rfl) (consK sqF_ok (by kernel_rfl) (consK rqF_ok (by kernel_rfl) nilK)))))
noncomputable def reG:Ctx2:=GT KRE (fun _=>[]) 0 []
noncomputable def qx0 (q:Qd):=(rqR (fun j=>ud (ub (appB (fun x=>0) 0 (IntKind.u8.wrap q.k) j))) 0 1)
noncomputable def qx1 (q:Qd) (m:Nat) (P:Nat->Opp):=(rqR (fun j=>ud (ub (wqBs (fun j=>decO (encO (P j))) 2 (appB (fun j=>ud (ub (appB (fun x=>0) 0 (IntKind.u8.wrap q.k) j))) 1 (IntKind.u8.wrap ((m:Nat):Int))) m j))) 0 (wqLen (fun j=>decO (encO (P j))) 2 m))
noncomputable def qx2 (q:Qd):=(rqR (fun j=>ud (ub (fourB (fourB (fun j=>ud (ub (appB (fun x=>0) 0 (IntKind.u8.wrap q.k) j))) 1 q.p) 5 q.t j))) 0 9)
noncomputable def qx3 (q:Qd):=(rqR (fun j=>ud (ub (fourB (fun j=>ud (ub (fourB (fourB (fun j=>ud (ub (appB (fun x=>0) 0 (IntKind.u8.wrap q.k) j))) 1 q.p) 5 q.t j))) 9 q.n j))) 0 13)
noncomputable def qx4 (q:Qd):=(rqR (fun j=>ud (ub (fourB (fun j=>ud (ub (fourB (fun j=>ud (ub (fourB (fourB (fun j=>ud (ub (appB (fun x=>0) 0 (IntKind.u8.wrap q.k) j))) 1 q.p) 5 q.t j))) 9 q.x j))) 13 q.y j))) 0 17)
noncomputable def qx5 (q:Qd):=(rqR (fun j=>ud (ub (appB (fun j=>ud (ub (appB (fun x=>0) 0 (IntKind.u8.wrap q.k) j))) 1 (IntKind.u8.wrap ((0:Nat):Int)) j))) 0 2)
noncomputable def nc0 (q:Qd):Bool:=yes (9<=maxCells/\1=1/\(fun j=>ub (appB (fun x=>0) 0 (IntKind.u8.wrap q.k) j))=fun j=>ub (ud (ub (appB (fun x=>0) 0 (IntKind.u8.wrap q.k) j))))
noncomputable def nc1 (q:Qd):Bool:=yes (13<=maxCells/\9=9/\(fun j=>ub (fourB (fourB (fun j=>ud (ub (appB (fun x=>0) 0 (IntKind.u8.wrap q.k) j))) 1 q.p) 5 q.t j))=fun j=>ub (ud (ub (fourB (fourB (fun j=>ud (ub (appB (fun x=>0) 0 (IntKind.u8.wrap q.k) j))) 1 q.p) 5 q.t j))))
noncomputable def nc2 (P:Nat->Opp):Bool:=yes ((fun j=>encO (P j))=fun j=>encO (decO (encO (P j))))
noncomputable def nc3 (q:Qd):Bool:=yes (1<=1/\((fun j=>ub (appB (fun x=>0) 0 (IntKind.u8.wrap q.k) j))=fun j=>ub (ud (ub (appB (fun x=>0) 0 (IntKind.u8.wrap q.k) j))))/\rng fun j=>ud (ub (appB (fun x=>0) 0 (IntKind.u8.wrap q.k) j)))
noncomputable def nc4 (q:Qd):Bool:=yes (17<=maxCells/\13=13/\(fun j=>ub (fourB (fun j=>ud (ub (fourB (fourB (fun j=>ud (ub (appB (fun x=>0) 0 (IntKind.u8.wrap q.k) j))) 1 q.p) 5 q.t j))) 9 q.x j))=fun j=>ub (ud (ub (fourB (fun j=>ud (ub (fourB (fourB (fun j=>ud (ub (appB (fun x=>0) 0 (IntKind.u8.wrap q.k) j))) 1 q.p) 5 q.t j))) 9 q.x j))))
noncomputable def nc5 (q:Qd) (m:Nat) (P:Nat->Opp):Bool:=yes (m=m/\1=1/\((fun j=>encO (P j))=fun j=>encO (decO (encO (P j))))/\((fun j=>ub (appB (fun x=>0) 0 (IntKind.u8.wrap q.k) j))=fun j=>ub (ud (ub (appB (fun x=>0) 0 (IntKind.u8.wrap q.k) j))))/\wqLen (fun j=>decO (encO (P j))) 2 m<=maxCells)
noncomputable def nc6 (q:Qd) (m:Nat) (P:Nat->Opp):Bool:=wqBad (fun j=>decO (encO (P j))) (wqZ m (false||!byOk q.k)||!byOk ((m:Nat):Int)) m
noncomputable def nc7 (q:Qd):Bool:=yes (sameF { k:=(qx0 q).fst.k,n:=(qx0 q).fst.n,p:=(qx0 q).fst.p,t:=(qx0 q).fst.t,x:=(qx0 q).fst.x,y:=(qx0 q).fst.y,o:=[] } { k:=q.k,n:=q.n,p:=q.p,t:=q.t,x:=q.x,y:=q.y,o:=[] })
noncomputable def nc8 (q:Qd):Bool:=yes (9<=9/\((fun j=>ub (fourB (fourB (fun j=>ud (ub (appB (fun x=>0) 0 (IntKind.u8.wrap q.k) j))) 1 q.p) 5 q.t j))=fun j=>ub (ud (ub (fourB (fourB (fun j=>ud (ub (appB (fun x=>0) 0 (IntKind.u8.wrap q.k) j))) 1 q.p) 5 q.t j))))/\rng fun j=>ud (ub (fourB (fourB (fun j=>ud (ub (appB (fun x=>0) 0 (IntKind.u8.wrap q.k) j))) 1 q.p) 5 q.t j)))
noncomputable def nc9 (q:Qd):Bool:=yes (13<=13/\((fun j=>ub (fourB (fun j=>ud (ub (fourB (fourB (fun j=>ud (ub (appB (fun x=>0) 0 (IntKind.u8.wrap q.k) j))) 1 q.p) 5 q.t j))) 9 q.n j))=fun j=>ub (ud (ub (fourB (fun j=>ud (ub (fourB (fourB (fun j=>ud (ub (appB (fun x=>0) 0 (IntKind.u8.wrap q.k) j))) 1 q.p) 5 q.t j))) 9 q.n j))))/\rng fun j=>ud (ub (fourB (fun j=>ud (ub (fourB (fourB (fun j=>ud (ub (appB (fun x=>0) 0 (IntKind.u8.wrap q.k) j))) 1 q.p) 5 q.t j))) 9 q.n j)))
noncomputable def nc10 (q:Qd):Bool:=(false||!byOk q.k||!fits q.p||!fits q.t||!fits q.x||!fits q.y)
noncomputable def nc11 (q:Qd):Bool:=yes (17<=17/\((fun j=>ub (fourB (fun j=>ud (ub (fourB (fun j=>ud (ub (fourB (fourB (fun j=>ud (ub (appB (fun x=>0) 0 (IntKind.u8.wrap q.k) j))) 1 q.p) 5 q.t j))) 9 q.x j))) 13 q.y j))=fun j=>ub (ud (ub (fourB (fun j=>ud (ub (fourB (fun j=>ud (ub (fourB (fourB (fun j=>ud (ub (appB (fun x=>0) 0 (IntKind.u8.wrap q.k) j))) 1 q.p) 5 q.t j))) 9 q.x j))) 13 q.y j))))/\rng fun j=>ud (ub (fourB (fun j=>ud (ub (fourB (fun j=>ud (ub (fourB (fourB (fun j=>ud (ub (appB (fun x=>0) 0 (IntKind.u8.wrap q.k) j))) 1 q.p) 5 q.t j))) 9 q.x j))) 13 q.y j)))
noncomputable def nc12 (q:Qd) (m:Nat) (P:Nat->Opp):Bool:=yes (0+wqLen (fun j=>decO (encO (P j))) 2 m<=wqLen (fun j=>decO (encO (P j))) 2 m/\((fun j=>ub (wqBs (fun j=>decO (encO (P j))) 2 (appB (fun j=>ud (ub (appB (fun x=>0) 0 (IntKind.u8.wrap q.k) j))) 1 (IntKind.u8.wrap ((m:Nat):Int))) m j))=fun j=>ub (ud (ub (wqBs (fun j=>decO (encO (P j))) 2 (appB (fun j=>ud (ub (appB (fun x=>0) 0 (IntKind.u8.wrap q.k) j))) 1 (IntKind.u8.wrap ((m:Nat):Int))) m j))))/\rng fun j=>ud (ub (wqBs (fun j=>decO (encO (P j))) 2 (appB (fun j=>ud (ub (appB (fun x=>0) 0 (IntKind.u8.wrap q.k) j))) 1 (IntKind.u8.wrap ((m:Nat):Int))) m j)))
noncomputable def nc13 (q:Qd) (c:Nat):Bool:=yes (sameF { k:=(qx0 q).fst.k,n:=(qx0 q).fst.n,p:=(qx0 q).fst.p,t:=(qx0 q).fst.t,x:=(qx0 q).fst.x,y:=(qx0 q).fst.y,o:=[] } { k:=q.k,n:=q.n,p:=q.p,t:=q.t,x:=q.x,y:=q.y,o:=[] }/\c=0)
theorem ren_1t {q:Qd}:(lfun reG nol 60 Try.f101 [qV q (.v (.slice none 0 0))] []).go (dN 15 3075)=some ([q.k==(1:Int),yes (2<=maxCells/\1=1/\(fun j=>ub (appB (fun x=>0) 0 (IntKind.u8.wrap q.k) j))=fun j=>ub (ud (ub (appB (fun x=>0) 0 (IntKind.u8.wrap q.k) j)))),!(false||!byOk q.k),true,true,true,true,true,true,true,yes (2<=2/\((fun j=>ub (appB (fun j=>ud (ub (appB (fun x=>0) 0 (IntKind.u8.wrap q.k) j))) 1 (IntKind.u8.wrap ((0:Nat):Int)) j))=fun j=>ub (ud (ub (appB (fun j=>ud (ub (appB (fun x=>0) 0 (IntKind.u8.wrap q.k) j))) 1 (IntKind.u8.wrap ((0:Nat):Int)) j))))/\rng fun j=>ud (ub (appB (fun j=>ud (ub (appB (fun x=>0) 0 (IntKind.u8.wrap q.k) j))) 1 (IntKind.u8.wrap ((0:Nat):Int)) j))),(qx5 q).fst.o.isEmpty,true,true,true,!yes (sameF { k:=(qx5 q).fst.k,n:=(qx5 q).fst.n,p:=(qx5 q).fst.p,t:=(qx5 q).fst.t,x:=(qx5 q).fst.x,y:=(qx5 q).fst.y,o:=[] } { k:=q.k,n:=q.n,p:=q.p,t:=q.t,x:=q.x,y:=q.y,o:=[] })],.tup [.c (.v (.slice none 0 0)),Bo false],[]):=by kernel_rfl
theorem ren_1f {q:Qd}:(lfun reG nol 60 Try.f101 [qV q (.v (.slice none 0 0))] []).go (dN 16 3075)=some ([q.k==(1:Int),yes (2<=maxCells/\1=1/\(fun j=>ub (appB (fun x=>0) 0 (IntKind.u8.wrap q.k) j))=fun j=>ub (ud (ub (appB (fun x=>0) 0 (IntKind.u8.wrap q.k) j)))),!(false||!byOk q.k),true,true,true,true,true,true,true,yes (2<=2/\((fun j=>ub (appB (fun j=>ud (ub (appB (fun x=>0) 0 (IntKind.u8.wrap q.k) j))) 1 (IntKind.u8.wrap ((0:Nat):Int)) j))=fun j=>ub (ud (ub (appB (fun j=>ud (ub (appB (fun x=>0) 0 (IntKind.u8.wrap q.k) j))) 1 (IntKind.u8.wrap ((0:Nat):Int)) j))))/\rng fun j=>ud (ub (appB (fun j=>ud (ub (appB (fun x=>0) 0 (IntKind.u8.wrap q.k) j))) 1 (IntKind.u8.wrap ((0:Nat):Int)) j))),(qx5 q).fst.o.isEmpty,true,true,true,!!yes (sameF { k:=(qx5 q).fst.k,n:=(qx5 q).fst.n,p:=(qx5 q).fst.p,t:=(qx5 q).fst.t,x:=(qx5 q).fst.x,y:=(qx5 q).fst.y,o:=[] } { k:=q.k,n:=q.n,p:=q.p,t:=q.t,x:=q.x,y:=q.y,o:=[] })],.tup [.c (.sl 0 0 2),Bo true],[some ⟨5,true,.row 1 2 fun j=>[.int .u8 (ud (ub (appB (fun j=>ud (ub (appB (fun x=>0) 0 (IntKind.u8.wrap q.k) j))) 1 (IntKind.u8.wrap ((0:Nat):Int)) j)))]⟩]):=by kernel_rfl
theorem ren_2t {q:Qd}:(lfun reG nol 60 Try.f101 [qV q (.v (.slice none 0 0))] []).go (dN 16 6150)=some ([!q.k==(1:Int),q.k==(2:Int),true,!(false||!byOk q.k),true,true,true,true,true,true,true,nc3 q,(qx0 q).fst.o.isEmpty,true,true,true,!(nc7 q)],.tup [.c (.v (.slice none 0 0)),Bo false],[]):=by kernel_rfl
theorem ren_2f {q:Qd}:(lfun reG nol 60 Try.f101 [qV q (.v (.slice none 0 0))] []).go (dN 17 6150)=some ([!q.k==(1:Int),q.k==(2:Int),true,!(false||!byOk q.k),true,true,true,true,true,true,true,nc3 q,(qx0 q).fst.o.isEmpty,true,true,true,!!(nc7 q)],.tup [.c (.sl 0 0 1),Bo true],[some ⟨5,true,.row 1 1 fun j=>[.int .u8 (ud (ub (appB (fun x=>0) 0 (IntKind.u8.wrap q.k) j)))]⟩]):=by kernel_rfl
theorem ren_6t {q:Qd}:(lfun reG nol 60 Try.f101 [qV q (.v (.slice none 0 0))] []).go (dN 16 6148)=some ([!q.k==(1:Int),!q.k==(2:Int),q.k==(6:Int),!(false||!byOk q.k),true,true,true,true,true,true,true,nc3 q,(qx0 q).fst.o.isEmpty,true,true,true,!(nc7 q)],.tup [.c (.v (.slice none 0 0)),Bo false],[]):=by kernel_rfl
theorem ren_6f {q:Qd}:(lfun reG nol 60 Try.f101 [qV q (.v (.slice none 0 0))] []).go (dN 17 6148)=some ([!q.k==(1:Int),!q.k==(2:Int),q.k==(6:Int),!(false||!byOk q.k),true,true,true,true,true,true,true,nc3 q,(qx0 q).fst.o.isEmpty,true,true,true,!!(nc7 q)],.tup [.c (.sl 0 0 1),Bo true],[some ⟨5,true,.row 1 1 fun j=>[.int .u8 (ud (ub (appB (fun x=>0) 0 (IntKind.u8.wrap q.k) j)))]⟩]):=by kernel_rfl
theorem ren_3b {q:Qd}:(lfun reG nol 60 Try.f101 [qV q (.v (.slice none 0 0))] []).go (dN 3 0)=some ([!q.k==(1:Int),!q.k==(2:Int),!q.k==(6:Int),q.k==(3:Int),nc0 q,false||!byOk q.k||!fits q.p||!fits q.t,true,true,true,true,true,true,true,true,true,true,true],.tup [.c (.v (.slice none 0 0)),Bo false],[]):=by kernel_rfl
theorem ren_3t {q:Qd}:(lfun reG nol 60 Try.f101 [qV q (.v (.slice none 0 0))] []).go (dN 18 24600)=some ([!q.k==(1:Int),!q.k==(2:Int),!q.k==(6:Int),q.k==(3:Int),nc0 q,!(false||!byOk q.k||!fits q.p||!fits q.t),true,true,true,true,true,true,true,nc8 q,(qx2 q).fst.o.isEmpty,true,true,true,!yes (sameF { k:=(qx2 q).fst.k,n:=(qx2 q).fst.n,p:=(qx2 q).fst.p,t:=(qx2 q).fst.t,x:=(qx2 q).fst.x,y:=(qx2 q).fst.y,o:=[] } { k:=q.k,n:=q.n,p:=q.p,t:=q.t,x:=q.x,y:=q.y,o:=[] })],.tup [.c (.v (.slice none 0 0)),Bo false],[]):=by kernel_rfl
theorem ren_3f {q:Qd}:(lfun reG nol 60 Try.f101 [qV q (.v (.slice none 0 0))] []).go (dN 19 24600)=some ([!q.k==(1:Int),!q.k==(2:Int),!q.k==(6:Int),q.k==(3:Int),nc0 q,!(false||!byOk q.k||!fits q.p||!fits q.t),true,true,true,true,true,true,true,nc8 q,(qx2 q).fst.o.isEmpty,true,true,true,!!yes (sameF { k:=(qx2 q).fst.k,n:=(qx2 q).fst.n,p:=(qx2 q).fst.p,t:=(qx2 q).fst.t,x:=(qx2 q).fst.x,y:=(qx2 q).fst.y,o:=[] } { k:=q.k,n:=q.n,p:=q.p,t:=q.t,x:=q.x,y:=q.y,o:=[] })],.tup [.c (.sl 0 0 9),Bo true],[some ⟨5,true,.row 1 9 fun j=>[.int .u8 (ud (ub (fourB (fourB (fun j=>ud (ub (appB (fun x=>0) 0 (IntKind.u8.wrap q.k) j))) 1 q.p) 5 q.t j)))]⟩]):=by kernel_rfl
theorem ren_4b {q:Qd}:(lfun reG nol 60 Try.f101 [qV q (.v (.slice none 0 0))] []).go (dN 4 0)=some ([!q.k==(1:Int),!q.k==(2:Int),!q.k==(6:Int),!q.k==(3:Int),q.k==(4:Int),nc0 q,nc1 q,false||!byOk q.k||!fits q.p||!fits q.t||!fits q.n,true,true,true,true,true,true,true,true,true,true,true],.tup [.c (.v (.slice none 0 0)),Bo false],[]):=by kernel_rfl
theorem ren_4t {q:Qd}:(lfun reG nol 60 Try.f101 [qV q (.v (.slice none 0 0))] []).go (dN 20 98416)=some ([!q.k==(1:Int),!q.k==(2:Int),!q.k==(6:Int),!q.k==(3:Int),q.k==(4:Int),nc0 q,nc1 q,!(false||!byOk q.k||!fits q.p||!fits q.t||!fits q.n),true,true,true,true,true,true,true,nc9 q,(qx3 q).fst.o.isEmpty,true,true,true,!yes (sameF { k:=(qx3 q).fst.k,n:=(qx3 q).fst.n,p:=(qx3 q).fst.p,t:=(qx3 q).fst.t,x:=(qx3 q).fst.x,y:=(qx3 q).fst.y,o:=[] } { k:=q.k,n:=q.n,p:=q.p,t:=q.t,x:=q.x,y:=q.y,o:=[] })],.tup [.c (.v (.slice none 0 0)),Bo false],[]):=by kernel_rfl
theorem ren_4f {q:Qd}:(lfun reG nol 60 Try.f101 [qV q (.v (.slice none 0 0))] []).go (dN 21 98416)=some ([!q.k==(1:Int),!q.k==(2:Int),!q.k==(6:Int),!q.k==(3:Int),q.k==(4:Int),nc0 q,nc1 q,!(false||!byOk q.k||!fits q.p||!fits q.t||!fits q.n),true,true,true,true,true,true,true,nc9 q,(qx3 q).fst.o.isEmpty,true,true,true,!!yes (sameF { k:=(qx3 q).fst.k,n:=(qx3 q).fst.n,p:=(qx3 q).fst.p,t:=(qx3 q).fst.t,x:=(qx3 q).fst.x,y:=(qx3 q).fst.y,o:=[] } { k:=q.k,n:=q.n,p:=q.p,t:=q.t,x:=q.x,y:=q.y,o:=[] })],.tup [.c (.sl 0 0 13),Bo true],[some ⟨5,true,.row 1 13 fun j=>[.int .u8 (ud (ub (fourB (fun j=>ud (ub (fourB (fourB (fun j=>ud (ub (appB (fun x=>0) 0 (IntKind.u8.wrap q.k) j))) 1 q.p) 5 q.t j))) 9 q.n j)))]⟩]):=by kernel_rfl
theorem ren_5b {q:Qd}:(lfun reG nol 60 Try.f101 [qV q (.v (.slice none 0 0))] []).go (dN 5 0)=some ([!q.k==(1:Int),!q.k==(2:Int),!q.k==(6:Int),!q.k==(3:Int),!q.k==(4:Int),q.k==(5:Int),nc0 q,nc1 q,nc4 q,false||!byOk q.k||!fits q.p||!fits q.t||!fits q.x||!fits q.y,true,true,true,true,true,true,true,true,true,true,true],.tup [.c (.v (.slice none 0 0)),Bo false],[]):=by kernel_rfl
theorem ren_5t {q:Qd}:(lfun reG nol 60 Try.f101 [qV q (.v (.slice none 0 0))] []).go (dN 22 393696)=some ([!q.k==(1:Int),!q.k==(2:Int),!q.k==(6:Int),!q.k==(3:Int),!q.k==(4:Int),q.k==(5:Int),nc0 q,nc1 q,nc4 q,!(nc10 q),true,true,true,true,true,true,true,nc11 q,(qx4 q).fst.o.isEmpty,true,true,true,!yes (sameF { k:=(qx4 q).fst.k,n:=(qx4 q).fst.n,p:=(qx4 q).fst.p,t:=(qx4 q).fst.t,x:=(qx4 q).fst.x,y:=(qx4 q).fst.y,o:=[] } { k:=q.k,n:=q.n,p:=q.p,t:=q.t,x:=q.x,y:=q.y,o:=[] })],.tup [.c (.v (.slice none 0 0)),Bo false],[]):=by kernel_rfl
theorem ren_5f {q:Qd}:(lfun reG nol 60 Try.f101 [qV q (.v (.slice none 0 0))] []).go (dN 23 393696)=some ([!q.k==(1:Int),!q.k==(2:Int),!q.k==(6:Int),!q.k==(3:Int),!q.k==(4:Int),q.k==(5:Int),nc0 q,nc1 q,nc4 q,!(nc10 q),true,true,true,true,true,true,true,nc11 q,(qx4 q).fst.o.isEmpty,true,true,true,!!yes (sameF { k:=(qx4 q).fst.k,n:=(qx4 q).fst.n,p:=(qx4 q).fst.p,t:=(qx4 q).fst.t,x:=(qx4 q).fst.x,y:=(qx4 q).fst.y,o:=[] } { k:=q.k,n:=q.n,p:=q.p,t:=q.t,x:=q.x,y:=q.y,o:=[] })],.tup [.c (.sl 0 0 17),Bo true],[some ⟨5,true,.row 1 17 fun j=>[.int .u8 (ud (ub (fourB (fun j=>ud (ub (fourB (fun j=>ud (ub (fourB (fourB (fun j=>ud (ub (appB (fun x=>0) 0 (IntKind.u8.wrap q.k) j))) 1 q.p) 5 q.t j))) 9 q.x j))) 13 q.y j)))]⟩]):=by kernel_rfl
theorem ren_x {q:Qd}:(lfun reG nol 60 Try.f101 [qV q (.v (.slice none 0 0))] []).go (dN 6 0)=some ([!q.k==(1:Int),!q.k==(2:Int),!q.k==(6:Int),!q.k==(3:Int),!q.k==(4:Int),!q.k==(5:Int)],.tup [.c (.v (.slice none 0 0)),Bo false],[]):=by kernel_rfl
theorem res_1b {q:Qd}{o:Bool}{m:Nat}{P:Nat->Opp}:(lfun reG nol 60 Try.f101 [qV q (.sl 0 0 m)] [rowP o m P]).go []=some ([q.k==(1:Int),nc5 q m P,nc6 q m P,true,true,true,true,true,true,true,true,true,true,true],.tup [.c (.v (.slice none 0 0)),Bo false],[some ⟨121,o,.row 5 m fun j=>[.int .i64 (decO (encO (P j))).k,.int .i64 (decO (encO (P j))).i,.int .i64 (decO (encO (P j))).a,.int .i64 (decO (encO (P j))).b,.string (decO (encO (P j))).s]⟩]):=by kernel_rfl
theorem res_1t {q:Qd}{o:Bool}{m:Nat}{P:Nat->Opp}:(lfun reG nol 60 Try.f101 [qV q (.sl 0 0 m)] [rowP o m P]).go (dN 16 11267)=some ([q.k==(1:Int),nc5 q m P,!(nc6 q m P),true,true,true,true,true,true,true,nc12 q m P,(qx1 q m P).fst.o.isEmpty,true,yes ((fun j=>encO (decO (encO (P j))))=fun j=>encO (decO (encO (decO (encO (P j)))))),true,true,!yes (sameF { k:=(qx1 q m P).fst.k,n:=(qx1 q m P).fst.n,p:=(qx1 q m P).fst.p,t:=(qx1 q m P).fst.t,x:=(qx1 q m P).fst.x,y:=(qx1 q m P).fst.y,o:=[] } { k:=q.k,n:=q.n,p:=q.p,t:=q.t,x:=q.x,y:=q.y,o:=[] }/\m=0)],.tup [.c (.v (.slice none 0 0)),Bo false],[some ⟨121,o,.row 5 m fun j=>[.int .i64 (decO (encO (decO (encO (P j))))).k,.int .i64 (decO (encO (decO (encO (P j))))).i,.int .i64 (decO (encO (decO (encO (P j))))).a,.int .i64 (decO (encO (decO (encO (P j))))).b,.string (decO (encO (decO (encO (P j))))).s]⟩]):=by kernel_rfl
theorem res_1f {q:Qd}{o:Bool}{m:Nat}{P:Nat->Opp}:(lfun reG nol 60 Try.f101 [qV q (.sl 0 0 m)] [rowP o m P]).go (dN 17 11267)=some ([q.k==(1:Int),nc5 q m P,!(nc6 q m P),true,true,true,true,true,true,true,nc12 q m P,(qx1 q m P).fst.o.isEmpty,true,yes ((fun j=>encO (decO (encO (P j))))=fun j=>encO (decO (encO (decO (encO (P j)))))),true,true,!!yes (sameF { k:=(qx1 q m P).fst.k,n:=(qx1 q m P).fst.n,p:=(qx1 q m P).fst.p,t:=(qx1 q m P).fst.t,x:=(qx1 q m P).fst.x,y:=(qx1 q m P).fst.y,o:=[] } { k:=q.k,n:=q.n,p:=q.p,t:=q.t,x:=q.x,y:=q.y,o:=[] }/\m=0)],.tup [.c (.sl 1 0 (wqLen (fun j=>decO (encO (P j))) 2 m)),Bo true],[some ⟨121,o,.row 5 m fun j=>[.int .i64 (decO (encO (decO (encO (P j))))).k,.int .i64 (decO (encO (decO (encO (P j))))).i,.int .i64 (decO (encO (decO (encO (P j))))).a,.int .i64 (decO (encO (decO (encO (P j))))).b,.string (decO (encO (decO (encO (P j))))).s]⟩,some ⟨5,true,.row 1 (wqLen (fun j=>decO (encO (P j))) 2 m) fun j=>[.int .u8 (ud (ub (wqBs (fun j=>decO (encO (P j))) 2 (appB (fun j=>ud (ub (appB (fun x=>0) 0 (IntKind.u8.wrap q.k) j))) 1 (IntKind.u8.wrap ((m:Nat):Int))) m j)))]⟩]):=by kernel_rfl
theorem res_1T {q:Qd}{o:Bool}{m:Nat}{P:Nat->Opp}:(lfun reG nol 60 Try.f101 [qV q (.sl 0 0 m)] [rowP o m P]).go (dN 16 9219)=some ([q.k==(1:Int),nc5 q m P,!(nc6 q m P),true,true,true,true,true,true,true,nc12 q m P,!(qx1 q m P).fst.o.isEmpty,true,yes ((qx1 q m P).fst.o.length<=(qx1 q m P).fst.o.length/\m<=m/\(qx1 q m P).fst.o.length<2^60/\((fun j=>encO (gP (qx1 q m P).fst.o j))=fun j=>encO (decO (encO (gP (qx1 q m P).fst.o j))))/\(fun j=>encO (decO (encO (P j))))=fun j=>encO (decO (encO (decO (encO (P j)))))),true,true,!yes (sameF { k:=(qx1 q m P).fst.k,n:=(qx1 q m P).fst.n,p:=(qx1 q m P).fst.p,t:=(qx1 q m P).fst.t,x:=(qx1 q m P).fst.x,y:=(qx1 q m P).fst.y,o:=[] } { k:=q.k,n:=q.n,p:=q.p,t:=q.t,x:=q.x,y:=q.y,o:=[] }/\(qx1 q m P).fst.o.length=m/\∀ (t:Nat),t<(qx1 q m P).fst.o.length->decO (encO (gP (qx1 q m P).fst.o t))=decO (encO (decO (encO (P t)))))],.tup [.c (.v (.slice none 0 0)),Bo false],[some ⟨121,o,.row 5 m fun j=>[.int .i64 (decO (encO (decO (encO (P j))))).k,.int .i64 (decO (encO (decO (encO (P j))))).i,.int .i64 (decO (encO (decO (encO (P j))))).a,.int .i64 (decO (encO (decO (encO (P j))))).b,.string (decO (encO (decO (encO (P j))))).s]⟩]):=by kernel_rfl
theorem res_1F {q:Qd}{o:Bool}{m:Nat}{P:Nat->Opp}:(lfun reG nol 60 Try.f101 [qV q (.sl 0 0 m)] [rowP o m P]).go (dN 17 9219)=some ([q.k==(1:Int),nc5 q m P,!(nc6 q m P),true,true,true,true,true,true,true,nc12 q m P,!(qx1 q m P).fst.o.isEmpty,true,yes ((qx1 q m P).fst.o.length<=(qx1 q m P).fst.o.length/\m<=m/\(qx1 q m P).fst.o.length<2^60/\((fun j=>encO (gP (qx1 q m P).fst.o j))=fun j=>encO (decO (encO (gP (qx1 q m P).fst.o j))))/\(fun j=>encO (decO (encO (P j))))=fun j=>encO (decO (encO (decO (encO (P j)))))),true,true,!!yes (sameF { k:=(qx1 q m P).fst.k,n:=(qx1 q m P).fst.n,p:=(qx1 q m P).fst.p,t:=(qx1 q m P).fst.t,x:=(qx1 q m P).fst.x,y:=(qx1 q m P).fst.y,o:=[] } { k:=q.k,n:=q.n,p:=q.p,t:=q.t,x:=q.x,y:=q.y,o:=[] }/\(qx1 q m P).fst.o.length=m/\∀ (t:Nat),t<(qx1 q m P).fst.o.length->decO (encO (gP (qx1 q m P).fst.o t))=decO (encO (decO (encO (P t)))))],.tup [.c (.sl 1 0 (wqLen (fun j=>decO (encO (P j))) 2 m)),Bo true],[some ⟨121,o,.row 5 m fun j=>[.int .i64 (decO (encO (decO (encO (P j))))).k,.int .i64 (decO (encO (decO (encO (P j))))).i,.int .i64 (decO (encO (decO (encO (P j))))).a,.int .i64 (decO (encO (decO (encO (P j))))).b,.string (decO (encO (decO (encO (P j))))).s]⟩,some ⟨5,true,.row 1 (wqLen (fun j=>decO (encO (P j))) 2 m) fun j=>[.int .u8 (ud (ub (wqBs (fun j=>decO (encO (P j))) 2 (appB (fun j=>ud (ub (appB (fun x=>0) 0 (IntKind.u8.wrap q.k) j))) 1 (IntKind.u8.wrap ((m:Nat):Int))) m j)))]⟩]):=by kernel_rfl
theorem res_2t {q:Qd}{o:Bool}{c m:Nat}{P:Nat->Opp}:(lfun reG nol 60 Try.f101 [qV q (.sl 0 0 c)] [rowP o m P]).go (dN 17 22534)=some ([!q.k==(1:Int),q.k==(2:Int),true,!(false||!byOk q.k),true,true,true,true,true,true,true,nc3 q,(qx0 q).fst.o.isEmpty,true,nc2 P,true,true,!(nc13 q c)],.tup [.c (.v (.slice none 0 0)),Bo false],[some ⟨121,o,.row 5 m fun j=>[.int .i64 (decO (encO (P j))).k,.int .i64 (decO (encO (P j))).i,.int .i64 (decO (encO (P j))).a,.int .i64 (decO (encO (P j))).b,.string (decO (encO (P j))).s]⟩]):=by kernel_rfl
theorem res_2f {q:Qd}{o:Bool}{c m:Nat}{P:Nat->Opp}:(lfun reG nol 60 Try.f101 [qV q (.sl 0 0 c)] [rowP o m P]).go (dN 18 22534)=some ([!q.k==(1:Int),q.k==(2:Int),true,!(false||!byOk q.k),true,true,true,true,true,true,true,nc3 q,(qx0 q).fst.o.isEmpty,true,nc2 P,true,true,!!(nc13 q c)],.tup [.c (.sl 1 0 1),Bo true],[some ⟨121,o,.row 5 m fun j=>[.int .i64 (decO (encO (P j))).k,.int .i64 (decO (encO (P j))).i,.int .i64 (decO (encO (P j))).a,.int .i64 (decO (encO (P j))).b,.string (decO (encO (P j))).s]⟩,some ⟨5,true,.row 1 1 fun j=>[.int .u8 (ud (ub (appB (fun x=>0) 0 (IntKind.u8.wrap q.k) j)))]⟩]):=by kernel_rfl
theorem res_6t {q:Qd}{o:Bool}{c m:Nat}{P:Nat->Opp}:(lfun reG nol 60 Try.f101 [qV q (.sl 0 0 c)] [rowP o m P]).go (dN 17 22532)=some ([!q.k==(1:Int),!q.k==(2:Int),q.k==(6:Int),!(false||!byOk q.k),true,true,true,true,true,true,true,nc3 q,(qx0 q).fst.o.isEmpty,true,nc2 P,true,true,!(nc13 q c)],.tup [.c (.v (.slice none 0 0)),Bo false],[some ⟨121,o,.row 5 m fun j=>[.int .i64 (decO (encO (P j))).k,.int .i64 (decO (encO (P j))).i,.int .i64 (decO (encO (P j))).a,.int .i64 (decO (encO (P j))).b,.string (decO (encO (P j))).s]⟩]):=by kernel_rfl
theorem res_6f {q:Qd}{o:Bool}{c m:Nat}{P:Nat->Opp}:(lfun reG nol 60 Try.f101 [qV q (.sl 0 0 c)] [rowP o m P]).go (dN 18 22532)=some ([!q.k==(1:Int),!q.k==(2:Int),q.k==(6:Int),!(false||!byOk q.k),true,true,true,true,true,true,true,nc3 q,(qx0 q).fst.o.isEmpty,true,nc2 P,true,true,!!(nc13 q c)],.tup [.c (.sl 1 0 1),Bo true],[some ⟨121,o,.row 5 m fun j=>[.int .i64 (decO (encO (P j))).k,.int .i64 (decO (encO (P j))).i,.int .i64 (decO (encO (P j))).a,.int .i64 (decO (encO (P j))).b,.string (decO (encO (P j))).s]⟩,some ⟨5,true,.row 1 1 fun j=>[.int .u8 (ud (ub (appB (fun x=>0) 0 (IntKind.u8.wrap q.k) j)))]⟩]):=by kernel_rfl
theorem res_3b {q:Qd}{o:Bool}{c m:Nat}{P:Nat->Opp}:(lfun reG nol 60 Try.f101 [qV q (.sl 0 0 c)] [rowP o m P]).go (dN 3 0)=some ([!q.k==(1:Int),!q.k==(2:Int),!q.k==(6:Int),q.k==(3:Int),nc0 q,false||!byOk q.k||!fits q.p||!fits q.t,true,true,true,true,true,true,true,true,true,true,true],.tup [.c (.v (.slice none 0 0)),Bo false],[some ⟨121,o,.row 5 m fun j=>[.int .i64 (P j).k,.int .i64 (P j).i,.int .i64 (P j).a,.int .i64 (P j).b,.string (P j).s]⟩]):=by kernel_rfl
theorem res_3t {q:Qd}{o:Bool}{c m:Nat}{P:Nat->Opp}:(lfun reG nol 60 Try.f101 [qV q (.sl 0 0 c)] [rowP o m P]).go (dN 19 90136)=some ([!q.k==(1:Int),!q.k==(2:Int),!q.k==(6:Int),q.k==(3:Int),nc0 q,!(false||!byOk q.k||!fits q.p||!fits q.t),true,true,true,true,true,true,true,nc8 q,(qx2 q).fst.o.isEmpty,true,nc2 P,true,true,!yes (sameF { k:=(qx2 q).fst.k,n:=(qx2 q).fst.n,p:=(qx2 q).fst.p,t:=(qx2 q).fst.t,x:=(qx2 q).fst.x,y:=(qx2 q).fst.y,o:=[] } { k:=q.k,n:=q.n,p:=q.p,t:=q.t,x:=q.x,y:=q.y,o:=[] }/\c=0)],.tup [.c (.v (.slice none 0 0)),Bo false],[some ⟨121,o,.row 5 m fun j=>[.int .i64 (decO (encO (P j))).k,.int .i64 (decO (encO (P j))).i,.int .i64 (decO (encO (P j))).a,.int .i64 (decO (encO (P j))).b,.string (decO (encO (P j))).s]⟩]):=by kernel_rfl
theorem res_3f {q:Qd}{o:Bool}{c m:Nat}{P:Nat->Opp}:(lfun reG nol 60 Try.f101 [qV q (.sl 0 0 c)] [rowP o m P]).go (dN 20 90136)=some ([!q.k==(1:Int),!q.k==(2:Int),!q.k==(6:Int),q.k==(3:Int),nc0 q,!(false||!byOk q.k||!fits q.p||!fits q.t),true,true,true,true,true,true,true,nc8 q,(qx2 q).fst.o.isEmpty,true,nc2 P,true,true,!!yes (sameF { k:=(qx2 q).fst.k,n:=(qx2 q).fst.n,p:=(qx2 q).fst.p,t:=(qx2 q).fst.t,x:=(qx2 q).fst.x,y:=(qx2 q).fst.y,o:=[] } { k:=q.k,n:=q.n,p:=q.p,t:=q.t,x:=q.x,y:=q.y,o:=[] }/\c=0)],.tup [.c (.sl 1 0 9),Bo true],[some ⟨121,o,.row 5 m fun j=>[.int .i64 (decO (encO (P j))).k,.int .i64 (decO (encO (P j))).i,.int .i64 (decO (encO (P j))).a,.int .i64 (decO (encO (P j))).b,.string (decO (encO (P j))).s]⟩,some ⟨5,true,.row 1 9 fun j=>[.int .u8 (ud (ub (fourB (fourB (fun j=>ud (ub (appB (fun x=>0) 0 (IntKind.u8.wrap q.k) j))) 1 q.p) 5 q.t j)))]⟩]):=by kernel_rfl
theorem res_4b {q:Qd}{o:Bool}{c m:Nat}{P:Nat->Opp}:(lfun reG nol 60 Try.f101 [qV q (.sl 0 0 c)] [rowP o m P]).go (dN 4 0)=some ([!q.k==(1:Int),!q.k==(2:Int),!q.k==(6:Int),!q.k==(3:Int),q.k==(4:Int),nc0 q,nc1 q,false||!byOk q.k||!fits q.p||!fits q.t||!fits q.n,true,true,true,true,true,true,true,true,true,true,true],.tup [.c (.v (.slice none 0 0)),Bo false],[some ⟨121,o,.row 5 m fun j=>[.int .i64 (P j).k,.int .i64 (P j).i,.int .i64 (P j).a,.int .i64 (P j).b,.string (P j).s]⟩]):=by kernel_rfl
theorem res_4t {q:Qd}{o:Bool}{c m:Nat}{P:Nat->Opp}:(lfun reG nol 60 Try.f101 [qV q (.sl 0 0 c)] [rowP o m P]).go (dN 21 360560)=some ([!q.k==(1:Int),!q.k==(2:Int),!q.k==(6:Int),!q.k==(3:Int),q.k==(4:Int),nc0 q,nc1 q,!(false||!byOk q.k||!fits q.p||!fits q.t||!fits q.n),true,true,true,true,true,true,true,nc9 q,(qx3 q).fst.o.isEmpty,true,nc2 P,true,true,!yes (sameF { k:=(qx3 q).fst.k,n:=(qx3 q).fst.n,p:=(qx3 q).fst.p,t:=(qx3 q).fst.t,x:=(qx3 q).fst.x,y:=(qx3 q).fst.y,o:=[] } { k:=q.k,n:=q.n,p:=q.p,t:=q.t,x:=q.x,y:=q.y,o:=[] }/\c=0)],.tup [.c (.v (.slice none 0 0)),Bo false],[some ⟨121,o,.row 5 m fun j=>[.int .i64 (decO (encO (P j))).k,.int .i64 (decO (encO (P j))).i,.int .i64 (decO (encO (P j))).a,.int .i64 (decO (encO (P j))).b,.string (decO (encO (P j))).s]⟩]):=by kernel_rfl
theorem res_4f {q:Qd}{o:Bool}{c m:Nat}{P:Nat->Opp}:(lfun reG nol 60 Try.f101 [qV q (.sl 0 0 c)] [rowP o m P]).go (dN 22 360560)=some ([!q.k==(1:Int),!q.k==(2:Int),!q.k==(6:Int),!q.k==(3:Int),q.k==(4:Int),nc0 q,nc1 q,!(false||!byOk q.k||!fits q.p||!fits q.t||!fits q.n),true,true,true,true,true,true,true,nc9 q,(qx3 q).fst.o.isEmpty,true,nc2 P,true,true,!!yes (sameF { k:=(qx3 q).fst.k,n:=(qx3 q).fst.n,p:=(qx3 q).fst.p,t:=(qx3 q).fst.t,x:=(qx3 q).fst.x,y:=(qx3 q).fst.y,o:=[] } { k:=q.k,n:=q.n,p:=q.p,t:=q.t,x:=q.x,y:=q.y,o:=[] }/\c=0)],.tup [.c (.sl 1 0 13),Bo true],[some ⟨121,o,.row 5 m fun j=>[.int .i64 (decO (encO (P j))).k,.int .i64 (decO (encO (P j))).i,.int .i64 (decO (encO (P j))).a,.int .i64 (decO (encO (P j))).b,.string (decO (encO (P j))).s]⟩,some ⟨5,true,.row 1 13 fun j=>[.int .u8 (ud (ub (fourB (fun j=>ud (ub (fourB (fourB (fun j=>ud (ub (appB (fun x=>0) 0 (IntKind.u8.wrap q.k) j))) 1 q.p) 5 q.t j))) 9 q.n j)))]⟩]):=by kernel_rfl
theorem res_5b {q:Qd}{o:Bool}{c m:Nat}{P:Nat->Opp}:(lfun reG nol 60 Try.f101 [qV q (.sl 0 0 c)] [rowP o m P]).go (dN 5 0)=some ([!q.k==(1:Int),!q.k==(2:Int),!q.k==(6:Int),!q.k==(3:Int),!q.k==(4:Int),q.k==(5:Int),nc0 q,nc1 q,nc4 q,false||!byOk q.k||!fits q.p||!fits q.t||!fits q.x||!fits q.y,true,true,true,true,true,true,true,true,true,true,true],.tup [.c (.v (.slice none 0 0)),Bo false],[some ⟨121,o,.row 5 m fun j=>[.int .i64 (P j).k,.int .i64 (P j).i,.int .i64 (P j).a,.int .i64 (P j).b,.string (P j).s]⟩]):=by kernel_rfl
theorem res_5t {q:Qd}{o:Bool}{c m:Nat}{P:Nat->Opp}:(lfun reG nol 60 Try.f101 [qV q (.sl 0 0 c)] [rowP o m P]).go (dN 23 1442272)=some ([!q.k==(1:Int),!q.k==(2:Int),!q.k==(6:Int),!q.k==(3:Int),!q.k==(4:Int),q.k==(5:Int),nc0 q,nc1 q,nc4 q,!(nc10 q),true,true,true,true,true,true,true,nc11 q,(qx4 q).fst.o.isEmpty,true,nc2 P,true,true,!yes (sameF { k:=(qx4 q).fst.k,n:=(qx4 q).fst.n,p:=(qx4 q).fst.p,t:=(qx4 q).fst.t,x:=(qx4 q).fst.x,y:=(qx4 q).fst.y,o:=[] } { k:=q.k,n:=q.n,p:=q.p,t:=q.t,x:=q.x,y:=q.y,o:=[] }/\c=0)],.tup [.c (.v (.slice none 0 0)),Bo false],[some ⟨121,o,.row 5 m fun j=>[.int .i64 (decO (encO (P j))).k,.int .i64 (decO (encO (P j))).i,.int .i64 (decO (encO (P j))).a,.int .i64 (decO (encO (P j))).b,.string (decO (encO (P j))).s]⟩]):=by kernel_rfl
theorem res_5f {q:Qd}{o:Bool}{c m:Nat}{P:Nat->Opp}:(lfun reG nol 60 Try.f101 [qV q (.sl 0 0 c)] [rowP o m P]).go (dN 24 1442272)=some ([!q.k==(1:Int),!q.k==(2:Int),!q.k==(6:Int),!q.k==(3:Int),!q.k==(4:Int),q.k==(5:Int),nc0 q,nc1 q,nc4 q,!(nc10 q),true,true,true,true,true,true,true,nc11 q,(qx4 q).fst.o.isEmpty,true,nc2 P,true,true,!!yes (sameF { k:=(qx4 q).fst.k,n:=(qx4 q).fst.n,p:=(qx4 q).fst.p,t:=(qx4 q).fst.t,x:=(qx4 q).fst.x,y:=(qx4 q).fst.y,o:=[] } { k:=q.k,n:=q.n,p:=q.p,t:=q.t,x:=q.x,y:=q.y,o:=[] }/\c=0)],.tup [.c (.sl 1 0 17),Bo true],[some ⟨121,o,.row 5 m fun j=>[.int .i64 (decO (encO (P j))).k,.int .i64 (decO (encO (P j))).i,.int .i64 (decO (encO (P j))).a,.int .i64 (decO (encO (P j))).b,.string (decO (encO (P j))).s]⟩,some ⟨5,true,.row 1 17 fun j=>[.int .u8 (ud (ub (fourB (fun j=>ud (ub (fourB (fun j=>ud (ub (fourB (fourB (fun j=>ud (ub (appB (fun x=>0) 0 (IntKind.u8.wrap q.k) j))) 1 q.p) 5 q.t j))) 9 q.x j))) 13 q.y j)))]⟩]):=by kernel_rfl
theorem res_x {q:Qd}{o:Bool}{c m:Nat}{P:Nat->Opp}:(lfun reG nol 60 Try.f101 [qV q (.sl 0 0 c)] [rowP o m P]).go (dN 6 0)=some ([!q.k==(1:Int),!q.k==(2:Int),!q.k==(6:Int),!q.k==(3:Int),!q.k==(4:Int),!q.k==(5:Int)],.tup [.c (.v (.slice none 0 0)),Bo false],[some ⟨121,o,.row 5 m fun j=>[.int .i64 (P j).k,.int .i64 (P j).i,.int .i64 (P j).a,.int .i64 (P j).b,.string (P j).s]⟩]):=by kernel_rfl
end
section
open Go Go.RowKit
def opsP (P:Nat->Opp) (c:Nat):List Opp:=(List.range c).map P
theorem not_eq {b:Bool}(h:b=false):(!b)=true:=by rw [h];rfl
theorem notnot {b:Bool}(h:b=true):(!!b)=true:=by rw [h];rfl
theorem opsP_len (P:Nat->Opp) (c:Nat):(opsP P c).length=c:=by simp [opsP]
def byteL (L:List Int):Prop:=∀ x,x ∈ L->0<=x/\x<256
theorem by8_in (n:Int):0<=by8 n/\by8 n<256:=by unfold by8;omega
theorem byteL_nil:byteL []:=fun x h=>by cases h
theorem byteL_cons {x:Int}{L:List Int}(hx:0<=x/\x<256) (h:byteL L):byteL (x::L):=fun y hy=>by
 rcases List.mem_cons.1 hy with rfl|hy
 ·exact hx
 ·exact h y hy
theorem byteL_app {A C:List Int}(h1:byteL A) (h2:byteL C):byteL (A++C):=fun y hy=>by
 rcases List.mem_append.1 hy with hy|hy
 ·exact h1 y hy
 ·exact h2 y hy
theorem byteL_four (n:Int):byteL (four n):=byteL_cons (by8_in _) (byteL_cons (by8_in _) (byteL_cons (by8_in _) (byteL_cons (by8_in _) byteL_nil)))
theorem byteL_bs (s:ByteArray):byteL (bs s):=fun y hy=>by
 obtain ⟨u,_,rfl⟩:=List.mem_map.1 hy
 have:=u.toNat_lt
 omega
theorem byteL_opB (o:Opp):byteL (opB o):=
 byteL_cons (by8_in _) (byteL_app (byteL_app (byteL_app (byteL_app (byteL_four _) (byteL_four _)) (byteL_four _)) (byteL_cons (by8_in _) (byteL_cons (by8_in _) byteL_nil))) (byteL_bs _))
theorem byteL_ops (l:List Opp):byteL (l.flatMap opB):=fun y hy=>by
 obtain ⟨o,_,hy⟩:=List.mem_flatMap.1 hy
 exact byteL_opB o y hy
theorem byteL_reqB (q:Qd):byteL (reqB q):=by
 refine byteL_cons (by8_in _) ?_
 cases q.k==1
 ·cases q.k==2||q.k==6
  ·cases q.k==3
   ·cases q.k==4
    ·exact byteL_app (byteL_app (byteL_app (byteL_four _) (byteL_four _)) (byteL_four _)) (byteL_four _)
    ·exact byteL_app (byteL_app (byteL_four _) (byteL_four _)) (byteL_four _)
   ·exact byteL_app (byteL_four _) (byteL_four _)
  ·exact byteL_nil
 ·exact byteL_cons (by8_in _) (byteL_ops _)
theorem rng_gL {L:List Int}(h:byteL L):rng (gL L):=fun j=>by
 unfold gL
 by_cases hj:j<L.length
 ·rw [List.getD_eq_getElem?_getD,List.getElem?_eq_getElem hj]
  exact h _ (List.getElem_mem hj)
 ·rw [List.getD_eq_getElem?_getD,List.getElem?_eq_none (by omega)]
  show (0:Int)<=0/\(0:Int)<256
  omega
def reqOk (q:Qd):Prop:=wrOk q=true/\bareQ q=q
theorem qd_eq (a b:Qd):a=b ↔ sameF a b/\a.o=b.o:=by
 constructor
 ·rintro rfl;exact ⟨⟨rfl,rfl,rfl,rfl,rfl,rfl⟩,rfl⟩
 ·obtain ⟨k,n,p,t,x,y,o⟩:=a
  obtain ⟨k2,n2,p2,t2,x2,y2,o2⟩:=b
  rintro ⟨⟨h1,h2,h3,h4,h5,h6⟩,h7⟩
  simp only at h1 h2 h3 h4 h5 h6 h7
  subst h1;subst h2;subst h3;subst h4;subst h5;subst h6;subst h7;rfl
theorem rq_back {q:Qd}(h:wrOk q=true):rqR (gL (reqB q)) 0 (reqB q).length=(bareQ q,[],false):=by
 unfold rqR;rw [lst_gL,rQuery_reqB h]
theorem wq_congr {P Q:Nat->Opp}(k:Nat) (B:Nat->Int) (bad:Bool):∀ m,(∀ i,i<m->P i=Q i)->wqLen P k m=wqLen Q k m/\wqBad P bad m=wqBad Q bad m/\wqBs P k B m=wqBs Q k B m
 | 0,_=>⟨rfl,rfl,rfl⟩
 | m+1,h=>by
  obtain ⟨h1,h2,h3⟩:=wq_congr k B bad m fun i hi=>h i (by omega)
  simp only [wqLen,wqBad,wqBs,h1,h2,h3,h m (by omega),and_self]
theorem opsP_gP (P:Nat->Opp) (m:Nat):∀ i,i<m->P i=gP (opsP P m) i:=fun i hi=>by
 rw [gP_get _ _ (by rw [opsP_len];exact hi)]
 simp [opsP]
theorem wq_ops (P:Nat->Opp) (m:Nat) (q:Qd) (hk:q.k=1) (ho:q.o=opsP P m) :
  wqLen P 2 m=(reqB q).length/\wqBs P 2 (appB (appB (fun _=>0) 0 (IntKind.u8.wrap q.k)) 1 (IntKind.u8.wrap (m:Nat))) m=gL (reqB q):=by
 have hc:=wq_congr (P:=P) (Q:=gP (opsP P m)) 2 (appB (appB (fun _=>0) 0 (IntKind.u8.wrap q.k)) 1 (IntKind.u8.wrap (m:Nat))) false m (opsP_gP P m)
 have hl:=wq_list (opsP P m) [by8 q.k,by8 (m:Nat)] m (by rw [opsP_len];exact Nat.le_refl _)
 have e0:appB (appB (fun _=>0) 0 (IntKind.u8.wrap q.k)) 1 (IntKind.u8.wrap (m:Nat))=gL [by8 q.k,by8 (m:Nat)]:=by
  have e1:(fun _=>(0:Int))=gL []:=rfl
  rw [wrap_by8,wrap_by8,e1,gL_app' [] 0 rfl,gL_app' _ 1 rfl]
  rfl
 have er:reqB q=[by8 q.k,by8 (m:Nat)]++((opsP P m).take m).flatMap opB:=by
  unfold reqB
  rw [hk,ho,opsP_len,List.take_of_length_le (by rw [opsP_len];exact Nat.le_refl _)]
  rfl
 rw [hc.1,hc.2.2,e0,er]
 exact ⟨hl.1,hl.2⟩
theorem wqBad_ops (P:Nat->Opp) (m:Nat) (q:Qd) (hk:q.k=1) (ho:q.o=opsP P m):wqBad P (wqZ m (false||!byOk q.k)||!byOk (m:Nat)) m=!wrOk q:=by
 have hc:=wq_congr (P:=P) (Q:=gP (opsP P m)) 2 (fun _=>0) (wqZ m (false||!byOk q.k)||!byOk (m:Nat)) m (opsP_gP P m)
 rw [hc.2.1,wqBad_eq _ _ _ (by rw [opsP_len];exact Nat.le_refl _),List.take_of_length_le (by rw [opsP_len];exact Nat.le_refl _)]
 have ew:wrOk q=(decide (m<=100)&&allOk (opsP P m)):=by
  unfold wrOk
  rw [hk,ho,opsP_len]
  rfl
 rw [ew]
 have ek:byOk q.k=true:=by rw [hk];rfl
 unfold wqZ
 rw [ek]
 have:(((false||!true)||decide (((m:Nat):Int)>100))||!byOk ((m:Nat):Int))=!decide (m<=100):=by
  unfold byOk
  by_cases h:m<=100
  ·rw [decide_eq_true h,decide_eq_false (by omega),decide_eq_true (by omega),decide_eq_true (by omega)];rfl
  ·rw [decide_eq_false h,decide_eq_true (by omega)];rfl
 rw [this]
 cases decide (m<=100) <;> cases allOk (opsP P m) <;> rfl
open Classical in
noncomputable def reN (q:Qd):AV × AHeap:=if reqOk q then (.tup [.c (.sl 0 0 (reqB q).length),Bo true],[rowU true (reqB q).length (gL (reqB q))]) else (.tup [.c (.v (.slice none 0 0)),Bo false],[])
open Classical in
noncomputable def reS (q:Qd) (o:Bool) (m:Nat) (P:Nat->Opp):AV × AHeap:=if reqOk q then (.tup [.c (.sl 1 0 (reqB q).length),Bo true],[rowP o m P,rowU true (reqB q).length (gL (reqB q))]) else (.tup [.c (.v (.slice none 0 0)),Bo false],[rowP o m P])
end
section
open Go Go.RowKit
noncomputable def qyT (own:Bool) (m:Nat) (B:Nat->Int) (r:Qd × (List Int × Bool)):Tr (AV × AHeap):=
 .ite (yes (r.2=([],false)))
  (.ite r.1.o.isEmpty (.ret (.tup [qV r.1 (.v (.slice none 0 0)),I64 0],[rowU own m B]))
   (.ret (.tup [qV r.1 (.sl 1 0 r.1.o.length),I64 0],[rowU own m B,rowP true r.1.o.length (gP r.1.o)])))
  (.ret (.tup [qV ⟨0,0,0,0,0,0,[]⟩ (.v (.slice none 0 0)),I64 16],[rowU own m B]))
noncomputable def ryT (own:Bool) (m:Nat) (B:Nat->Int) (r:Rd × (List Int × Bool)):Tr (AV × AHeap):=
 .ite (yes (r.2=([],false))) (.ret (.tup [rV r.1,I64 0],[rowU own m B])) (.ret (.tup [rV ⟨0,0,0,0,0,0,0,0,0,0⟩,I64 16],[rowU own m B]))
theorem gt0 {L:List Int}(h:L ≠ []):decide (((L.length:Nat):Int)>0)=true:=by
 cases L with
 | nil=>exact absurd rfl h
 | cons x L=>exact decide_eq_true (by simp only [List.length_cons];omega)
theorem qy_eval {own:Bool}{m i n:Nat}{B:Nat->Int}(hB:rng B) (hm:i+n<=m):(lfun qyG nol 60 Try.f107 [.c (.sl 0 i n)] [rowU own m B]).eval=(qyT own m B (rqR B i n)).eval:=by
 have hy:yes (i+n<=m/\((fun j=>ub (B j))=fun j=>ub (ud (ub (B j))))/\rng fun j=>ud (ub (B j)))=true:=yes_of ⟨hm,rfl,hB⟩
 unfold qyT
 simp only [Tr.eval]
 cases hE:(rqR B i n).1.o.isEmpty with
 | true=>
  cases hb:(rqR B i n).2.2 with
  | true=>
   rw [yes_no fun h=>by rw [h] at hb;cases hb]
   exact (Tr.go_eval qy_eb ⟨hy,hE,hb,rfl,rfl,rfl,rfl,rfl,rfl,rfl,trivial⟩).trans rfl
  | false=>
   by_cases hL:(rqR B i n).2.1=[]
   ·rw [yes_of (show (rqR B i n).2=([],false) from Prod.ext hL hb)]
    refine (Tr.go_eval qy_eo (by
     repeat' (first|exact AllT.nil|refine AllT.cons ?_ ?_)
     all_goals first|(with_reducible rfl)|exact hy|exact hE|exact not_eq hb|exact not_eq (by show decide ((((rqR B i n).2.1.length:Nat):Int)>0)=false;rw [hL];rfl))).trans rfl
   ·rw [yes_no fun h=>hL (by rw [h])]
    refine (Tr.go_eval qy_er (by
     repeat' (first|exact AllT.nil|refine AllT.cons ?_ ?_)
     all_goals first|(with_reducible rfl)|exact hy|exact hE|exact not_eq hb|exact gt0 hL)).trans rfl
 | false=>
  cases hb:(rqR B i n).2.2 with
  | true=>
   rw [yes_no fun h=>by rw [h] at hb;cases hb]
   exact (Tr.go_eval qy_ob ⟨hy,not_eq hE,hb,rfl,rfl,rfl,rfl,rfl,rfl,rfl,trivial⟩).trans rfl
  | false=>
   by_cases hL:(rqR B i n).2.1=[]
   ·rw [yes_of (show (rqR B i n).2=([],false) from Prod.ext hL hb)]
    refine (Tr.go_eval qy_oo (by
     repeat' (first|exact AllT.nil|refine AllT.cons ?_ ?_)
     all_goals first|(with_reducible rfl)|exact hy|exact not_eq hE|exact not_eq hb|exact not_eq (by show decide ((((rqR B i n).2.1.length:Nat):Int)>0)=false;rw [hL];rfl))).trans rfl
   ·rw [yes_no fun h=>hL (by rw [h])]
    refine (Tr.go_eval qy_or (by
     repeat' (first|exact AllT.nil|refine AllT.cons ?_ ?_)
     all_goals first|(with_reducible rfl)|exact hy|exact not_eq hE|exact not_eq hb|exact gt0 hL)).trans rfl
theorem ry_eval {own:Bool}{m i n:Nat}{B:Nat->Int}(hB:rng B) (hm:i+n<=m):(lfun qyG nol 60 Try.f109 [.c (.sl 0 i n)] [rowU own m B]).eval=(ryT own m B (rrR B i n)).eval:=by
 have hy:yes (i+n<=m/\((fun j=>ub (B j))=fun j=>ub (ud (ub (B j))))/\rng fun j=>ud (ub (B j)))=true:=yes_of ⟨hm,rfl,hB⟩
 unfold ryT
 simp only [Tr.eval]
 cases hb:(rrR B i n).2.2 with
 | true=>
  rw [yes_no fun h=>by rw [h] at hb;cases hb]
  refine (Tr.go_eval ry_b (by
     repeat' (first|exact AllT.nil|refine AllT.cons ?_ ?_)
     all_goals first|(with_reducible rfl)|exact hy|exact hb)).trans rfl
 | false=>
  by_cases hL:(rrR B i n).2.1=[]
  ·rw [yes_of (show (rrR B i n).2=([],false) from Prod.ext hL hb)]
   refine (Tr.go_eval ry_o (by
     repeat' (first|exact AllT.nil|refine AllT.cons ?_ ?_)
     all_goals first|(with_reducible rfl)|exact hy|exact not_eq hb|exact not_eq (by show decide ((((rrR B i n).2.1.length:Nat):Int)>0)=false;rw [hL];rfl))).trans rfl
  ·rw [yes_no fun h=>hL (by rw [h])]
   refine (Tr.go_eval ry_r (by
     repeat' (first|exact AllT.nil|refine AllT.cons ?_ ?_)
     all_goals first|(with_reducible rfl)|exact hy|exact not_eq hb|exact gt0 hL)).trans rfl
noncomputable def qyF0:Spec:=fun args h=>match args,h with
 | [.c (.sl 0 i n)],[some ⟨5,own,.row 1 m f⟩]=>
  .need (yes (i+n<=m/\(f=fun j=>ub (ud (f j)))/\rng fun j=>ud (f j))) (qyT own m (fun j=>ud (f j)) (rqR (fun j=>ud (f j)) i n))
 | _,_=>.fail
theorem qyF0_ok:SpecOk Try.prog 107 qyF0:=by
 refine knownS KQY_ok Try.func107 fun args h r he=>?_
 unfold qyF0 at he
 split at he
 ·rename_i i n own m f
  obtain ⟨⟨h1,h2,h3⟩,he'⟩:=Tr.eval_ask.1 he
  have e1:some ⟨5,own,.row 1 m f⟩=rowU own m fun j=>ud (f j):=by rw [rowU,<-h2]
  rw [e1]
  exact ⟨(fun _=>[]),[],60,nol,noLoopsS,(qy_eval h3 h1).trans he'⟩
 ·cases he
noncomputable def ryF0:Spec:=fun args h=>match args,h with
 | [.c (.sl 0 i n)],[some ⟨5,own,.row 1 m f⟩]=>
  .need (yes (i+n<=m/\(f=fun j=>ub (ud (f j)))/\rng fun j=>ud (f j))) (ryT own m (fun j=>ud (f j)) (rrR (fun j=>ud (f j)) i n))
 | _,_=>.fail
theorem ryF0_ok:SpecOk Try.prog 109 ryF0:=by
 refine knownS KQY_ok Try.func109 fun args h r he=>?_
 unfold ryF0 at he
 split at he
 ·rename_i i n own m f
  obtain ⟨⟨h1,h2,h3⟩,he'⟩:=Tr.eval_ask.1 he
  have e1:some ⟨5,own,.row 1 m f⟩=rowU own m fun j=>ud (f j):=by rw [rowU,<-h2]
  rw [e1]
  exact ⟨(fun _=>[]),[],60,nol,noLoopsS,(ry_eval h3 h1).trans he'⟩
 ·cases he
def lstU:List (List AC)->Option (List Int)
 | []=>some []
 | [.v (.int .u8 x)]::l=>(lstU l).map (x::·)
 | _=>none
theorem lstU_len:∀ {l:List (List AC)}{xs:List Int},lstU l=some xs->l.length=xs.length/\∀ i z,i<l.length->l.getD i z=ofCells (ub (xs.getD i 0))
 | [],xs,h=>by cases h;exact ⟨rfl,fun i z hi=>absurd hi (Nat.not_lt_zero i)⟩
 | [.v (.int .u8 x)]::l,xs,h=>by
  simp only [lstU,Option.map_eq_some_iff] at h
  obtain ⟨ys,h1,rfl⟩:=h
  obtain ⟨h2,h3⟩:=lstU_len h1
  refine ⟨by simp [h2],fun i z hi=>?_⟩
  cases i with
  | zero=>rfl
  | succ i=>
   rw [List.getD_cons_succ,List.getD_cons_succ]
   exact h3 i z (by simpa using hi)
theorem lstU_same {l:List (List AC)}{xs:List Int}{z:List AC}{own:Bool}(h:lstU l=some xs):SameB (rowU own xs.length (gL xs)) (some ⟨5,own,.lst 1 l z⟩):=by
 obtain ⟨h1,h2⟩:=lstU_len h
 refine ⟨rfl,rfl,rfl,h1.symm,fun i hi=>?_⟩
 have hi':i<l.length:=by rw [h1];exact hi
 exact (h2 i z hi').symm
noncomputable def qyF:Spec:=fun args h=>match args,h with
 | [.c (.sl 0 i n)],[some ⟨5,own,.lst 1 l z⟩]=>match lstU l with
  | some xs=>.need (yes (i+n<=xs.length/\rng (gL xs))) (qyT own xs.length (gL xs) (rqR (gL xs) i n))
  | none=>.fail
 | args,h=>qyF0 args h
theorem qyF_ok:SpecOk Try.prog 107 qyF:=by
 refine SpecOk.same qyF0_ok fun args H r H' he=>?_
 unfold qyF at he
 split at he
 ·rename_i i n own l z
  split at he
  ·rename_i xs hx
   obtain ⟨⟨h1,h2⟩,he'⟩:=Tr.eval_ask.1 he
   refine ⟨[rowU own xs.length (gL xs)],H',.cons (lstU_same hx) .nil,SameH.refl _,?_⟩
   exact Tr.eval_ask.2 ⟨⟨h1,rfl,h2⟩,he'⟩
  ·cases he
 ·exact ⟨H,H',SameH.refl _,SameH.refl _,he⟩
noncomputable def ryF:Spec:=fun args h=>match args,h with
 | [.c (.sl 0 i n)],[some ⟨5,own,.lst 1 l z⟩]=>match lstU l with
  | some xs=>.need (yes (i+n<=xs.length/\rng (gL xs))) (ryT own xs.length (gL xs) (rrR (gL xs) i n))
  | none=>.fail
 | args,h=>ryF0 args h
theorem ryF_ok:SpecOk Try.prog 109 ryF:=by
 refine SpecOk.same ryF0_ok fun args H r H' he=>?_
 unfold ryF at he
 split at he
 ·rename_i i n own l z
  split at he
  ·rename_i xs hx
   obtain ⟨⟨h1,h2⟩,he'⟩:=Tr.eval_ask.1 he
   refine ⟨[rowU own xs.length (gL xs)],H',.cons (lstU_same hx) .nil,SameH.refl _,?_⟩
   exact Tr.eval_ask.2 ⟨⟨h1,rfl,h2⟩,he'⟩
  ·cases he
 ·exact ⟨H,H',SameH.refl _,SameH.refl _,he⟩
end
section
open Go Go.RowKit
theorem nm2_nf {own : Bool} {n m : Nat} {B : Nat → Int} {i : Int} : (lfun niG nol 60 Try.f151 [.c (.sl 0 0 n), I64 i] [rowU own m B]).eval =
  bif decide (w64 (i + (4 : Int)) > ((n : Nat) : Int)) then
    some
      (AV.tup [I64 (0 : Int), Bo false],
        [some { t := 5, own := own, c := Cont.row 1 m fun j => [Value.int IntKind.u8 (B j)] }])
  else
    bif decide ((0 : Int) ≤ i) then
      bif decide (i < ((n : Nat) : Int)) then
        bif decide (0 + i.toNat < m) then
          bif decide ((0 : Int) ≤ w64 (i + (1 : Int))) then
            bif decide (w64 (i + (1 : Int)) < ((n : Nat) : Int)) then
              bif decide (0 + (w64 (i + (1 : Int))).toNat < m) then
                bif decide ((0 : Int) ≤ w64 (i + (2 : Int))) then
                  bif decide (w64 (i + (2 : Int)) < ((n : Nat) : Int)) then
                    bif decide (0 + (w64 (i + (2 : Int))).toNat < m) then
                      bif decide ((0 : Int) ≤ w64 (i + (3 : Int))) then
                        bif decide (w64 (i + (3 : Int)) < ((n : Nat) : Int)) then
                          bif decide (0 + (w64 (i + (3 : Int))).toNat < m) then
                            bif
                                decide
                                  (w64
                                      (((BitVec.ofInt IntKind.i64.bits
                                              (w64
                                                (((BitVec.ofInt IntKind.i64.bits
                                                        (w64
                                                          (((BitVec.ofInt IntKind.i64.bits
                                                                  (w64
                                                                    (w64 (B (0 + i.toNat)) *
                                                                      (2 : Int) ^ min 24 IntKind.i64.bits)) |||
                                                                BitVec.ofInt IntKind.i64.bits
                                                                  (w64
                                                                    (w64 (B (0 + (w64 (i + (1 : Int))).toNat)) *
                                                                      (2 : Int) ^
                                                                        min 16 IntKind.i64.bits))).toNat : Nat) : Int)) |||
                                                      BitVec.ofInt IntKind.i64.bits
                                                        (w64
                                                          (w64 (B (0 + (w64 (i + (2 : Int))).toNat)) *
                                                            (2 : Int) ^ min 8 IntKind.i64.bits))).toNat : Nat) : Int)) |||
                                            BitVec.ofInt IntKind.i64.bits
                                              (w64 (B (0 + (w64 (i + (3 : Int))).toNat)))).toNat : Nat) : Int) ≥
                                    (2147483648 : Int)) then
                              some
                                (AV.tup
                                    [I64
                                        (w64
                                          (w64
                                              (((BitVec.ofInt IntKind.i64.bits
                                                      (w64
                                                        (((BitVec.ofInt IntKind.i64.bits
                                                                (w64
                                                                  (((BitVec.ofInt IntKind.i64.bits
                                                                          (w64
                                                                            (w64 (B (0 + i.toNat)) *
                                                                              (2 : Int) ^
                                                                                min 24 IntKind.i64.bits)) |||
                                                                        BitVec.ofInt IntKind.i64.bits
                                                                          (w64
                                                                            (w64
                                                                                (B
                                                                                  (0 +
                                                                                    (w64 (i + (1 : Int))).toNat)) *
                                                                              (2 : Int) ^
                                                                                min 16
                                                                                  IntKind.i64.bits))).toNat : Nat) : Int)) |||
                                                              BitVec.ofInt IntKind.i64.bits
                                                                (w64
                                                                  (w64 (B (0 + (w64 (i + (2 : Int))).toNat)) *
                                                                    (2 : Int) ^
                                                                      min 8 IntKind.i64.bits))).toNat : Nat) : Int)) |||
                                                    BitVec.ofInt IntKind.i64.bits
                                                      (w64 (B (0 + (w64 (i + (3 : Int))).toNat)))).toNat : Nat) : Int) -
                                            (4294967296 : Int))),
                                      Bo true],
                                  [some
                                      { t := 5, own := own,
                                        c := Cont.row 1 m fun j => [Value.int IntKind.u8 (B j)] }])
                            else
                              some
                                (AV.tup
                                    [I64
                                        (w64
                                          (((BitVec.ofInt IntKind.i64.bits
                                                  (w64
                                                    (((BitVec.ofInt IntKind.i64.bits
                                                            (w64
                                                              (((BitVec.ofInt IntKind.i64.bits
                                                                      (w64
                                                                        (w64 (B (0 + i.toNat)) *
                                                                          (2 : Int) ^
                                                                            min 24 IntKind.i64.bits)) |||
                                                                    BitVec.ofInt IntKind.i64.bits
                                                                      (w64
                                                                        (w64
                                                                            (B
                                                                              (0 +
                                                                                (w64 (i + (1 : Int))).toNat)) *
                                                                          (2 : Int) ^
                                                                            min 16
                                                                              IntKind.i64.bits))).toNat : Nat) : Int)) |||
                                                          BitVec.ofInt IntKind.i64.bits
                                                            (w64
                                                              (w64 (B (0 + (w64 (i + (2 : Int))).toNat)) *
                                                                (2 : Int) ^ min 8 IntKind.i64.bits))).toNat : Nat) : Int)) |||
                                                BitVec.ofInt IntKind.i64.bits
                                                  (w64 (B (0 + (w64 (i + (3 : Int))).toNat)))).toNat : Nat) : Int)),
                                      Bo true],
                                  [some
                                      { t := 5, own := own,
                                        c := Cont.row 1 m fun j => [Value.int IntKind.u8 (B j)] }])
                          else none
                        else none
                      else none
                    else none
                  else none
                else none
              else none
            else none
          else none
        else none
      else none
    else none := by kernel_rfl
theorem sm2_nf {own own2:Bool}{n m n2 m2:Nat}{B B2:Nat->Int}:(lfun niG nol 60 Try.f153 [.c (.sl 0 0 n),.c (.sl 1 0 n2)] [rowU own m B,rowU own2 m2 B2]).eval =
 bif decide (0+n<=m) then
  bif allB n fun k=>isU8 (ub (B (0+k))) then
   bif decide (0+n2<=m2) then
    bif allB n2 fun k=>isU8 (ub (B2 (0+k))) then
     some
      (Bo
        ((bytesOf (fun j=>ub (B j)) 0 n).toList ==
         (bytesOf (fun j=>ub (B2 j)) 0 n2).toList),
       [some { t:=5,own:=own,c:=Cont.row 1 m fun j=>[Value.int IntKind.u8 (B j)] },
        some
         {t:=5,own:=own2,c:=Cont.row 1 m2 fun j=>[Value.int IntKind.u8 (B2 j)] }])
    else none
   else none
  else none
 else none:=by kernel_rfl
noncomputable def xfiF:Spec:=fun args h=>match args,h with
 | [.c (.v (.int .i64 n))],[]=>.ret (Bo (fits n),[])
 | _,_=>.fail
theorem xfiF_ok:SpecOk Try.prog 146 xfiF:=by
 refine knownS nilK Try.func146 fun args h r he=>?_
 unfold xfiF at he
 split at he
 ·rename_i n
  cases he
  refine ⟨(fun _=>[]),[],60,nol,noLoopsS,fi_nf.trans ?_⟩
  unfold fits
  by_cases h1:-2147483648<=n
  ·rw [decide_eq_true (show n>=-2147483648 from h1)];rfl
  ·rw [decide_eq_false (show ¬ n>=-2147483648 from h1)];rfl
 ·cases he
def fo4l (n:Int):Option ABlk:=some ⟨5,true,.lst 1 [[.v (.int .u8 (IntKind.u8.wrap (n.fdiv (2^min 24 IntKind.i64.bits))))],[.v (.int .u8 (IntKind.u8.wrap (n.fdiv (2^min 16 IntKind.i64.bits))))],[.v (.int .u8 (IntKind.u8.wrap (n.fdiv (2^min 8 IntKind.i64.bits))))],[.v (.int .u8 (IntKind.u8.wrap n))]] [.v (.int .u8 (0:Int))]⟩
noncomputable def xfo0:Spec:=fun args h=>match args,h with
 | [.c (.v (.int .i64 n))],[]=>.ret (.c (.sl 0 0 4),[fo4l n])
 | _,_=>.fail
theorem xfo0_ok:SpecOk Try.prog 147 xfo0:=by
 refine knownS nilK Try.func147 fun args h r he=>?_
 unfold xfo0 at he
 split at he
 ·cases he
  exact ⟨(fun _=>[]),[],60,nol,noLoopsS,fo_nf⟩
 ·cases he
theorem four_wrap (n:Int):[IntKind.u8.wrap (n.fdiv (2^min 24 IntKind.i64.bits)),IntKind.u8.wrap (n.fdiv (2^min 16 IntKind.i64.bits)),IntKind.u8.wrap (n.fdiv (2^min 8 IntKind.i64.bits)),IntKind.u8.wrap n]=four n:=by
 have e1:((2:Int)^min 24 IntKind.i64.bits)=16777216:=rfl
 have e2:((2:Int)^min 16 IntKind.i64.bits)=65536:=rfl
 have e3:((2:Int)^min 8 IntKind.i64.bits)=256:=rfl
 rw [e1,e2,e3,fdiv_k _ _ (by omega),fdiv_k _ _ (by omega),fdiv_k _ _ (by omega)]
 simp only [wrap_by8]
 rfl
noncomputable def xfoF:Spec:=fun args h=>match args,h with
 | [.c (.v (.int .i64 n))],[]=>.ret (.c (.sl 0 0 4),[rowU true 4 (gL (four n))])
 | _,_=>.fail
theorem xfoF_ok:SpecOk Try.prog 147 xfoF:=by
 refine SpecOk.same xfo0_ok fun args h r H' he=>?_
 unfold xfoF at he
 split at he
 ·rename_i n
  cases he
  refine ⟨[],[fo4l n],.nil,.cons ?_ .nil,rfl⟩
  have e:=lstU_same (own:=true) (z:=[.v (.int .u8 (0:Int))]) (l:=[[.v (.int .u8 (IntKind.u8.wrap (n.fdiv (2^min 24 IntKind.i64.bits))))],[.v (.int .u8 (IntKind.u8.wrap (n.fdiv (2^min 16 IntKind.i64.bits))))],[.v (.int .u8 (IntKind.u8.wrap (n.fdiv (2^min 8 IntKind.i64.bits))))],[.v (.int .u8 (IntKind.u8.wrap n))]]) (xs:=four n) (by rw [<-four_wrap];rfl)
  exact e.symm
 ·cases he
noncomputable def xheF:Spec:=fun args h=>match args,h with
 | [.c (.v (.int .i64 n)),.c (.v (.int .i64 lo)),.c (.v (.int .i64 hi))],[]=>.ret (I64 (mnI hi (mxI lo n)),[])
 | _,_=>.fail
theorem xheF_ok:SpecOk Try.prog 150 xheF:=by
 refine knownS nilK Try.func150 fun args h r he=>?_
 unfold xheF at he
 split at he
 ·cases he
  exact ⟨(fun _=>[]),[],60,nol,noLoopsS,he_nf⟩
 ·cases he
theorem toB_inj {A C:List Int}(h1:byteL A) (h2:byteL C) (h:toB A=toB C):A=C:=by
 have e:A.map (fun x=>UInt8.ofNat x.toNat)=C.map (fun x=>UInt8.ofNat x.toNat):=by
  have:=congrArg (fun b:ByteArray=>b.data.toList) h
  simpa [toB] using this
 have back:∀ L:List Int,byteL L->(L.map (fun x=>UInt8.ofNat x.toNat)).map (fun u=>((u.toNat:Nat):Int))=L:=by
  intro L hL
  rw [List.map_map]
  conv=>rhs;rw [<-List.map_id L]
  refine List.map_congr_left fun x hx=>?_
  have hb:=hL x hx
  show (((UInt8.ofNat x.toNat).toNat:Nat):Int)=x
  have:(UInt8.ofNat x.toNat).toNat=x.toNat:=by
   rw [UInt8.toNat_ofNat']
   exact Nat.mod_eq_of_lt (by omega)
  rw [this];omega
 rw [<-back A h1,<-back C h2,e]
theorem toL_inj {a b:ByteArray}(h:a.toList=b.toList):a=b:=by
 have key:∀ c:ByteArray,c.toList=c.data.toList:=fun c=>by simp [ByteArray.toList_eq]
 rw [key,key] at h
 cases a;cases b
 simp only [ByteArray.mk.injEq]
 exact Array.toList_inj.1 h
theorem lst_byteL {B:Nat->Int}(h:rng B) (i n:Nat):byteL (lst B i n):=fun x hx=>by
 obtain ⟨j,_,rfl⟩:=List.mem_map.1 hx
 exact h _
noncomputable def xsmF:Spec:=fun args h=>match args,h with
 | [.c (.sl 0 0 n),.c (.sl 1 0 n2)],[some ⟨5,own,.row 1 m f⟩,some ⟨5,own2,.row 1 m2 f2⟩]=>
  .need (yes (n<=m/\n2<=m2/\(f=fun j=>ub (ud (f j)))/\(f2=fun j=>ub (ud (f2 j)))/\(rng fun j=>ud (f j))/\rng fun j=>ud (f2 j)))
   (.ret (Bo (yes (lst (fun j=>ud (f j)) 0 n=lst (fun j=>ud (f2 j)) 0 n2)),[rowU own m fun j=>ud (f j),rowU own2 m2 fun j=>ud (f2 j)]))
 | _,_=>.fail
theorem xsmF_ok:SpecOk Try.prog 153 xsmF:=by
 refine knownS nilK Try.func153 fun args h r he=>?_
 unfold xsmF at he
 split at he
 ·rename_i n n2 own m f own2 m2 f2
  obtain ⟨⟨h1,h2,h3,h4,h5,h6⟩,he'⟩:=Tr.eval_ask.1 he
  cases he'
  have e1:some ⟨5,own,.row 1 m f⟩=rowU own m fun j=>ud (f j):=by rw [rowU,<-h3]
  have e2:some ⟨5,own2,.row 1 m2 f2⟩=rowU own2 m2 fun j=>ud (f2 j):=by rw [rowU,<-h4]
  rw [e1,e2]
  refine ⟨(fun _=>[]),[],60,nol,noLoopsS,sm2_nf.trans ?_⟩
  refine (bif_t (decide_eq_true (by omega))).trans ((bif_t (allB_u8 _ (fun _=>rfl) _)).trans ((bif_t (decide_eq_true (by omega))).trans ((bif_t (allB_u8 _ (fun _=>rfl) _)).trans ?_)))
  have e3:((bytesOf (fun j=>ub (ud (f j))) 0 n).toList==(bytesOf (fun j=>ub (ud (f2 j))) 0 n2).toList)=yes (lst (fun j=>ud (f j)) 0 n=lst (fun j=>ud (f2 j)) 0 n2):=by
   rw [bytes_lst,bytes_lst]
   by_cases hL:lst (fun j=>ud (f j)) 0 n=lst (fun j=>ud (f2 j)) 0 n2
   ·rw [yes_of hL,hL];simp
   ·rw [yes_no hL]
    cases hb:((toB (lst (fun j=>ud (f j)) 0 n)).toList==(toB (lst (fun j=>ud (f2 j)) 0 n2)).toList) with
    | false=>rfl
    | true=>
     refine absurd (toB_inj (lst_byteL h5 _ _) (lst_byteL h6 _ _) ?_) hL
     exact toL_inj (eq_of_beq hb)
  rw [e3]
  rfl
 ·cases he
theorem or_sh (a b k:Nat) (hb:b<2^k):a*2^k ||| b=a*2^k+b:=by
 have:=Nat.shiftLeft_add_eq_or_of_lt (a:=a) (b:=b) (i:=k) hb
 rw [Nat.shiftLeft_eq] at this
 exact this.symm
theorem or64 (x y:Int) (hx:0<=x/\x<2^60) (hy:0<=y/\y<2^60):(((BitVec.ofInt IntKind.i64.bits x ||| BitVec.ofInt IntKind.i64.bits y).toNat:Nat):Int)=((x.toNat ||| y.toNat:Nat):Int):=by
 obtain ⟨a,rfl⟩:=Int.eq_ofNat_of_zero_le hx.1
 obtain ⟨b,rfl⟩:=Int.eq_ofNat_of_zero_le hy.1
 have b1:BitVec.ofInt IntKind.i64.bits ((a:Nat):Int)=BitVec.ofNat IntKind.i64.bits a:=BitVec.ofInt_natCast _ a
 have b2:BitVec.ofInt IntKind.i64.bits ((b:Nat):Int)=BitVec.ofNat IntKind.i64.bits b:=BitVec.ofInt_natCast _ b
 have e5:(2:Nat)^IntKind.i64.bits=18446744073709551616:=rfl
 rw [b1,b2,BitVec.toNat_or,BitVec.toNat_ofNat,BitVec.toNat_ofNat,e5,Nat.mod_eq_of_lt (by omega),Nat.mod_eq_of_lt (by omega),Int.toNat_natCast,Int.toNat_natCast]
theorem orP (a b:Int) (k:Nat) (p:Int) (hp:p=2^k) (hk:k<=24) (ha:0<=a/\a<2^32) (hb:0<=b/\b<p):(((BitVec.ofInt IntKind.i64.bits (a*p) ||| BitVec.ofInt IntKind.i64.bits b).toNat:Nat):Int)=a*p+b:=by
 obtain ⟨a',rfl⟩:=Int.eq_ofNat_of_zero_le ha.1
 obtain ⟨b',rfl⟩:=Int.eq_ofNat_of_zero_le hb.1
 have hp1:p<=2^24:=by rw [hp];exact_mod_cast Nat.pow_le_pow_right (by decide) hk
 have hp0:0<p:=by omega
 obtain ⟨p',rfl⟩:=Int.eq_ofNat_of_zero_le (Int.le_of_lt hp0)
 have hpn:p'=2^k:=by exact_mod_cast hp
 have hm:((a'*p':Nat):Int)<2^60:=by
  have:a'*p'<=2^32*2^24:=Nat.mul_le_mul (by omega) (by omega)
  omega
 rw [or64 _ _ ⟨by exact_mod_cast Nat.zero_le _,by exact_mod_cast hm⟩ ⟨by omega,by omega⟩]
 have e:(((a':Nat):Int)*((p':Nat):Int)).toNat=a'*p':=by exact_mod_cast Int.toNat_natCast (a'*p')
 rw [e,Int.toNat_natCast,hpn,or_sh a' b' k (by rw [<-hpn];omega)]
 push_cast
 rfl
end
section
open Go Go.RowKit
theorem nV {a b c d:Int}(ha:0<=a/\a<256) (hb:0<=b/\b<256) (hc:0<=c/\c<256) (hd:0<=d/\d<256) :
  w64 (((BitVec.ofInt IntKind.i64.bits (w64 (((BitVec.ofInt IntKind.i64.bits (w64 (((BitVec.ofInt IntKind.i64.bits (w64 (w64 a*(2:Int)^min 24 IntKind.i64.bits)) ||| BitVec.ofInt IntKind.i64.bits (w64 (w64 b*(2:Int)^min 16 IntKind.i64.bits))).toNat:Nat):Int)) ||| BitVec.ofInt IntKind.i64.bits (w64 (w64 c*(2:Int)^min 8 IntKind.i64.bits))).toNat:Nat):Int)) ||| BitVec.ofInt IntKind.i64.bits (w64 d)).toNat:Nat):Int)=a*16777216+b*65536+c*256+d:=by
 have e1:((2:Int)^min 24 IntKind.i64.bits)=16777216:=rfl
 have e2:((2:Int)^min 16 IntKind.i64.bits)=65536:=rfl
 have e3:((2:Int)^min 8 IntKind.i64.bits)=256:=rfl
 have w:∀ x:Int,0<=x/\x<2^40->w64 x=x:=fun x h=>w64_id (by omega) (by omega)
 rw [e1,e2,e3,w a (by omega),w b (by omega),w c (by omega),w d (by omega),w (a*16777216) (by omega),w (b*65536) (by omega),w (c*256) (by omega)]
 rw [orP a (b*65536) 24 16777216 rfl (by omega) (by omega) (by omega),w (a*16777216+b*65536) (by omega)]
 rw [show a*16777216+b*65536=(a*256+b)*65536 by omega]
 rw [orP (a*256+b) (c*256) 16 65536 rfl (by omega) (by omega) (by omega),w ((a*256+b)*65536+c*256) (by omega)]
 rw [show (a*256+b)*65536+c*256=((a*256+b)*256+c)*256 by omega]
 rw [orP ((a*256+b)*256+c) d 8 256 rfl (by omega) (by omega) (by omega),w _ (by omega)]
def nAt (L:List Int) (i:Nat):Int × Bool:=bif decide (i+4>L.length) then (0,false) else ((rNum (L.drop i,false)).1,true)
theorem nAt_lst {B:Nat->Int}{n i:Nat}(h:i+4<=n):nAt (lst B 0 n) i=(num4 (B i) (B (i+1)) (B (i+2)) (B (i+3)),true):=by
 unfold nAt
 rw [lst_len,decide_eq_false (by omega),cond_false,lst_drop _ _ _ _ (by omega),Nat.zero_add]
 have e:n-i=(n-i-4)+1+1+1+1:=by omega
 rw [e,lst_succ,lst_succ,lst_succ,lst_succ]
 rfl
noncomputable def xnmF:Spec:=fun args h=>match args,h with
 | [.c (.sl 0 0 n),.c (.v (.int .i64 i))],[some ⟨5,own,.row 1 m f⟩]=>
  .need (yes (n<=m/\n<2^50/\(0<=i/\i<2^50)/\(f=fun j=>ub (ud (f j)))/\rng fun j=>ud (f j)))
   (.ret (.tup [I64 (nAt (lst (fun j=>ud (f j)) 0 n) i.toNat).1,Bo (nAt (lst (fun j=>ud (f j)) 0 n) i.toNat).2],[rowU own m fun j=>ud (f j)]))
 | _,_=>.fail
theorem xnmF_ok:SpecOk Try.prog 151 xnmF:=by
 refine knownS nilK Try.func151 fun args h r he=>?_
 unfold xnmF at he
 split at he
 ·rename_i n i own m f
  obtain ⟨⟨h1,h2,h3,h4,h5⟩,he'⟩:=Tr.eval_ask.1 he
  cases he'
  have e1:some ⟨5,own,.row 1 m f⟩=rowU own m fun j=>ud (f j):=by rw [rowU,<-h4]
  rw [e1]
  refine ⟨(fun _=>[]),[],60,nol,noLoopsS,nm2_nf.trans ?_⟩
  obtain ⟨k,rfl⟩:=Int.eq_ofNat_of_zero_le h3.1
  have w4:w64 (((k:Nat):Int)+4)=((k+4:Nat):Int):=by rw [w64_id (by omega) (by omega)];omega
  have w1:w64 (((k:Nat):Int)+1)=((k+1:Nat):Int):=by rw [w64_id (by omega) (by omega)];omega
  have w2:w64 (((k:Nat):Int)+2)=((k+2:Nat):Int):=by rw [w64_id (by omega) (by omega)];omega
  have w3:w64 (((k:Nat):Int)+3)=((k+3:Nat):Int):=by rw [w64_id (by omega) (by omega)];omega
  simp only [w1,w2,w3,w4,Int.toNat_natCast,Nat.zero_add]
  by_cases hk:k+4>n
  ·refine (bif_t (decide_eq_true (by omega))).trans ?_
   have e:nAt (lst (fun j=>ud (f j)) 0 n) k=(0,false):=by unfold nAt;rw [lst_len,decide_eq_true hk];rfl
   rw [e];rfl
  ·refine (bif_f (decide_eq_false (by omega))).trans ?_
   refine (bif_t (decide_eq_true (by omega))).trans ((bif_t (decide_eq_true (by omega))).trans ((bif_t (decide_eq_true (by omega))).trans ?_))
   refine (bif_t (decide_eq_true (by omega))).trans ((bif_t (decide_eq_true (by omega))).trans ((bif_t (decide_eq_true (by omega))).trans ?_))
   refine (bif_t (decide_eq_true (by omega))).trans ((bif_t (decide_eq_true (by omega))).trans ((bif_t (decide_eq_true (by omega))).trans ?_))
   refine (bif_t (decide_eq_true (by omega))).trans ((bif_t (decide_eq_true (by omega))).trans ((bif_t (decide_eq_true (by omega))).trans ?_))
   have hV:=nV (h5 k) (h5 (k+1)) (h5 (k+2)) (h5 (k+3))
   rw [hV,nAt_lst (B:=fun j=>ud (f j)) (n:=n) (i:=k) (by omega)]
   have b0:=h5 k
   have b1:=h5 (k+1)
   have b2:=h5 (k+2)
   have b3:=h5 (k+3)
   unfold num4
   by_cases hg:ud (f k)*16777216+ud (f (k+1))*65536+ud (f (k+2))*256+ud (f (k+3))>=2147483648
   ·rw [decide_eq_true hg,if_pos hg,w64_id (by omega) (by omega)];rfl
   ·rw [decide_eq_false hg,if_neg hg];rfl
 ·cases he
end
section
open Go Go.RowKit
noncomputable def KXO:Known:=[(151,xnmF)]
theorem KXO_ok:KnownOk KXO:=consK xnmF_ok (by kernel_rfl) nilK
abbrev xoK:List (Nat × Option TypeId):=[(0,none),(2,none),(3,none),(4,none),(5,none),(6,none)]
noncomputable def xoG:Ctx2:=GT KXO (fun k=>if k=6 then xoK else []) 0 []
theorem xoG_ok:XOk xoG:=GT_ok KXO_ok _ _ _
def xo0 (own:Bool) (m:Nat) (B:Nat->Int) (n:Nat) (a i:Int):St:=
 ⟨slots 98 [(0,.c (.sl 0 0 n)),(2,.c (.v (.slice none 0 0))),(3,Bo false),(4,.c (.v (.slice none 0 0))),(5,I64 a),(6,I64 i)],[rowU own m B]⟩
def xo1 (own:Bool) (m:Nat) (B:Nat->Int) (n:Nat) (a i:Int) (na:Nat) (P:Nat->Opp):St:=
 ⟨slots 98 [(0,.c (.sl 0 0 n)),(2,.c (.v (.slice none 0 0))),(3,Bo false),(4,.c (.sl 1 0 na)),(5,I64 a),(6,I64 i)],[rowU own m B,rowP true na P]⟩
def x13 (B:Nat->Int) (a:Int):Int:=B (0+(w64 (a+13)).toNat)
def x14 (B:Nat->Int) (a:Int):Int:=B (0+(w64 (a+14)).toNat)
def xN (B:Nat->Int) (a:Int):Int:=w64 (((BitVec.ofInt IntKind.i64.bits (w64 (w64 (x13 B a)*(2:Int)^min 8 IntKind.i64.bits)) ||| BitVec.ofInt IntKind.i64.bits (w64 (x14 B a))).toNat:Nat):Int)
theorem xo_e0 {own:Bool}{m:Nat}{B:Nat->Int}{n:Nat}{a i:Int}:(rT xoG nol 1 52 (bodyOf Try.f152 0) xoK xoK (xo0 own m B n a i)).go (dN 4 7) =
 some ([true,decide ((1:Int)<((n:Nat):Int)),decide (1<m),!decide (i<w64 (B 1))],Ex.exit 0,{ sl:=slots 98 [(0,AV.c (AC.sl 0 0 n)),(2,AV.c (AC.v (Value.slice none 0 0))),(3,Bo false),(4,AV.c (AC.v (Value.slice none 0 0))),(5,I64 a),(6,I64 i)],h:=[some { t:=5,own:=own,c:=Cont.row 1 m fun j=>[Value.int IntKind.u8 (B j)] }] }):=by kernel_rfl
theorem xo_a0 {own:Bool}{m:Nat}{B:Nat->Int}{n:Nat}{a i:Int}:(rT xoG nol 1 52 (bodyOf Try.f152 0) xoK xoK (xo0 own m B n a i)).go [] =
 some ([true,decide ((1:Int)<((n:Nat):Int)),decide (1<m),decide (i<w64 (B 1)),decide (w64 (a+(15:Int))>((n:Nat):Int))],Ex.ret,{ sl:=slots 98 [(0,AV.c (AC.sl 0 0 n)),(2,AV.c (AC.v (Value.slice none 0 0))),(3,Bo false),(4,AV.c (AC.v (Value.slice none 0 0))),(5,I64 a),(6,I64 i)],h:=[some { t:=5,own:=own,c:=Cont.row 1 m fun j=>[Value.int IntKind.u8 (B j)] }] }):=by kernel_rfl
theorem xo_go0 {own:Bool}{m:Nat}{B:Nat->Int}{n:Nat}{a i:Int}:(rT xoG nol 1 52 (bodyOf Try.f152 0) xoK xoK (xo0 own m B n a i)).go (dN 16 32751) =
 some ([true,decide ((1:Int)<((n:Nat):Int)),decide (1<m),decide (i<w64 (B 1)),!decide (w64 (a+(15:Int))>((n:Nat):Int)),yes (n<=m/\n<2^50/\((0:Int)<=w64 (a+(1:Int))/\w64 (a+(1:Int))<(2:Int)^50)/\((fun j=>ub (B j))=fun j=>ub (B j))/\rng fun j=>B j),yes (n<=m/\n<2^50/\((0:Int)<=w64 (a+(5:Int))/\w64 (a+(5:Int))<(2:Int)^50)/\((fun j=>ub (B j))=fun j=>ub (B j))/\rng fun j=>B j),yes (n<=m/\n<2^50/\((0:Int)<=w64 (a+(9:Int))/\w64 (a+(9:Int))<(2:Int)^50)/\((fun j=>ub (B j))=fun j=>ub (B j))/\rng fun j=>B j),decide ((0:Int)<=w64 (a+(13:Int))),decide (w64 (a+(13:Int))<((n:Nat):Int)),decide (0+(w64 (a+(13:Int))).toNat<m),true,decide ((0:Int)<=w64 (a+(14:Int))),decide (w64 (a+(14:Int))<((n:Nat):Int)),decide (0+(w64 (a+(14:Int))).toNat<m),!decide (w64 (w64 (a+(15:Int))+xN B a)>((n:Nat):Int)),decide ((0:Int)<=a),decide (a<((n:Nat):Int)),decide (0+a.toNat<m),decInt (w64 (a+(15:Int))) (w64 (w64 (a+(15:Int))+xN B a)) n,decide (0+(w64 (a+(15:Int))).toNat+((w64 (w64 (a+(15:Int))+xN B a)).toNat-(w64 (a+(15:Int))).toNat)<=m),allB ((w64 (w64 (a+(15:Int))+xN B a)).toNat-(w64 (a+(15:Int))).toNat) fun k=>isU8 (ub (ud (ub (ud (ub (ud (ub (B (0+(w64 (a+(15:Int))).toNat+k))))))))),true,true,true],Ex.normal,{ sl:=slots 98 [(0,AV.c (AC.sl 0 0 n)),(2,AV.c (AC.v (Value.slice none 0 0))),(3,Bo false),(4,AV.c (AC.sl 1 0 1)),(5,I64 (w64 (w64 (a+(15:Int))+xN B a))),(6,I64 (w64 (i+(1:Int))))],h:=[some { t:=5,own:=own,c:=Cont.row 1 m fun j=>[Value.int IntKind.u8 (B j)] },some { t:=121,own:=true,c:=Cont.row 5 1 fun k=>[Value.int IntKind.i64 (bif decide (k=0) then w64 (ud (ub (ud (ub (ud (ub (B (0+a.toNat)))))))) else (0:Int)),Value.int IntKind.i64 (bif decide (k=0) then (nAt (lst (fun j=>B j) 0 n) (w64 (a+(1:Int))).toNat).fst else (0:Int)),Value.int IntKind.i64 (bif decide (k=0) then (nAt (lst (fun j=>B j) 0 n) (w64 (a+(5:Int))).toNat).fst else (0:Int)),Value.int IntKind.i64 (bif decide (k=0) then (nAt (lst (fun j=>B j) 0 n) (w64 (a+(9:Int))).toNat).fst else (0:Int)),Value.string (bif decide (k=0) then bytesOf (fun j=>ub (B j)) (0+(w64 (a+(15:Int))).toNat) ((w64 (w64 (a+(15:Int))+xN B a)).toNat-(w64 (a+(15:Int))).toNat) else (⟨#[]⟩:ByteArray))] }] }):=by kernel_rfl
theorem xo_b0 {own:Bool}{m:Nat}{B:Nat->Int}{n:Nat}{a i:Int}:(rT xoG nol 1 52 (bodyOf Try.f152 0) xoK xoK (xo0 own m B n a i)).go (dN 5 15) =
 some ([true,decide ((1:Int)<((n:Nat):Int)),decide (1<m),decide (i<w64 (B 1)),!decide (w64 (a+(15:Int))>((n:Nat):Int)),yes (n<=m/\n<2^50/\((0:Int)<=w64 (a+(1:Int))/\w64 (a+(1:Int))<(2:Int)^50)/\((fun j=>ub (B j))=fun j=>ub (B j))/\rng fun j=>B j),yes (n<=m/\n<2^50/\((0:Int)<=w64 (a+(5:Int))/\w64 (a+(5:Int))<(2:Int)^50)/\((fun j=>ub (B j))=fun j=>ub (B j))/\rng fun j=>B j),yes (n<=m/\n<2^50/\((0:Int)<=w64 (a+(9:Int))/\w64 (a+(9:Int))<(2:Int)^50)/\((fun j=>ub (B j))=fun j=>ub (B j))/\rng fun j=>B j),decide ((0:Int)<=w64 (a+(13:Int))),decide (w64 (a+(13:Int))<((n:Nat):Int)),decide (0+(w64 (a+(13:Int))).toNat<m),true,decide ((0:Int)<=w64 (a+(14:Int))),decide (w64 (a+(14:Int))<((n:Nat):Int)),decide (0+(w64 (a+(14:Int))).toNat<m),decide (w64 (w64 (a+(15:Int))+xN B a)>((n:Nat):Int))],Ex.ret,{ sl:=slots 98 [(0,AV.c (AC.sl 0 0 n)),(2,AV.c (AC.v (Value.slice none 0 0))),(3,Bo false),(4,AV.c (AC.v (Value.slice none 0 0))),(5,I64 a),(6,I64 i)],h:=[some { t:=5,own:=own,c:=Cont.row 1 m fun j=>[Value.int IntKind.u8 (B j)] }] }):=by kernel_rfl
theorem xo_e1 {own:Bool}{m:Nat}{B:Nat->Int}{n:Nat}{a i:Int}{na:Nat}{P:Nat->Opp}:(rT xoG nol 1 52 (bodyOf Try.f152 0) xoK xoK (xo1 own m B n a i na P)).go (dN 4 7) =
 some ([true,decide ((1:Int)<((n:Nat):Int)),decide (1<m),!decide (i<w64 (B 1))],Ex.exit 0,{ sl:=slots 98 [(0,AV.c (AC.sl 0 0 n)),(2,AV.c (AC.v (Value.slice none 0 0))),(3,Bo false),(4,AV.c (AC.sl 1 0 na)),(5,I64 a),(6,I64 i)],h:=[some { t:=5,own:=own,c:=Cont.row 1 m fun j=>[Value.int IntKind.u8 (B j)] },some { t:=121,own:=true,c:=Cont.row 5 na fun j=>[Value.int IntKind.i64 (P j).k,Value.int IntKind.i64 (P j).i,Value.int IntKind.i64 (P j).a,Value.int IntKind.i64 (P j).b,Value.string (P j).s] }] }):=by kernel_rfl
theorem xo_a1 {own:Bool}{m:Nat}{B:Nat->Int}{n:Nat}{a i:Int}{na:Nat}{P:Nat->Opp}:(rT xoG nol 1 52 (bodyOf Try.f152 0) xoK xoK (xo1 own m B n a i na P)).go [] =
 some ([true,decide ((1:Int)<((n:Nat):Int)),decide (1<m),decide (i<w64 (B 1)),decide (w64 (a+(15:Int))>((n:Nat):Int))],Ex.ret,{ sl:=slots 98 [(0,AV.c (AC.sl 0 0 n)),(2,AV.c (AC.v (Value.slice none 0 0))),(3,Bo false),(4,AV.c (AC.sl 1 0 na)),(5,I64 a),(6,I64 i)],h:=[some { t:=5,own:=own,c:=Cont.row 1 m fun j=>[Value.int IntKind.u8 (B j)] },some { t:=121,own:=true,c:=Cont.row 5 na fun j=>[Value.int IntKind.i64 (P j).k,Value.int IntKind.i64 (P j).i,Value.int IntKind.i64 (P j).a,Value.int IntKind.i64 (P j).b,Value.string (P j).s] }] }):=by kernel_rfl
theorem xo_b1 {own:Bool}{m:Nat}{B:Nat->Int}{n:Nat}{a i:Int}{na:Nat}{P:Nat->Opp}:(rT xoG nol 1 52 (bodyOf Try.f152 0) xoK xoK (xo1 own m B n a i na P)).go (dN 5 15) =
 some ([true,decide ((1:Int)<((n:Nat):Int)),decide (1<m),decide (i<w64 (B 1)),!decide (w64 (a+(15:Int))>((n:Nat):Int)),yes (n<=m/\n<2^50/\((0:Int)<=w64 (a+(1:Int))/\w64 (a+(1:Int))<(2:Int)^50)/\((fun j=>ub (B j))=fun j=>ub (B j))/\rng fun j=>B j),yes (n<=m/\n<2^50/\((0:Int)<=w64 (a+(5:Int))/\w64 (a+(5:Int))<(2:Int)^50)/\((fun j=>ub (B j))=fun j=>ub (B j))/\rng fun j=>B j),yes (n<=m/\n<2^50/\((0:Int)<=w64 (a+(9:Int))/\w64 (a+(9:Int))<(2:Int)^50)/\((fun j=>ub (B j))=fun j=>ub (B j))/\rng fun j=>B j),decide ((0:Int)<=w64 (a+(13:Int))),decide (w64 (a+(13:Int))<((n:Nat):Int)),decide (0+(w64 (a+(13:Int))).toNat<m),true,decide ((0:Int)<=w64 (a+(14:Int))),decide (w64 (a+(14:Int))<((n:Nat):Int)),decide (0+(w64 (a+(14:Int))).toNat<m),decide (w64 (w64 (a+(15:Int))+xN B a)>((n:Nat):Int))],Ex.ret,{ sl:=slots 98 [(0,AV.c (AC.sl 0 0 n)),(2,AV.c (AC.v (Value.slice none 0 0))),(3,Bo false),(4,AV.c (AC.sl 1 0 na)),(5,I64 a),(6,I64 i)],h:=[some { t:=5,own:=own,c:=Cont.row 1 m fun j=>[Value.int IntKind.u8 (B j)] },some { t:=121,own:=true,c:=Cont.row 5 na fun j=>[Value.int IntKind.i64 (P j).k,Value.int IntKind.i64 (P j).i,Value.int IntKind.i64 (P j).a,Value.int IntKind.i64 (P j).b,Value.string (P j).s] }] }):=by kernel_rfl
theorem xo_go1 {own:Bool}{m:Nat}{B:Nat->Int}{n:Nat}{a i:Int}{na:Nat}{P:Nat->Opp}:(rT xoG nol 1 52 (bodyOf Try.f152 0) xoK xoK (xo1 own m B n a i na P)).go (dN 16 32751) =
 some ([true,decide ((1:Int)<((n:Nat):Int)),decide (1<m),decide (i<w64 (B 1)),!decide (w64 (a+(15:Int))>((n:Nat):Int)),yes (n<=m/\n<2^50/\((0:Int)<=w64 (a+(1:Int))/\w64 (a+(1:Int))<(2:Int)^50)/\((fun j=>ub (B j))=fun j=>ub (B j))/\rng fun j=>B j),yes (n<=m/\n<2^50/\((0:Int)<=w64 (a+(5:Int))/\w64 (a+(5:Int))<(2:Int)^50)/\((fun j=>ub (B j))=fun j=>ub (B j))/\rng fun j=>B j),yes (n<=m/\n<2^50/\((0:Int)<=w64 (a+(9:Int))/\w64 (a+(9:Int))<(2:Int)^50)/\((fun j=>ub (B j))=fun j=>ub (B j))/\rng fun j=>B j),decide ((0:Int)<=w64 (a+(13:Int))),decide (w64 (a+(13:Int))<((n:Nat):Int)),decide (0+(w64 (a+(13:Int))).toNat<m),true,decide ((0:Int)<=w64 (a+(14:Int))),decide (w64 (a+(14:Int))<((n:Nat):Int)),decide (0+(w64 (a+(14:Int))).toNat<m),!decide (w64 (w64 (a+(15:Int))+xN B a)>((n:Nat):Int)),decide ((0:Int)<=a),decide (a<((n:Nat):Int)),decide (0+a.toNat<m),decInt (w64 (a+(15:Int))) (w64 (w64 (a+(15:Int))+xN B a)) n,decide (0+(w64 (a+(15:Int))).toNat+((w64 (w64 (a+(15:Int))+xN B a)).toNat-(w64 (a+(15:Int))).toNat)<=m),allB ((w64 (w64 (a+(15:Int))+xN B a)).toNat-(w64 (a+(15:Int))).toNat) fun k=>isU8 (ub (ud (ub (ud (ub (ud (ub (B (0+(w64 (a+(15:Int))).toNat+k))))))))),decide (na=na),true,decide ((na+1)*48<=maxCells)],Ex.normal,{ sl:=slots 98 [(0,AV.c (AC.sl 0 0 n)),(2,AV.c (AC.v (Value.slice none 0 0))),(3,Bo false),(4,AV.c (AC.sl 1 0 (na+1))),(5,I64 (w64 (w64 (a+(15:Int))+xN B a))),(6,I64 (w64 (i+(1:Int))))],h:=[some { t:=5,own:=own,c:=Cont.row 1 m fun j=>[Value.int IntKind.u8 (B j)] },some { t:=121,own:=true,c:=Cont.row 5 (na+1) fun k=>[Value.int IntKind.i64 (bif decide (k=na) then w64 (ud (ub (ud (ub (ud (ub (B (0+a.toNat)))))))) else (P k).k),Value.int IntKind.i64 (bif decide (k=na) then (nAt (lst (fun j=>B j) 0 n) (w64 (a+(1:Int))).toNat).fst else (P k).i),Value.int IntKind.i64 (bif decide (k=na) then (nAt (lst (fun j=>B j) 0 n) (w64 (a+(5:Int))).toNat).fst else (P k).a),Value.int IntKind.i64 (bif decide (k=na) then (nAt (lst (fun j=>B j) 0 n) (w64 (a+(9:Int))).toNat).fst else (P k).b),Value.string (bif decide (k=na) then bytesOf (fun j=>ub (B j)) (0+(w64 (a+(15:Int))).toNat) ((w64 (w64 (a+(15:Int))+xN B a)).toNat-(w64 (a+(15:Int))).toNat) else (P k).s)] }] }):=by kernel_rfl
theorem xo_s {own:Bool}{m:Nat}{B:Nat->Int}{n:Nat}:(lfun xoG nol 60 Try.f152 [.c (.sl 0 0 n)] [rowU own m B]).go [] =
 some ([decide (((n:Nat):Int)<(2:Int))],AV.tup [AV.c (AC.v (Value.slice none 0 0)),Bo false],[some { t:=5,own:=own,c:=Cont.row 1 m fun j=>[Value.int IntKind.u8 (B j)] }]):=by kernel_rfl
theorem xo_w00 {own:Bool}{m:Nat}{B:Nat->Int}{n:Nat}{a i:Int}:(lfun xoG (tell (bodyOf Try.f152 0) (xo0 own m B n 2 0) (.exit 0,xo0 own m B n a i)) 60 Try.f152 [.c (.sl 0 0 n)] [rowU own m B]).go [false] =
 some ([!decide (((n:Nat):Int)<(2:Int)),yes (wasS (bodyOf Try.f152 0) (xo0 own m B n 2 0))],AV.tup [AV.c (AC.v (Value.slice none 0 0)),Bo true],[some { t:=5,own:=own,c:=Cont.row 1 m fun j=>[Value.int IntKind.u8 (B j)] }]):=by kernel_rfl
theorem xo_w01 {own:Bool}{m:Nat}{B:Nat->Int}{n:Nat}{a i:Int}{na:Nat}{P:Nat->Opp}:(lfun xoG (tell (bodyOf Try.f152 0) (xo0 own m B n 2 0) (.exit 0,xo1 own m B n a i na P)) 60 Try.f152 [.c (.sl 0 0 n)] [rowU own m B]).go [false] =
 some ([!decide (((n:Nat):Int)<(2:Int)),yes (wasS (bodyOf Try.f152 0) (xo0 own m B n 2 0))],AV.tup [AV.c (AC.sl 1 0 na),Bo true],[some { t:=5,own:=own,c:=Cont.row 1 m fun j=>[Value.int IntKind.u8 (B j)] },some { t:=121,own:=true,c:=Cont.row 5 na fun j=>[Value.int IntKind.i64 (P j).k,Value.int IntKind.i64 (P j).i,Value.int IntKind.i64 (P j).a,Value.int IntKind.i64 (P j).b,Value.string (P j).s] }]):=by kernel_rfl
theorem xo_w10 {own:Bool}{m:Nat}{B:Nat->Int}{n:Nat}{a i:Int}:(lfun xoG (tell (bodyOf Try.f152 0) (xo0 own m B n 2 0) (.ret,xo0 own m B n a i)) 60 Try.f152 [.c (.sl 0 0 n)] [rowU own m B]).go [false] =
 some ([!decide (((n:Nat):Int)<(2:Int)),yes (wasS (bodyOf Try.f152 0) (xo0 own m B n 2 0))],AV.tup [AV.c (AC.v (Value.slice none 0 0)),Bo false],[some { t:=5,own:=own,c:=Cont.row 1 m fun j=>[Value.int IntKind.u8 (B j)] }]):=by kernel_rfl
theorem xo_w11 {own:Bool}{m:Nat}{B:Nat->Int}{n:Nat}{a i:Int}{na:Nat}{P:Nat->Opp}:(lfun xoG (tell (bodyOf Try.f152 0) (xo0 own m B n 2 0) (.ret,xo1 own m B n a i na P)) 60 Try.f152 [.c (.sl 0 0 n)] [rowU own m B]).go [false] =
 some ([!decide (((n:Nat):Int)<(2:Int)),yes (wasS (bodyOf Try.f152 0) (xo0 own m B n 2 0))],AV.tup [AV.c (AC.v (Value.slice none 0 0)),Bo false],[some { t:=5,own:=own,c:=Cont.row 1 m fun j=>[Value.int IntKind.u8 (B j)] }]):=by kernel_rfl
end
section
open Go Go.RowKit
theorem wh_w {bad:Bool}{k:Nat}{B:Nat->Int}{n:Int}:(lfun haG nol 60 Try.f148 [.c (.ptr 0 0 0),I64 n] [wrB bad k,rowU true k B]).go [] =
 some
  ([yes (k+4<=maxCells/\k=k/\(fun j=>ub (B j))=fun j=>ub (ud (ub (B j))))],AV.tup [],
   [some
     {t:=168,own:=true,
      c:=
       Cont.one
        [AC.sl 2 0 (k+1+1+1+1),
         AC.v (Value.bool (bad||!fits (mnI (2147483647:Int) (mxI (-2147483648:Int) n))))] },
    none,
    some
     {t:=5,own:=true,
      c:=
       Cont.row 1 (k+1+1+1+1) fun j=>
        [Value.int IntKind.u8
          (fourB (fun j=>ud (ub (B j))) k (mnI (2147483647:Int) (mxI (-2147483648:Int) n)) j)] }]):=by kernel_rfl
end
section
open Go Go.RowKit
theorem held_eq (n:Int):mnI 2147483647 (mxI (-2147483648) n)=held4 n:=by
 rw [mxI_eq,mnI_eq];unfold held4;omega
noncomputable def wheF:Spec:=fun args h=>match args,h with
 | [.c (.ptr 0 0 0),.c (.v (.int .i64 n))],[some ⟨168,true,.one [.sl 1 0 k,.v (.bool bad)]⟩,some ⟨5,true,.row 1 k' f⟩]=>
  .need (yes (k+4<=maxCells/\k'=k/\f=fun j=>ub (ud (f j)))) (.ret (.tup [],[some ⟨168,true,.one [.sl 2 0 (k+1+1+1+1),.v (.bool bad)]⟩,none,rowU true (k+1+1+1+1) (fourB (fun j=>ud (f j)) k (held4 n))]))
 | _,_=>.fail
theorem wheF_ok:SpecOk Try.prog 148 wheF:=by
 refine knownS KWO_ok Try.func148 fun args h r he=>?_
 unfold wheF at he
 split at he
 ·rename_i n k bad k' f
  obtain ⟨⟨h1,h2,h3⟩,he'⟩:=Tr.eval_ask.1 he
  subst h2
  cases he'
  have e1:some ⟨5,true,.row 1 k' f⟩=rowU true k' fun j=>ud (f j):=by rw [rowU,<-h3]
  rw [e1]
  refine ⟨(fun _=>[]),[],60,nol,noLoopsS,(Tr.go_eval (wh_w (bad:=bad) (k:=k') (B:=fun j=>ud (f j)) (n:=n)) ⟨yes_of ⟨h1,rfl,rfl⟩,trivial⟩).trans ?_⟩
  rw [held_eq,fits_held]
  cases bad <;> rfl
 ·cases he
end
section
open Go Go.RowKit
noncomputable def KAN:Known:=[(140,wbF),(142,haF),(143,wnF),(148,wheF),(149,rrF)]
theorem KAN_ok:KnownOk KAN:=consK wbF_ok (by kernel_rfl) (consK haF_ok (by kernel_rfl) (consK wnF_ok (by kernel_rfl) (consK wheF_ok (by kernel_rfl) (consK rrF_ok (by kernel_rfl) nilK))))
noncomputable def anG:Ctx2:=GK KAN (fun k=>if k=13 then [(1,none),(4,none),(15,none),(48,none),(49,none),(50,none)] else []) 6
noncomputable def mc0 (a:Rd):Bool:=yes (5<=maxCells/\1=1/\(fun j=>ub (appB (fun x=>0) 0 (IntKind.u8.wrap a.k) j))=fun j=>ub (ud (ub (appB (fun x=>0) 0 (IntKind.u8.wrap a.k) j))))
noncomputable def mc1 (a:Rd):Bool:=yes (5<=5/\((fun j=>ub (fourB (fun j=>ud (ub (appB (fun x=>0) 0 (IntKind.u8.wrap a.k) j))) 1 a.n j))=fun j=>ub (ud (ub (fourB (fun j=>ud (ub (appB (fun x=>0) 0 (IntKind.u8.wrap a.k) j))) 1 a.n j))))/\rng fun j=>ud (ub (fourB (fun j=>ud (ub (appB (fun x=>0) 0 (IntKind.u8.wrap a.k) j))) 1 a.n j)))
noncomputable def mc2 (a:Rd):Bool:=((rrR (fun j=>ud (ub (fourB (fun j=>ud (ub (appB (fun x=>0) 0 (IntKind.u8.wrap a.k) j))) 1 a.n j))) 0 5).fst.k==a.k&&((rrR (fun j=>ud (ub (fourB (fun j=>ud (ub (appB (fun x=>0) 0 (IntKind.u8.wrap a.k) j))) 1 a.n j))) 0 5).fst.e==a.e&&((rrR (fun j=>ud (ub (fourB (fun j=>ud (ub (appB (fun x=>0) 0 (IntKind.u8.wrap a.k) j))) 1 a.n j))) 0 5).fst.a==a.a&&((rrR (fun j=>ud (ub (fourB (fun j=>ud (ub (appB (fun x=>0) 0 (IntKind.u8.wrap a.k) j))) 1 a.n j))) 0 5).fst.n==a.n&&((rrR (fun j=>ud (ub (fourB (fun j=>ud (ub (appB (fun x=>0) 0 (IntKind.u8.wrap a.k) j))) 1 a.n j))) 0 5).fst.p==a.p&&((rrR (fun j=>ud (ub (fourB (fun j=>ud (ub (appB (fun x=>0) 0 (IntKind.u8.wrap a.k) j))) 1 a.n j))) 0 5).fst.t==a.t&&((rrR (fun j=>ud (ub (fourB (fun j=>ud (ub (appB (fun x=>0) 0 (IntKind.u8.wrap a.k) j))) 1 a.n j))) 0 5).fst.x==a.x&&((rrR (fun j=>ud (ub (fourB (fun j=>ud (ub (appB (fun x=>0) 0 (IntKind.u8.wrap a.k) j))) 1 a.n j))) 0 5).fst.y==a.y&&((rrR (fun j=>ud (ub (fourB (fun j=>ud (ub (appB (fun x=>0) 0 (IntKind.u8.wrap a.k) j))) 1 a.n j))) 0 5).fst.w==a.w&&((rrR (fun j=>ud (ub (fourB (fun j=>ud (ub (appB (fun x=>0) 0 (IntKind.u8.wrap a.k) j))) 1 a.n j))) 0 5).fst.h==a.h&&true))))))))))
noncomputable def mc3 (a:Rd):Bool:=yes (2<=maxCells/\1=1/\(fun j=>ub (appB (fun x=>0) 0 (IntKind.u8.wrap a.k) j))=fun j=>ub (ud (ub (appB (fun x=>0) 0 (IntKind.u8.wrap a.k) j))))
noncomputable def mc4 (a:Rd):Bool:=yes (6<=maxCells/\2=2/\(fun j=>ub (appB (fun j=>ud (ub (appB (fun x=>0) 0 (IntKind.u8.wrap a.k) j))) 1 (IntKind.u8.wrap a.e) j))=fun j=>ub (ud (ub (appB (fun j=>ud (ub (appB (fun x=>0) 0 (IntKind.u8.wrap a.k) j))) 1 (IntKind.u8.wrap a.e) j))))
noncomputable def mc5 (a:Rd):Bool:=yes (6<=6/\((fun j=>ub (fourB (fun j=>ud (ub (appB (fun j=>ud (ub (appB (fun x=>0) 0 (IntKind.u8.wrap a.k) j))) 1 (IntKind.u8.wrap a.e) j))) 2 a.a j))=fun j=>ub (ud (ub (fourB (fun j=>ud (ub (appB (fun j=>ud (ub (appB (fun x=>0) 0 (IntKind.u8.wrap a.k) j))) 1 (IntKind.u8.wrap a.e) j))) 2 a.a j))))/\rng fun j=>ud (ub (fourB (fun j=>ud (ub (appB (fun j=>ud (ub (appB (fun x=>0) 0 (IntKind.u8.wrap a.k) j))) 1 (IntKind.u8.wrap a.e) j))) 2 a.a j)))
noncomputable def mc6 (a:Rd):Bool:=yes (9<=maxCells/\1=1/\(fun j=>ub (appB (fun x=>0) 0 (IntKind.u8.wrap a.k) j))=fun j=>ub (ud (ub (appB (fun x=>0) 0 (IntKind.u8.wrap a.k) j))))
noncomputable def mc7 (a:Rd):Bool:=yes (9<=9/\((fun j=>ub (fourB (fourB (fun j=>ud (ub (appB (fun x=>0) 0 (IntKind.u8.wrap a.k) j))) 1 a.p) 5 a.t j))=fun j=>ub (ud (ub (fourB (fourB (fun j=>ud (ub (appB (fun x=>0) 0 (IntKind.u8.wrap a.k) j))) 1 a.p) 5 a.t j))))/\rng fun j=>ud (ub (fourB (fourB (fun j=>ud (ub (appB (fun x=>0) 0 (IntKind.u8.wrap a.k) j))) 1 a.p) 5 a.t j)))
theorem an_1t {a:Rd}:(afun anG 60 Try.f105 [rV a] []).go (dN 7 3)=some ([a.k==(1:Int),yes (1<=1/\((fun j=>ub (appB (fun x=>0) 0 (IntKind.u8.wrap a.k) j))=fun j=>ub (ud (ub (appB (fun x=>0) 0 (IntKind.u8.wrap a.k) j))))/\rng fun j=>ud (ub (appB (fun x=>0) 0 (IntKind.u8.wrap a.k) j))),!a.k==(4:Int),!(false||!byOk a.k),true,true,true,!((rrR (fun j=>ud (ub (appB (fun x=>0) 0 (IntKind.u8.wrap a.k) j))) 0 1).fst.k==a.k&&((rrR (fun j=>ud (ub (appB (fun x=>0) 0 (IntKind.u8.wrap a.k) j))) 0 1).fst.e==a.e&&((rrR (fun j=>ud (ub (appB (fun x=>0) 0 (IntKind.u8.wrap a.k) j))) 0 1).fst.a==a.a&&((rrR (fun j=>ud (ub (appB (fun x=>0) 0 (IntKind.u8.wrap a.k) j))) 0 1).fst.n==a.n&&((rrR (fun j=>ud (ub (appB (fun x=>0) 0 (IntKind.u8.wrap a.k) j))) 0 1).fst.p==a.p&&((rrR (fun j=>ud (ub (appB (fun x=>0) 0 (IntKind.u8.wrap a.k) j))) 0 1).fst.t==a.t&&((rrR (fun j=>ud (ub (appB (fun x=>0) 0 (IntKind.u8.wrap a.k) j))) 0 1).fst.x==a.x&&((rrR (fun j=>ud (ub (appB (fun x=>0) 0 (IntKind.u8.wrap a.k) j))) 0 1).fst.y==a.y&&((rrR (fun j=>ud (ub (appB (fun x=>0) 0 (IntKind.u8.wrap a.k) j))) 0 1).fst.w==a.w&&((rrR (fun j=>ud (ub (appB (fun x=>0) 0 (IntKind.u8.wrap a.k) j))) 0 1).fst.h==a.h&&true))))))))))],.tup [.c (.v (.slice none 0 0)),Bo false],[]):=by kernel_rfl
theorem an_1f {a:Rd}:(afun anG 60 Try.f105 [rV a] []).go (dN 8 3)=some ([a.k==(1:Int),yes (1<=1/\((fun j=>ub (appB (fun x=>0) 0 (IntKind.u8.wrap a.k) j))=fun j=>ub (ud (ub (appB (fun x=>0) 0 (IntKind.u8.wrap a.k) j))))/\rng fun j=>ud (ub (appB (fun x=>0) 0 (IntKind.u8.wrap a.k) j))),!a.k==(4:Int),!(false||!byOk a.k),true,true,true,!!((rrR (fun j=>ud (ub (appB (fun x=>0) 0 (IntKind.u8.wrap a.k) j))) 0 1).fst.k==a.k&&((rrR (fun j=>ud (ub (appB (fun x=>0) 0 (IntKind.u8.wrap a.k) j))) 0 1).fst.e==a.e&&((rrR (fun j=>ud (ub (appB (fun x=>0) 0 (IntKind.u8.wrap a.k) j))) 0 1).fst.a==a.a&&((rrR (fun j=>ud (ub (appB (fun x=>0) 0 (IntKind.u8.wrap a.k) j))) 0 1).fst.n==a.n&&((rrR (fun j=>ud (ub (appB (fun x=>0) 0 (IntKind.u8.wrap a.k) j))) 0 1).fst.p==a.p&&((rrR (fun j=>ud (ub (appB (fun x=>0) 0 (IntKind.u8.wrap a.k) j))) 0 1).fst.t==a.t&&((rrR (fun j=>ud (ub (appB (fun x=>0) 0 (IntKind.u8.wrap a.k) j))) 0 1).fst.x==a.x&&((rrR (fun j=>ud (ub (appB (fun x=>0) 0 (IntKind.u8.wrap a.k) j))) 0 1).fst.y==a.y&&((rrR (fun j=>ud (ub (appB (fun x=>0) 0 (IntKind.u8.wrap a.k) j))) 0 1).fst.w==a.w&&((rrR (fun j=>ud (ub (appB (fun x=>0) 0 (IntKind.u8.wrap a.k) j))) 0 1).fst.h==a.h&&true))))))))))],.tup [.c (.sl 0 0 1),Bo true],[some ⟨5,true,.row 1 1 fun j=>[.int .u8 (ud (ub (appB (fun x=>0) 0 (IntKind.u8.wrap a.k) j)))]⟩]):=by kernel_rfl
theorem an_2b {a:Rd}:(afun anG 60 Try.f105 [rV a] []).go (dN 6 30)=some ([!a.k==(1:Int),a.k==(2:Int),mc3 a,mc4 a,mc5 a,!a.k==(4:Int),false||!byOk a.k||!byOk a.e||!fits a.a,true,true,true,true],.tup [.c (.v (.slice none 0 0)),Bo false],[]):=by kernel_rfl
theorem an_2t {a:Rd}:(afun anG 60 Try.f105 [rV a] []).go (dN 10 30)=some ([!a.k==(1:Int),a.k==(2:Int),mc3 a,mc4 a,mc5 a,!a.k==(4:Int),!(false||!byOk a.k||!byOk a.e||!fits a.a),true,true,true,!((rrR (fun j=>ud (ub (fourB (fun j=>ud (ub (appB (fun j=>ud (ub (appB (fun x=>0) 0 (IntKind.u8.wrap a.k) j))) 1 (IntKind.u8.wrap a.e) j))) 2 a.a j))) 0 6).fst.k==a.k&&((rrR (fun j=>ud (ub (fourB (fun j=>ud (ub (appB (fun j=>ud (ub (appB (fun x=>0) 0 (IntKind.u8.wrap a.k) j))) 1 (IntKind.u8.wrap a.e) j))) 2 a.a j))) 0 6).fst.e==a.e&&((rrR (fun j=>ud (ub (fourB (fun j=>ud (ub (appB (fun j=>ud (ub (appB (fun x=>0) 0 (IntKind.u8.wrap a.k) j))) 1 (IntKind.u8.wrap a.e) j))) 2 a.a j))) 0 6).fst.a==a.a&&((rrR (fun j=>ud (ub (fourB (fun j=>ud (ub (appB (fun j=>ud (ub (appB (fun x=>0) 0 (IntKind.u8.wrap a.k) j))) 1 (IntKind.u8.wrap a.e) j))) 2 a.a j))) 0 6).fst.n==a.n&&((rrR (fun j=>ud (ub (fourB (fun j=>ud (ub (appB (fun j=>ud (ub (appB (fun x=>0) 0 (IntKind.u8.wrap a.k) j))) 1 (IntKind.u8.wrap a.e) j))) 2 a.a j))) 0 6).fst.p==a.p&&((rrR (fun j=>ud (ub (fourB (fun j=>ud (ub (appB (fun j=>ud (ub (appB (fun x=>0) 0 (IntKind.u8.wrap a.k) j))) 1 (IntKind.u8.wrap a.e) j))) 2 a.a j))) 0 6).fst.t==a.t&&((rrR (fun j=>ud (ub (fourB (fun j=>ud (ub (appB (fun j=>ud (ub (appB (fun x=>0) 0 (IntKind.u8.wrap a.k) j))) 1 (IntKind.u8.wrap a.e) j))) 2 a.a j))) 0 6).fst.x==a.x&&((rrR (fun j=>ud (ub (fourB (fun j=>ud (ub (appB (fun j=>ud (ub (appB (fun x=>0) 0 (IntKind.u8.wrap a.k) j))) 1 (IntKind.u8.wrap a.e) j))) 2 a.a j))) 0 6).fst.y==a.y&&((rrR (fun j=>ud (ub (fourB (fun j=>ud (ub (appB (fun j=>ud (ub (appB (fun x=>0) 0 (IntKind.u8.wrap a.k) j))) 1 (IntKind.u8.wrap a.e) j))) 2 a.a j))) 0 6).fst.w==a.w&&((rrR (fun j=>ud (ub (fourB (fun j=>ud (ub (appB (fun j=>ud (ub (appB (fun x=>0) 0 (IntKind.u8.wrap a.k) j))) 1 (IntKind.u8.wrap a.e) j))) 2 a.a j))) 0 6).fst.h==a.h&&true))))))))))],.tup [.c (.v (.slice none 0 0)),Bo false],[]):=by kernel_rfl
theorem an_2f {a:Rd}:(afun anG 60 Try.f105 [rV a] []).go (dN 11 30)=some ([!a.k==(1:Int),a.k==(2:Int),mc3 a,mc4 a,mc5 a,!a.k==(4:Int),!(false||!byOk a.k||!byOk a.e||!fits a.a),true,true,true,!!((rrR (fun j=>ud (ub (fourB (fun j=>ud (ub (appB (fun j=>ud (ub (appB (fun x=>0) 0 (IntKind.u8.wrap a.k) j))) 1 (IntKind.u8.wrap a.e) j))) 2 a.a j))) 0 6).fst.k==a.k&&((rrR (fun j=>ud (ub (fourB (fun j=>ud (ub (appB (fun j=>ud (ub (appB (fun x=>0) 0 (IntKind.u8.wrap a.k) j))) 1 (IntKind.u8.wrap a.e) j))) 2 a.a j))) 0 6).fst.e==a.e&&((rrR (fun j=>ud (ub (fourB (fun j=>ud (ub (appB (fun j=>ud (ub (appB (fun x=>0) 0 (IntKind.u8.wrap a.k) j))) 1 (IntKind.u8.wrap a.e) j))) 2 a.a j))) 0 6).fst.a==a.a&&((rrR (fun j=>ud (ub (fourB (fun j=>ud (ub (appB (fun j=>ud (ub (appB (fun x=>0) 0 (IntKind.u8.wrap a.k) j))) 1 (IntKind.u8.wrap a.e) j))) 2 a.a j))) 0 6).fst.n==a.n&&((rrR (fun j=>ud (ub (fourB (fun j=>ud (ub (appB (fun j=>ud (ub (appB (fun x=>0) 0 (IntKind.u8.wrap a.k) j))) 1 (IntKind.u8.wrap a.e) j))) 2 a.a j))) 0 6).fst.p==a.p&&((rrR (fun j=>ud (ub (fourB (fun j=>ud (ub (appB (fun j=>ud (ub (appB (fun x=>0) 0 (IntKind.u8.wrap a.k) j))) 1 (IntKind.u8.wrap a.e) j))) 2 a.a j))) 0 6).fst.t==a.t&&((rrR (fun j=>ud (ub (fourB (fun j=>ud (ub (appB (fun j=>ud (ub (appB (fun x=>0) 0 (IntKind.u8.wrap a.k) j))) 1 (IntKind.u8.wrap a.e) j))) 2 a.a j))) 0 6).fst.x==a.x&&((rrR (fun j=>ud (ub (fourB (fun j=>ud (ub (appB (fun j=>ud (ub (appB (fun x=>0) 0 (IntKind.u8.wrap a.k) j))) 1 (IntKind.u8.wrap a.e) j))) 2 a.a j))) 0 6).fst.y==a.y&&((rrR (fun j=>ud (ub (fourB (fun j=>ud (ub (appB (fun j=>ud (ub (appB (fun x=>0) 0 (IntKind.u8.wrap a.k) j))) 1 (IntKind.u8.wrap a.e) j))) 2 a.a j))) 0 6).fst.w==a.w&&((rrR (fun j=>ud (ub (fourB (fun j=>ud (ub (appB (fun j=>ud (ub (appB (fun x=>0) 0 (IntKind.u8.wrap a.k) j))) 1 (IntKind.u8.wrap a.e) j))) 2 a.a j))) 0 6).fst.h==a.h&&true))))))))))],.tup [.c (.sl 0 0 6),Bo true],[some ⟨5,true,.row 1 6 fun j=>[.int .u8 (ud (ub (fourB (fun j=>ud (ub (appB (fun j=>ud (ub (appB (fun x=>0) 0 (IntKind.u8.wrap a.k) j))) 1 (IntKind.u8.wrap a.e) j))) 2 a.a j)))]⟩]):=by kernel_rfl
theorem an_3b {a:Rd}:(afun anG 60 Try.f105 [rV a] []).go (dN 6 28)=some ([!a.k==(1:Int),!a.k==(2:Int),a.k==(3:Int),mc6 a,mc7 a,!a.k==(4:Int),false||!byOk a.k||!fits a.p||!fits a.t,true,true,true,true],.tup [.c (.v (.slice none 0 0)),Bo false],[]):=by kernel_rfl
theorem an_3t {a:Rd}:(afun anG 60 Try.f105 [rV a] []).go (dN 10 28)=some ([!a.k==(1:Int),!a.k==(2:Int),a.k==(3:Int),mc6 a,mc7 a,!a.k==(4:Int),!(false||!byOk a.k||!fits a.p||!fits a.t),true,true,true,!((rrR (fun j=>ud (ub (fourB (fourB (fun j=>ud (ub (appB (fun x=>0) 0 (IntKind.u8.wrap a.k) j))) 1 a.p) 5 a.t j))) 0 9).fst.k==a.k&&((rrR (fun j=>ud (ub (fourB (fourB (fun j=>ud (ub (appB (fun x=>0) 0 (IntKind.u8.wrap a.k) j))) 1 a.p) 5 a.t j))) 0 9).fst.e==a.e&&((rrR (fun j=>ud (ub (fourB (fourB (fun j=>ud (ub (appB (fun x=>0) 0 (IntKind.u8.wrap a.k) j))) 1 a.p) 5 a.t j))) 0 9).fst.a==a.a&&((rrR (fun j=>ud (ub (fourB (fourB (fun j=>ud (ub (appB (fun x=>0) 0 (IntKind.u8.wrap a.k) j))) 1 a.p) 5 a.t j))) 0 9).fst.n==a.n&&((rrR (fun j=>ud (ub (fourB (fourB (fun j=>ud (ub (appB (fun x=>0) 0 (IntKind.u8.wrap a.k) j))) 1 a.p) 5 a.t j))) 0 9).fst.p==a.p&&((rrR (fun j=>ud (ub (fourB (fourB (fun j=>ud (ub (appB (fun x=>0) 0 (IntKind.u8.wrap a.k) j))) 1 a.p) 5 a.t j))) 0 9).fst.t==a.t&&((rrR (fun j=>ud (ub (fourB (fourB (fun j=>ud (ub (appB (fun x=>0) 0 (IntKind.u8.wrap a.k) j))) 1 a.p) 5 a.t j))) 0 9).fst.x==a.x&&((rrR (fun j=>ud (ub (fourB (fourB (fun j=>ud (ub (appB (fun x=>0) 0 (IntKind.u8.wrap a.k) j))) 1 a.p) 5 a.t j))) 0 9).fst.y==a.y&&((rrR (fun j=>ud (ub (fourB (fourB (fun j=>ud (ub (appB (fun x=>0) 0 (IntKind.u8.wrap a.k) j))) 1 a.p) 5 a.t j))) 0 9).fst.w==a.w&&((rrR (fun j=>ud (ub (fourB (fourB (fun j=>ud (ub (appB (fun x=>0) 0 (IntKind.u8.wrap a.k) j))) 1 a.p) 5 a.t j))) 0 9).fst.h==a.h&&true))))))))))],.tup [.c (.v (.slice none 0 0)),Bo false],[]):=by kernel_rfl
theorem an_3f {a:Rd}:(afun anG 60 Try.f105 [rV a] []).go (dN 11 28)=some ([!a.k==(1:Int),!a.k==(2:Int),a.k==(3:Int),mc6 a,mc7 a,!a.k==(4:Int),!(false||!byOk a.k||!fits a.p||!fits a.t),true,true,true,!!((rrR (fun j=>ud (ub (fourB (fourB (fun j=>ud (ub (appB (fun x=>0) 0 (IntKind.u8.wrap a.k) j))) 1 a.p) 5 a.t j))) 0 9).fst.k==a.k&&((rrR (fun j=>ud (ub (fourB (fourB (fun j=>ud (ub (appB (fun x=>0) 0 (IntKind.u8.wrap a.k) j))) 1 a.p) 5 a.t j))) 0 9).fst.e==a.e&&((rrR (fun j=>ud (ub (fourB (fourB (fun j=>ud (ub (appB (fun x=>0) 0 (IntKind.u8.wrap a.k) j))) 1 a.p) 5 a.t j))) 0 9).fst.a==a.a&&((rrR (fun j=>ud (ub (fourB (fourB (fun j=>ud (ub (appB (fun x=>0) 0 (IntKind.u8.wrap a.k) j))) 1 a.p) 5 a.t j))) 0 9).fst.n==a.n&&((rrR (fun j=>ud (ub (fourB (fourB (fun j=>ud (ub (appB (fun x=>0) 0 (IntKind.u8.wrap a.k) j))) 1 a.p) 5 a.t j))) 0 9).fst.p==a.p&&((rrR (fun j=>ud (ub (fourB (fourB (fun j=>ud (ub (appB (fun x=>0) 0 (IntKind.u8.wrap a.k) j))) 1 a.p) 5 a.t j))) 0 9).fst.t==a.t&&((rrR (fun j=>ud (ub (fourB (fourB (fun j=>ud (ub (appB (fun x=>0) 0 (IntKind.u8.wrap a.k) j))) 1 a.p) 5 a.t j))) 0 9).fst.x==a.x&&((rrR (fun j=>ud (ub (fourB (fourB (fun j=>ud (ub (appB (fun x=>0) 0 (IntKind.u8.wrap a.k) j))) 1 a.p) 5 a.t j))) 0 9).fst.y==a.y&&((rrR (fun j=>ud (ub (fourB (fourB (fun j=>ud (ub (appB (fun x=>0) 0 (IntKind.u8.wrap a.k) j))) 1 a.p) 5 a.t j))) 0 9).fst.w==a.w&&((rrR (fun j=>ud (ub (fourB (fourB (fun j=>ud (ub (appB (fun x=>0) 0 (IntKind.u8.wrap a.k) j))) 1 a.p) 5 a.t j))) 0 9).fst.h==a.h&&true))))))))))],.tup [.c (.sl 0 0 9),Bo true],[some ⟨5,true,.row 1 9 fun j=>[.int .u8 (ud (ub (fourB (fourB (fun j=>ud (ub (appB (fun x=>0) 0 (IntKind.u8.wrap a.k) j))) 1 a.p) 5 a.t j)))]⟩]):=by kernel_rfl
theorem an_4t {a:Rd}:(afun anG 60 Try.f105 [rV a] []).go (dN 31 117440504)=some ([!a.k==(1:Int),!a.k==(2:Int),!a.k==(3:Int),a.k==(4:Int),true,true,true,true,mc0 a,true,true,true,true,yes (9<=maxCells/\5=5/\(fun j=>ub (fourB (fun j=>ud (ub (appB (fun x=>0) 0 (IntKind.u8.wrap a.k) j))) 1 (held4 ([a.x,a.y,a.w,a.h].getD 0 (0:Int))) j))=fun j=>ub (ud (ub (fourB (fun j=>ud (ub (appB (fun x=>0) 0 (IntKind.u8.wrap a.k) j))) 1 (held4 ([a.x,a.y,a.w,a.h].getD 0 (0:Int))) j)))),true,true,true,true,yes (13<=maxCells/\9=9/\(fun j=>ub (fourB (fun j=>ud (ub (fourB (fun j=>ud (ub (appB (fun x=>0) 0 (IntKind.u8.wrap a.k) j))) 1 (held4 ([a.x,a.y,a.w,a.h].getD 0 (0:Int))) j))) 5 (held4 ([a.x,a.y,a.w,a.h].getD 1 (0:Int))) j))=fun j=>ub (ud (ub (fourB (fun j=>ud (ub (fourB (fun j=>ud (ub (appB (fun x=>0) 0 (IntKind.u8.wrap a.k) j))) 1 (held4 ([a.x,a.y,a.w,a.h].getD 0 (0:Int))) j))) 5 (held4 ([a.x,a.y,a.w,a.h].getD 1 (0:Int))) j)))),true,true,true,true,yes (17<=maxCells/\13=13/\(fun j=>ub (fourB (fun j=>ud (ub (fourB (fun j=>ud (ub (fourB (fun j=>ud (ub (appB (fun x=>0) 0 (IntKind.u8.wrap a.k) j))) 1 (held4 ([a.x,a.y,a.w,a.h].getD 0 (0:Int))) j))) 5 (held4 ([a.x,a.y,a.w,a.h].getD 1 (0:Int))) j))) 9 (held4 ([a.x,a.y,a.w,a.h].getD 2 (0:Int))) j))=fun j=>ub (ud (ub (fourB (fun j=>ud (ub (fourB (fun j=>ud (ub (fourB (fun j=>ud (ub (appB (fun x=>0) 0 (IntKind.u8.wrap a.k) j))) 1 (held4 ([a.x,a.y,a.w,a.h].getD 0 (0:Int))) j))) 5 (held4 ([a.x,a.y,a.w,a.h].getD 1 (0:Int))) j))) 9 (held4 ([a.x,a.y,a.w,a.h].getD 2 (0:Int))) j)))),true,yes (17<=17/\((fun j=>ub (fourB (fun j=>ud (ub (fourB (fun j=>ud (ub (fourB (fun j=>ud (ub (fourB (fun j=>ud (ub (appB (fun x=>0) 0 (IntKind.u8.wrap a.k) j))) 1 (held4 ([a.x,a.y,a.w,a.h].getD 0 (0:Int))) j))) 5 (held4 ([a.x,a.y,a.w,a.h].getD 1 (0:Int))) j))) 9 (held4 ([a.x,a.y,a.w,a.h].getD 2 (0:Int))) j))) 13 (held4 ([a.x,a.y,a.w,a.h].getD 3 (0:Int))) j))=fun j=>ub (ud (ub (fourB (fun j=>ud (ub (fourB (fun j=>ud (ub (fourB (fun j=>ud (ub (fourB (fun j=>ud (ub (appB (fun x=>0) 0 (IntKind.u8.wrap a.k) j))) 1 (held4 ([a.x,a.y,a.w,a.h].getD 0 (0:Int))) j))) 5 (held4 ([a.x,a.y,a.w,a.h].getD 1 (0:Int))) j))) 9 (held4 ([a.x,a.y,a.w,a.h].getD 2 (0:Int))) j))) 13 (held4 ([a.x,a.y,a.w,a.h].getD 3 (0:Int))) j))))/\rng fun j=>ud (ub (fourB (fun j=>ud (ub (fourB (fun j=>ud (ub (fourB (fun j=>ud (ub (fourB (fun j=>ud (ub (appB (fun x=>0) 0 (IntKind.u8.wrap a.k) j))) 1 (held4 ([a.x,a.y,a.w,a.h].getD 0 (0:Int))) j))) 5 (held4 ([a.x,a.y,a.w,a.h].getD 1 (0:Int))) j))) 9 (held4 ([a.x,a.y,a.w,a.h].getD 2 (0:Int))) j))) 13 (held4 ([a.x,a.y,a.w,a.h].getD 3 (0:Int))) j))),a.k==(4:Int),!(false||!byOk a.k),true,true,true,!((rrR (fun j=>ud (ub (fourB (fun j=>ud (ub (fourB (fun j=>ud (ub (fourB (fun j=>ud (ub (fourB (fun j=>ud (ub (appB (fun x=>0) 0 (IntKind.u8.wrap a.k) j))) 1 (held4 ([a.x,a.y,a.w,a.h].getD 0 (0:Int))) j))) 5 (held4 ([a.x,a.y,a.w,a.h].getD 1 (0:Int))) j))) 9 (held4 ([a.x,a.y,a.w,a.h].getD 2 (0:Int))) j))) 13 (held4 ([a.x,a.y,a.w,a.h].getD 3 (0:Int))) j))) 0 17).fst.k==a.k&&((rrR (fun j=>ud (ub (fourB (fun j=>ud (ub (fourB (fun j=>ud (ub (fourB (fun j=>ud (ub (fourB (fun j=>ud (ub (appB (fun x=>0) 0 (IntKind.u8.wrap a.k) j))) 1 (held4 ([a.x,a.y,a.w,a.h].getD 0 (0:Int))) j))) 5 (held4 ([a.x,a.y,a.w,a.h].getD 1 (0:Int))) j))) 9 (held4 ([a.x,a.y,a.w,a.h].getD 2 (0:Int))) j))) 13 (held4 ([a.x,a.y,a.w,a.h].getD 3 (0:Int))) j))) 0 17).fst.e==a.e&&((rrR (fun j=>ud (ub (fourB (fun j=>ud (ub (fourB (fun j=>ud (ub (fourB (fun j=>ud (ub (fourB (fun j=>ud (ub (appB (fun x=>0) 0 (IntKind.u8.wrap a.k) j))) 1 (held4 ([a.x,a.y,a.w,a.h].getD 0 (0:Int))) j))) 5 (held4 ([a.x,a.y,a.w,a.h].getD 1 (0:Int))) j))) 9 (held4 ([a.x,a.y,a.w,a.h].getD 2 (0:Int))) j))) 13 (held4 ([a.x,a.y,a.w,a.h].getD 3 (0:Int))) j))) 0 17).fst.a==a.a&&((rrR (fun j=>ud (ub (fourB (fun j=>ud (ub (fourB (fun j=>ud (ub (fourB (fun j=>ud (ub (fourB (fun j=>ud (ub (appB (fun x=>0) 0 (IntKind.u8.wrap a.k) j))) 1 (held4 ([a.x,a.y,a.w,a.h].getD 0 (0:Int))) j))) 5 (held4 ([a.x,a.y,a.w,a.h].getD 1 (0:Int))) j))) 9 (held4 ([a.x,a.y,a.w,a.h].getD 2 (0:Int))) j))) 13 (held4 ([a.x,a.y,a.w,a.h].getD 3 (0:Int))) j))) 0 17).fst.n==a.n&&((rrR (fun j=>ud (ub (fourB (fun j=>ud (ub (fourB (fun j=>ud (ub (fourB (fun j=>ud (ub (fourB (fun j=>ud (ub (appB (fun x=>0) 0 (IntKind.u8.wrap a.k) j))) 1 (held4 ([a.x,a.y,a.w,a.h].getD 0 (0:Int))) j))) 5 (held4 ([a.x,a.y,a.w,a.h].getD 1 (0:Int))) j))) 9 (held4 ([a.x,a.y,a.w,a.h].getD 2 (0:Int))) j))) 13 (held4 ([a.x,a.y,a.w,a.h].getD 3 (0:Int))) j))) 0 17).fst.p==a.p&&((rrR (fun j=>ud (ub (fourB (fun j=>ud (ub (fourB (fun j=>ud (ub (fourB (fun j=>ud (ub (fourB (fun j=>ud (ub (appB (fun x=>0) 0 (IntKind.u8.wrap a.k) j))) 1 (held4 ([a.x,a.y,a.w,a.h].getD 0 (0:Int))) j))) 5 (held4 ([a.x,a.y,a.w,a.h].getD 1 (0:Int))) j))) 9 (held4 ([a.x,a.y,a.w,a.h].getD 2 (0:Int))) j))) 13 (held4 ([a.x,a.y,a.w,a.h].getD 3 (0:Int))) j))) 0 17).fst.t==a.t&&(a.x==a.x&&(a.y==a.y&&(a.w==a.w&&(a.h==a.h&&true))))))))))],.tup [.c (.v (.slice none 0 0)),Bo false],[]):=by kernel_rfl
theorem an_4f {a:Rd}:(afun anG 60 Try.f105 [rV a] []).go (dN 32 117440504)=some ([!a.k==(1:Int),!a.k==(2:Int),!a.k==(3:Int),a.k==(4:Int),true,true,true,true,mc0 a,true,true,true,true,yes (9<=maxCells/\5=5/\(fun j=>ub (fourB (fun j=>ud (ub (appB (fun x=>0) 0 (IntKind.u8.wrap a.k) j))) 1 (held4 ([a.x,a.y,a.w,a.h].getD 0 (0:Int))) j))=fun j=>ub (ud (ub (fourB (fun j=>ud (ub (appB (fun x=>0) 0 (IntKind.u8.wrap a.k) j))) 1 (held4 ([a.x,a.y,a.w,a.h].getD 0 (0:Int))) j)))),true,true,true,true,yes (13<=maxCells/\9=9/\(fun j=>ub (fourB (fun j=>ud (ub (fourB (fun j=>ud (ub (appB (fun x=>0) 0 (IntKind.u8.wrap a.k) j))) 1 (held4 ([a.x,a.y,a.w,a.h].getD 0 (0:Int))) j))) 5 (held4 ([a.x,a.y,a.w,a.h].getD 1 (0:Int))) j))=fun j=>ub (ud (ub (fourB (fun j=>ud (ub (fourB (fun j=>ud (ub (appB (fun x=>0) 0 (IntKind.u8.wrap a.k) j))) 1 (held4 ([a.x,a.y,a.w,a.h].getD 0 (0:Int))) j))) 5 (held4 ([a.x,a.y,a.w,a.h].getD 1 (0:Int))) j)))),true,true,true,true,yes (17<=maxCells/\13=13/\(fun j=>ub (fourB (fun j=>ud (ub (fourB (fun j=>ud (ub (fourB (fun j=>ud (ub (appB (fun x=>0) 0 (IntKind.u8.wrap a.k) j))) 1 (held4 ([a.x,a.y,a.w,a.h].getD 0 (0:Int))) j))) 5 (held4 ([a.x,a.y,a.w,a.h].getD 1 (0:Int))) j))) 9 (held4 ([a.x,a.y,a.w,a.h].getD 2 (0:Int))) j))=fun j=>ub (ud (ub (fourB (fun j=>ud (ub (fourB (fun j=>ud (ub (fourB (fun j=>ud (ub (appB (fun x=>0) 0 (IntKind.u8.wrap a.k) j))) 1 (held4 ([a.x,a.y,a.w,a.h].getD 0 (0:Int))) j))) 5 (held4 ([a.x,a.y,a.w,a.h].getD 1 (0:Int))) j))) 9 (held4 ([a.x,a.y,a.w,a.h].getD 2 (0:Int))) j)))),true,yes (17<=17/\((fun j=>ub (fourB (fun j=>ud (ub (fourB (fun j=>ud (ub (fourB (fun j=>ud (ub (fourB (fun j=>ud (ub (appB (fun x=>0) 0 (IntKind.u8.wrap a.k) j))) 1 (held4 ([a.x,a.y,a.w,a.h].getD 0 (0:Int))) j))) 5 (held4 ([a.x,a.y,a.w,a.h].getD 1 (0:Int))) j))) 9 (held4 ([a.x,a.y,a.w,a.h].getD 2 (0:Int))) j))) 13 (held4 ([a.x,a.y,a.w,a.h].getD 3 (0:Int))) j))=fun j=>ub (ud (ub (fourB (fun j=>ud (ub (fourB (fun j=>ud (ub (fourB (fun j=>ud (ub (fourB (fun j=>ud (ub (appB (fun x=>0) 0 (IntKind.u8.wrap a.k) j))) 1 (held4 ([a.x,a.y,a.w,a.h].getD 0 (0:Int))) j))) 5 (held4 ([a.x,a.y,a.w,a.h].getD 1 (0:Int))) j))) 9 (held4 ([a.x,a.y,a.w,a.h].getD 2 (0:Int))) j))) 13 (held4 ([a.x,a.y,a.w,a.h].getD 3 (0:Int))) j))))/\rng fun j=>ud (ub (fourB (fun j=>ud (ub (fourB (fun j=>ud (ub (fourB (fun j=>ud (ub (fourB (fun j=>ud (ub (appB (fun x=>0) 0 (IntKind.u8.wrap a.k) j))) 1 (held4 ([a.x,a.y,a.w,a.h].getD 0 (0:Int))) j))) 5 (held4 ([a.x,a.y,a.w,a.h].getD 1 (0:Int))) j))) 9 (held4 ([a.x,a.y,a.w,a.h].getD 2 (0:Int))) j))) 13 (held4 ([a.x,a.y,a.w,a.h].getD 3 (0:Int))) j))),a.k==(4:Int),!(false||!byOk a.k),true,true,true,!!((rrR (fun j=>ud (ub (fourB (fun j=>ud (ub (fourB (fun j=>ud (ub (fourB (fun j=>ud (ub (fourB (fun j=>ud (ub (appB (fun x=>0) 0 (IntKind.u8.wrap a.k) j))) 1 (held4 ([a.x,a.y,a.w,a.h].getD 0 (0:Int))) j))) 5 (held4 ([a.x,a.y,a.w,a.h].getD 1 (0:Int))) j))) 9 (held4 ([a.x,a.y,a.w,a.h].getD 2 (0:Int))) j))) 13 (held4 ([a.x,a.y,a.w,a.h].getD 3 (0:Int))) j))) 0 17).fst.k==a.k&&((rrR (fun j=>ud (ub (fourB (fun j=>ud (ub (fourB (fun j=>ud (ub (fourB (fun j=>ud (ub (fourB (fun j=>ud (ub (appB (fun x=>0) 0 (IntKind.u8.wrap a.k) j))) 1 (held4 ([a.x,a.y,a.w,a.h].getD 0 (0:Int))) j))) 5 (held4 ([a.x,a.y,a.w,a.h].getD 1 (0:Int))) j))) 9 (held4 ([a.x,a.y,a.w,a.h].getD 2 (0:Int))) j))) 13 (held4 ([a.x,a.y,a.w,a.h].getD 3 (0:Int))) j))) 0 17).fst.e==a.e&&((rrR (fun j=>ud (ub (fourB (fun j=>ud (ub (fourB (fun j=>ud (ub (fourB (fun j=>ud (ub (fourB (fun j=>ud (ub (appB (fun x=>0) 0 (IntKind.u8.wrap a.k) j))) 1 (held4 ([a.x,a.y,a.w,a.h].getD 0 (0:Int))) j))) 5 (held4 ([a.x,a.y,a.w,a.h].getD 1 (0:Int))) j))) 9 (held4 ([a.x,a.y,a.w,a.h].getD 2 (0:Int))) j))) 13 (held4 ([a.x,a.y,a.w,a.h].getD 3 (0:Int))) j))) 0 17).fst.a==a.a&&((rrR (fun j=>ud (ub (fourB (fun j=>ud (ub (fourB (fun j=>ud (ub (fourB (fun j=>ud (ub (fourB (fun j=>ud (ub (appB (fun x=>0) 0 (IntKind.u8.wrap a.k) j))) 1 (held4 ([a.x,a.y,a.w,a.h].getD 0 (0:Int))) j))) 5 (held4 ([a.x,a.y,a.w,a.h].getD 1 (0:Int))) j))) 9 (held4 ([a.x,a.y,a.w,a.h].getD 2 (0:Int))) j))) 13 (held4 ([a.x,a.y,a.w,a.h].getD 3 (0:Int))) j))) 0 17).fst.n==a.n&&((rrR (fun j=>ud (ub (fourB (fun j=>ud (ub (fourB (fun j=>ud (ub (fourB (fun j=>ud (ub (fourB (fun j=>ud (ub (appB (fun x=>0) 0 (IntKind.u8.wrap a.k) j))) 1 (held4 ([a.x,a.y,a.w,a.h].getD 0 (0:Int))) j))) 5 (held4 ([a.x,a.y,a.w,a.h].getD 1 (0:Int))) j))) 9 (held4 ([a.x,a.y,a.w,a.h].getD 2 (0:Int))) j))) 13 (held4 ([a.x,a.y,a.w,a.h].getD 3 (0:Int))) j))) 0 17).fst.p==a.p&&((rrR (fun j=>ud (ub (fourB (fun j=>ud (ub (fourB (fun j=>ud (ub (fourB (fun j=>ud (ub (fourB (fun j=>ud (ub (appB (fun x=>0) 0 (IntKind.u8.wrap a.k) j))) 1 (held4 ([a.x,a.y,a.w,a.h].getD 0 (0:Int))) j))) 5 (held4 ([a.x,a.y,a.w,a.h].getD 1 (0:Int))) j))) 9 (held4 ([a.x,a.y,a.w,a.h].getD 2 (0:Int))) j))) 13 (held4 ([a.x,a.y,a.w,a.h].getD 3 (0:Int))) j))) 0 17).fst.t==a.t&&(a.x==a.x&&(a.y==a.y&&(a.w==a.w&&(a.h==a.h&&true))))))))))],.tup [.c (.sl 0 0 17),Bo true],[some ⟨5,true,.row 1 17 fun j=>[.int .u8 (ud (ub (fourB (fun j=>ud (ub (fourB (fun j=>ud (ub (fourB (fun j=>ud (ub (fourB (fun j=>ud (ub (appB (fun x=>0) 0 (IntKind.u8.wrap a.k) j))) 1 (held4 ([a.x,a.y,a.w,a.h].getD 0 (0:Int))) j))) 5 (held4 ([a.x,a.y,a.w,a.h].getD 1 (0:Int))) j))) 9 (held4 ([a.x,a.y,a.w,a.h].getD 2 (0:Int))) j))) 13 (held4 ([a.x,a.y,a.w,a.h].getD 3 (0:Int))) j)))]⟩]):=by kernel_rfl
theorem an_5b {a:Rd}:(afun anG 60 Try.f105 [rV a] []).go (dN 9 240)=some ([!a.k==(1:Int),!a.k==(2:Int),!a.k==(3:Int),!a.k==(4:Int),a.k==(5:Int),true,mc0 a,mc1 a,!a.k==(4:Int),false||!byOk a.k||!fits a.n,true,true,true,true],.tup [.c (.v (.slice none 0 0)),Bo false],[]):=by kernel_rfl
theorem an_5t {a:Rd}:(afun anG 60 Try.f105 [rV a] []).go (dN 13 240)=some ([!a.k==(1:Int),!a.k==(2:Int),!a.k==(3:Int),!a.k==(4:Int),a.k==(5:Int),true,mc0 a,mc1 a,!a.k==(4:Int),!(false||!byOk a.k||!fits a.n),true,true,true,!(mc2 a)],.tup [.c (.v (.slice none 0 0)),Bo false],[]):=by kernel_rfl
theorem an_5f {a:Rd}:(afun anG 60 Try.f105 [rV a] []).go (dN 14 240)=some ([!a.k==(1:Int),!a.k==(2:Int),!a.k==(3:Int),!a.k==(4:Int),a.k==(5:Int),true,mc0 a,mc1 a,!a.k==(4:Int),!(false||!byOk a.k||!fits a.n),true,true,true,!!(mc2 a)],.tup [.c (.sl 0 0 5),Bo true],[some ⟨5,true,.row 1 5 fun j=>[.int .u8 (ud (ub (fourB (fun j=>ud (ub (appB (fun x=>0) 0 (IntKind.u8.wrap a.k) j))) 1 a.n j)))]⟩]):=by kernel_rfl
theorem an_6b {a:Rd}:(afun anG 60 Try.f105 [rV a] []).go (dN 9 224)=some ([!a.k==(1:Int),!a.k==(2:Int),!a.k==(3:Int),!a.k==(4:Int),!a.k==(5:Int),a.k==(6:Int),mc0 a,mc1 a,!a.k==(4:Int),false||!byOk a.k||!fits a.n,true,true,true,true],.tup [.c (.v (.slice none 0 0)),Bo false],[]):=by kernel_rfl
theorem an_6t {a:Rd}:(afun anG 60 Try.f105 [rV a] []).go (dN 13 224)=some ([!a.k==(1:Int),!a.k==(2:Int),!a.k==(3:Int),!a.k==(4:Int),!a.k==(5:Int),a.k==(6:Int),mc0 a,mc1 a,!a.k==(4:Int),!(false||!byOk a.k||!fits a.n),true,true,true,!(mc2 a)],.tup [.c (.v (.slice none 0 0)),Bo false],[]):=by kernel_rfl
theorem an_6f {a:Rd}:(afun anG 60 Try.f105 [rV a] []).go (dN 14 224)=some ([!a.k==(1:Int),!a.k==(2:Int),!a.k==(3:Int),!a.k==(4:Int),!a.k==(5:Int),a.k==(6:Int),mc0 a,mc1 a,!a.k==(4:Int),!(false||!byOk a.k||!fits a.n),true,true,true,!!(mc2 a)],.tup [.c (.sl 0 0 5),Bo true],[some ⟨5,true,.row 1 5 fun j=>[.int .u8 (ud (ub (fourB (fun j=>ud (ub (appB (fun x=>0) 0 (IntKind.u8.wrap a.k) j))) 1 a.n j)))]⟩]):=by kernel_rfl
theorem an_x {a:Rd}:(afun anG 60 Try.f105 [rV a] []).go (dN 6 0)=some ([!a.k==(1:Int),!a.k==(2:Int),!a.k==(3:Int),!a.k==(4:Int),!a.k==(5:Int),!a.k==(6:Int)],.tup [.c (.v (.slice none 0 0)),Bo false],[]):=by kernel_rfl
end
end Go.Proofs.Ytcpahifgdppkbaa.QAI
