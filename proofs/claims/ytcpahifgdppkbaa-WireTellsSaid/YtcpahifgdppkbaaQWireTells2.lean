/- Lemmas. -/
import Derived.Test.YtcpahifgdppkbaaQWireTells1
import Derived.LoopN
import Derived.Laws.StructEq
import Derived.Test.YtcpahifgdppkbaaChecked
import Derived.KernelRfl
import Derived.Laws.Bits64b
import Derived.Test.YtcpahifgdppkbaaRows
import Derived.ProofKit
import Derived.OpenShut
import Derived.HandedShaped
import Derived.Laws.Externs
import Derived.WalkKit
import Derived.BigCall
import Derived.BigGuard
set_option linter.unusedVariables false
set_option linter.unusedSimpArgs false
set_option maxRecDepth 100000
namespace Go.Proofs.Ytcpahifgdppkbaa.QAI
section
open Go Go.RowKit
structure RunOk (G:Ctx2) (ops:Array Oper) (π:List Nat) (l:Log) (st:Nat->St):Prop where
 ord:OrdOk ops π
 stp:∀ (p i:Nat),π[p]?=some i->StepAt G ops l i (st p) (st (p+1))
 log:logOk ops l=true
section
variable {G:Ctx2}{ops:Array Oper}{π:List Nat}{l:Log}{st:Nat->St}{m m0:List Pl}{h0:AHeap}{w w0:World}{B:Nat}{a:Act}
theorem OrdOk.at_ (h:OrdOk ops π) {i:Nat}(hi:i<ops.size):π.idxOf i<ops.size/\π[π.idxOf i]?=some i:=by
 have hlt:=List.idxOf_lt_length_iff.2 (h.mem i hi)
 exact ⟨by rw [<-h.len];exact hlt,by rw [List.getElem?_eq_getElem hlt,List.getElem_idxOf]⟩
theorem OrdOk.of_pos (h:OrdOk ops π) {p:Nat}(hp:p<ops.size):∃ i,i<ops.size/\π[p]?=some i/\π.idxOf i=p:=by
 refine ⟨π.getD p 0,h.lt p hp,?_,h.inj p hp⟩
 rw [List.getD_eq_getElem?_getD,List.getElem?_eq_getElem (by rw [h.len];exact hp)]
 rfl
theorem StepAt.put {i:Nat}{S S':St}(h:StepAt G ops l i S S'):∃ o v,ops[i]?=some o/\S'.sl=putA S.sl o.dst v:=by
 obtain ⟨o,ho,h|h⟩:=h
 ·obtain ⟨_,he,_⟩:=h
  rw [stepOp_def] at he
  split at he
  ·rw [Tr.eval_bind] at he
   cases h1:(alight G.toCtx o (evs S.sl) S.h).eval with
   | none=>simp [h1] at he
   | some v=>
    rw [h1] at he
    simp only [Option.bind_some,Tr.eval,Option.some.injEq] at he
    exact ⟨o,v,ho,by rw [<-he]⟩
  ·rw [Tr.eval_bind] at he
   cases h1:(aheavy G o (evs S.sl) S.h).eval with
   | none=>simp [h1] at he
   | some v=>
    rw [h1] at he
    simp only [Option.bind_some,Tr.eval,Option.some.injEq] at he
    exact ⟨o,v.1,ho,by rw [<-he]⟩
 ·exact ⟨o,_,ho,by rw [h.2];rfl⟩
theorem shEq_trans {x y z:Option ABlk}(h:shEq x y=true) (h':shEq y z=true):shEq x z=true:=by
 rcases shEq_cases h with ⟨rfl,rfl⟩ | ⟨b,b',rfl,rfl,h1,h2⟩
 ·exact h'
 ·rcases shEq_cases h' with ⟨h3,_⟩ | ⟨c,c',h3,rfl,h4,h5⟩
  ·cases h3
  ·cases h3
   simp only [shEq,Bool.and_eq_true,h1,h2,h4,h5]
   exact ⟨Nat.beq_refl _,Nat.beq_refl _⟩
theorem shEq_symm {x y:Option ABlk}(h:shEq x y=true):shEq y x=true:=by
 rcases shEq_cases h with ⟨rfl,rfl⟩ | ⟨b,b',rfl,rfl,h1,h2⟩
 ·rfl
 ·simp only [shEq,Bool.and_eq_true,h1,h2]
  exact ⟨Nat.beq_refl _,Nat.beq_refl _⟩
theorem StepAt.heap {i:Nat}{S S':St}(h:StepAt G ops l i S S'):∃ o,ops[i]?=some o/\(isLight o.op=true->S'.h=S.h)/\S.h.length<=S'.h.length ∧
  (isLight o.op=false->isQuiet o.op=true->S'.h=S.h\/((i,S.h.length) ∈ l.quiets/\∃ b,S'.h=S.h++[some b])) ∧
  (∀ id,id<S.h.length->(Loud o->∀ ws bs rc,(i,ws,bs,rc) ∈ l.louds->id ∉ ws)->S'.h[id]?=S.h[id]?) ∧
  (∀ id,id<S.h.length->(Loud o->∀ ws bs rc,(i,ws,bs,rc) ∈ l.louds->id ∉ bs)->shEq (S.h.at id) (S'.h.at id)=true):=by
 obtain ⟨o,ho,h|h⟩:=h
 ·obtain ⟨_,he,hl⟩:=h
  rw [stepOp_def] at he
  split at he
  ·rename_i hlt
   rw [Tr.eval_bind] at he
   cases h1:(alight G.toCtx o (evs S.sl) S.h).eval with
   | none=>simp [h1] at he
   | some v=>
    rw [h1] at he
    simp only [Option.bind_some,Tr.eval,Option.some.injEq] at he
    subst he
    exact ⟨o,ho,fun _=>rfl,Nat.le_refl _,fun _ _=>.inl rfl,fun _ _ _=>rfl,fun _ _ _=>shEq_refl _⟩
  ·rename_i hlt
   rw [Tr.eval_bind] at he
   cases h1:(aheavy G o (evs S.sl) S.h).eval with
   | none=>simp [h1] at he
   | some v=>
    obtain ⟨v,h'⟩:=v
    rw [h1] at he
    simp only [Option.bind_some,Tr.eval,Option.some.injEq] at he
    subst he
    have hlt':isLight o.op=false:=by simpa using hlt
    obtain ⟨hle,hk⟩:=aheavy_keeps h1
    cases hq:isQuiet o.op with
    | true=>
     obtain ⟨b,mk,rfl,_,_,_⟩:=quiet_form hq h1
     refine ⟨o,ho,fun h=>absurd h hlt,by simp,fun _ _=>.inr ⟨hl.2.2.1 hlt' hq,b,rfl⟩,fun id hid _=>List.getElem?_append_left hid,fun id hid _=>?_⟩
     unfold AHeap.at
     simp only
     rw [List.getElem?_append_left hid]
     exact shEq_refl _
    | false=>
     obtain ⟨t,hte,hlog⟩:=hl.2.2.2 ⟨hlt',hq⟩
     cases t with
     | true=>
      have hsame:∀ id,id<S.h.length->h'[id]?=S.h[id]?:=fun id hid=>by
       by_cases hw:id ∈ writesOf o (evs S.sl) S.h
       ·exact hte rfl id hw
       ·exact hk id hid hw
      refine ⟨o,ho,fun h=>absurd h hlt,hle,fun _ h=>absurd h (by rw [hq];simp),fun id hid _=>hsame id hid,fun id hid _=>?_⟩
      have:=hsame id hid
      unfold AHeap.at
      simp only
      rw [this]
      exact shEq_refl _
     | false=>
     have hlog:(i,writesOf o (evs S.sl) S.h,breaksOf (writesOf o (evs S.sl) S.h) S.h _,reachOf o (evs S.sl) S.h) ∈ l.louds:=hlog
     refine ⟨o,ho,fun h=>absurd h hlt,hle,fun _ h=>absurd h (by rw [hq];simp),fun id hid hn=>hk id hid (hn ⟨hlt',hq⟩ _ _ _ hlog),fun id hid hn=>?_⟩
     have hnb:=hn ⟨hlt',hq⟩ _ _ _ hlog
     by_cases hw:id ∈ writesOf o (evs S.sl) S.h
     ·cases hs:shEq (S.h.at id) (AHeap.at h' id) with
      | true=>rfl
      | false=>exact absurd (List.mem_filter.2 ⟨hw,by simp only;rw [hs];rfl⟩) hnb
     ·have:=hk id hid hw
      unfold AHeap.at
      simp only
      rw [this]
      exact shEq_refl _
 ·exact ⟨o,ho,fun _=>by rw [h.2];rfl,by rw [h.2];exact Nat.le_refl _,fun _ _=>.inl (by rw [h.2];rfl),fun _ _ _=>by rw [h.2];rfl,fun _ _ _=>by rw [h.2];exact shEq_refl _⟩
def SlotIs (ops:Array Oper) (π:List Nat) (st:Nat->St) (D:Nat->Prop) (t:Nat) (v:AV):Prop:=
 (∃ (j:Nat) (o:Oper),D j/\ops[j]?=some o/\o.dst=some t/\v=(st (π.idxOf j+1)).sl.getD t (.c .any))\/((∀ (j:Nat) o,D j->ops[j]?=some o->o.dst ≠ some t)/\v=(st 0).sl.getD t (.c .any))
theorem SlotIs.agree (h:OrdOk ops π) {D D':Nat->Prop}{t:Nat}{v v':AV}(hd:∀ (j:Nat) o,ops[j]?=some o->o.dst=some t->(D j ↔ D' j)) (h1:SlotIs ops π st D t v) (h2:SlotIs ops π st D' t v'):v=v':=by
 rcases h1 with ⟨j,o,hj,ho,hdst,rfl⟩ | ⟨hn,rfl⟩ <;> rcases h2 with ⟨j',o',hj',ho',hdst',rfl⟩ | ⟨hn',rfl⟩
 ·have:=h.dst j j' o o' t ho ho' hdst hdst'
  subst this
  rfl
 ·exact absurd hdst (hn' j o ((hd j o ho hdst).1 hj) ho)
 ·exact absurd hdst' (hn j' o' ((hd j' o' ho' hdst').2 hj') ho')
 ·rfl
theorem SlotIs.has (D:Nat->Prop) (t:Nat):∃ v,SlotIs ops π st D t v:=by
 by_cases hx:∃ (j:Nat) (o:Oper),D j/\ops[j]?=some o/\o.dst=some t
 ·obtain ⟨j,o,h1,h2,h3⟩:=hx
  exact ⟨_,.inl ⟨j,o,h1,h2,h3,rfl⟩⟩
 ·exact ⟨_,.inr ⟨fun j o h1 h2 h3=>hx ⟨j,o,h1,h2,h3⟩,rfl⟩⟩
theorem putA_getD {sl:List AV}{d:Option Tmp}{v:AV}{t:Nat}(h:d ≠ some t):(putA sl d v).getD t (.c .any)=sl.getD t (.c .any):=by
 cases d with
 | none=>rfl
 | some d=>
  have hne:d ≠ t:=fun e=>h (by rw [e])
  simp only [putA,List.getD_eq_getElem?_getD]
  rw [List.getElem?_set_ne hne]
theorem putA_len {sl:List AV}{d:Option Tmp}{v:AV}:(putA sl d v).length=sl.length:=by
 cases d <;> simp [putA]
theorem RunOk.len (R:RunOk G ops π l st):∀ p,p<=ops.size->(st p).sl.length=(st 0).sl.length
 | 0,_=>rfl
 | p+1,hp=>by
  obtain ⟨i,hi,hpi,_⟩:=R.ord.of_pos (p:=p) (by omega)
  obtain ⟨o,v,ho,hs⟩:=(R.stp p i hpi).put
  rw [hs,putA_len]
  exact R.len p (by omega)
theorem RunOk.slot (R:RunOk G ops π l st):∀ p,p<=ops.size->∀ t,SlotIs ops π st (fun j=>π.idxOf j<p) t ((st p).sl.getD t (.c .any))
 | 0,_,t=>.inr ⟨fun j o hj=>by omega,rfl⟩
 | p+1,hp,t=>by
  obtain ⟨i,hi,hpi,hpos⟩:=R.ord.of_pos (p:=p) (by omega)
  obtain ⟨o,v,ho,hs⟩:=(R.stp p i hpi).put
  by_cases hd:o.dst=some t
  ·exact .inl ⟨i,o,by omega,ho,hd,by rw [hpos]⟩
  ·rw [hs,putA_getD hd]
   rcases R.slot p (by omega) t with ⟨j,o',hj,ho',hdst,hv⟩ | ⟨hn,hv⟩
   ·exact .inl ⟨j,o',by omega,ho',hdst,hv⟩
   ·refine .inr ⟨fun j o' hj ho'=>?_,hv⟩
    rcases Nat.lt_or_ge (π.idxOf j) p with hlt|hge
    ·exact hn j o' hlt ho'
    ·have hje:j=i:=by
      have h1:=(R.ord.at_ (getElem?_lt ho')).2
      rw [show π.idxOf j=p by omega,hpi] at h1
      cases h1
      rfl
     subst hje
     rw [ho] at ho'
     cases ho'
     exact hd
theorem RunOk.mono (R:RunOk G ops π l st) (p1:Nat):∀ k,p1+k<=ops.size->(st p1).h.length<=(st (p1+k)).h.length
 | 0,_=>Nat.le_refl _
 | k+1,hk=>by
  obtain ⟨i,hi,hpi,hpos⟩:=R.ord.of_pos (p:=p1+k) (by omega)
  obtain ⟨o,ho,_,hle,_⟩:=(R.stp (p1+k) i hpi).heap
  exact Nat.le_trans (R.mono p1 k (by omega)) hle
theorem RunOk.keep (R:RunOk G ops π l st) (p1 id:Nat) (hid:id<(st p1).h.length):∀ k,p1+k<=ops.size->(∀ q,p1<=q->q<p1+k->∀ (i:Nat) o,π[q]?=some i->ops[i]?=some o->Loud o->∀ ws bs rc,(i,ws,bs,rc) ∈ l.louds->id ∉ ws) →
  (st (p1+k)).h[id]?=(st p1).h[id]?
 | 0,_,_=>rfl
 | k+1,hk,hw=>by
  obtain ⟨i,hi,hpi,hpos⟩:=R.ord.of_pos (p:=p1+k) (by omega)
  obtain ⟨o,ho,_,_,_,hkp,_⟩:=(R.stp (p1+k) i hpi).heap
  have ih:=R.keep p1 id hid k (by omega) fun q h2 h3=>hw q h2 (by omega)
  have hm:=R.mono p1 k (by omega)
  have:(st (p1+k+1)).h[id]?=(st (p1+k)).h[id]?:=hkp id (by omega) (hw (p1+k) (by omega) (by omega) i o hpi ho)
  rw [show p1+(k+1)=p1+k+1 by omega,this,ih]
theorem RunOk.soft (R:RunOk G ops π l st) (p1 id:Nat) (hid:id<(st p1).h.length):∀ k,p1+k<=ops.size->(∀ q,p1<=q->q<p1+k->∀ (i:Nat) o,π[q]?=some i->ops[i]?=some o->Loud o->∀ ws bs rc,(i,ws,bs,rc) ∈ l.louds->id ∉ bs) →
  shEq ((st p1).h.at id) ((st (p1+k)).h.at id)=true
 | 0,_,_=>shEq_refl _
 | k+1,hk,hw=>by
  obtain ⟨i,hi,hpi,hpos⟩:=R.ord.of_pos (p:=p1+k) (by omega)
  obtain ⟨o,ho,_,_,_,_,hkp⟩:=(R.stp (p1+k) i hpi).heap
  have ih:=R.soft p1 id hid k (by omega) fun q h2 h3=>hw q h2 (by omega)
  have hm:=R.mono p1 k (by omega)
  exact shEq_trans ih (hkp id (by omega) (hw (p1+k) (by omega) (by omega) i o hpi ho))
def Dn (ops:Array Oper) (listed:Array Bool) (j:Nat):Prop:=j<ops.size/\listed.getD j false=true
def Nt (ops:Array Oper) (π:List Nat) (st:Nat->St) (listed:Array Bool) (hp id:Nat):Prop:=
 ∃ (i:Nat) (o:Oper),ops[i]?=some o/\isLight o.op=false/\isQuiet o.op=true/\π.idxOf i<hp/\¬ Dn ops listed i/\id=(st (π.idxOf i)).h.length/\(st (π.idxOf i+1)).h.length=id+1
structure RIX (B:Nat) (m0:List Pl) (h0:AHeap) (w0:World) (ops:Array Oper) (π:List Nat) (st:Nat->St) (listed:Array Bool) (a:Act) (w:World) (m:List Pl) (hp:Nat) (k:AHeap):Prop where
 le:hp<=ops.size
 loud:∀ (j:Nat) o,ops[j]?=some o->Loud o->(Dn ops listed j ↔ π.idxOf j<hp)
 quiet:∀ (j:Nat) o,ops[j]?=some o->isLight o.op=false->isQuiet o.op=true->Dn ops listed j->π.idxOf j<hp
 nul:Nul (Nt ops π st listed hp) (st hp).h k
 marks:∀ id,Nt ops π st listed hp id->m[id]?=some mark
 step:Step B m0 h0 w0 m k w
 slots:∀ t v,SlotIs ops π st (Dn ops listed) t v->t<(st 0).sl.length->∃ x,a.tmps[t]?=some x/\VR m v x
structure RID (B:Nat) (m0:List Pl) (h0:AHeap) (w0:World) (ops:Array Oper) (π:List Nat) (st:Nat->St) (listed:Array Bool) (a:Act) (w:World):Prop where
 hB:B<=w0.heap.size
 def_:a.defers=[]
 size:listed.size=ops.size
 closed:∀ (j:Nat) o,ops[j]?=some o->Dn ops listed j->∀ e ∈ o.after,Region.binds .any e=true->Dn ops listed e.on
 len:(st 0).sl.length=a.tmps.size
 low:m0.length<=(st 0).h.length
 ex:∃ m hp k,RIX B m0 h0 w0 ops π st listed a w m hp k
theorem before_dn (h:OrdOk ops π) {listed:Array Bool}(hc:∀ (j:Nat) o,ops[j]?=some o->Dn ops listed j->∀ e ∈ o.after,Region.binds .any e=true->Dn ops listed e.on) :
  ∀ (k:Nat) (j i:Nat),π.idxOf j<k->Dn ops listed j->before (predsOf ops.toList) i j=true->Dn ops listed i
 | 0,j,i,hk,_,_=>by omega
 | k+1,j,i,hk,hj,hb=>by
  obtain ⟨o,ho,e,he,hbe,hor⟩:=h.step j hj.1 i hb
  have hd:=hc j o ho hj e he hbe
  rcases hor with rfl|hb'
  ·exact hd
  ·have hpos:=(h.pos j hj.1 e.on (h.dir j o ho e he hbe)).2
   exact before_dn h hc k e.on i (by omega) hd hb'
theorem OrdOk.at_pos (h:OrdOk ops π) {p i:Nat}(hp:p<ops.size) (hi:π[p]?=some i):π.idxOf i=p:=by
 obtain ⟨j,_,hj,hpos⟩:=h.of_pos hp
 rw [hi] at hj
 cases hj
 exact hpos
theorem RIX.bump1 (R:RunOk G ops π l st) {listed:Array Bool}{hp:Nat}{k:AHeap}(I:RIX B m0 h0 w0 ops π st listed a w m hp k) {i:Nat}{o:Oper}(hlt:hp<ops.size) (hi:π[hp]?=some i) (ho:ops[i]?=some o) (hn:¬ Loud o) :
  ∃ m' k',RIX B m0 h0 w0 ops π st listed a w m' (hp+1) k':=by
 have hpos:=R.ord.at_pos hlt hi
 have hloud:∀ (j:Nat) o',ops[j]?=some o'->Loud o'->(Dn ops listed j ↔ π.idxOf j<hp+1):=by
  intro j o' ho' hl
  rw [I.loud j o' ho' hl]
  constructor
  ·intro h;omega
  ·intro h
   rcases Nat.lt_or_ge (π.idxOf j) hp with h1|h1
   ·exact h1
   ·have hj:=(R.ord.at_ (getElem?_lt ho')).2
    rw [show π.idxOf j=hp by omega,hi] at hj
    cases hj
    rw [ho] at ho'
    cases ho'
    exact absurd hl hn
 have hquiet:∀ (j:Nat) o',ops[j]?=some o'->isLight o'.op=false->isQuiet o'.op=true->Dn ops listed j->π.idxOf j<hp+1:=fun j o' h1 h2 h3 h4=>by
  have:=I.quiet j o' h1 h2 h3 h4
  omega
 obtain ⟨o',ho',hlight,_,hq,_⟩:=(R.stp hp i hi).heap
 rw [ho] at ho'
 cases ho'
 have old:∀ id,Nt ops π st listed hp id->Nt ops π st listed (hp+1) id:=fun id ⟨j,oj,h1,h2,h3,h4,h5⟩=>⟨j,oj,h1,h2,h3,by omega,h5⟩
 have new:∀ id,Nt ops π st listed (hp+1) id->Nt ops π st listed hp id\/(id=(st hp).h.length/\(st (hp+1)).h.length=id+1):=by
  rintro id ⟨j,oj,h1,h2,h3,h4,h5,h6,h7⟩
  rcases Nat.lt_or_ge (π.idxOf j) hp with hj|hj
  ·exact .inl ⟨j,oj,h1,h2,h3,hj,h5,h6,h7⟩
  ·have:π.idxOf j=hp:=by omega
   rw [this] at h6 h7
   exact .inr ⟨h6,h7⟩
 have hcase:(st (hp+1)).h=(st hp).h\/(isLight o.op=false/\isQuiet o.op=true/\∃ b,(st (hp+1)).h=(st hp).h++[some b]):=by
  cases hl:isLight o.op with
  | true=>exact .inl (hlight hl)
  | false=>
   have hqt:isQuiet o.op=true:=by
    cases hq':isQuiet o.op with
    | true=>rfl
    | false=>exact absurd ⟨hl,hq'⟩ hn
   rcases hq hl hqt with h | ⟨_,b,h⟩
   ·exact .inl h
   ·exact .inr ⟨rfl,hqt,b,h⟩
 rcases hcase with hh | ⟨hl,hqt,b,hh⟩
 ·have same:∀ id,Nt ops π st listed (hp+1) id ↔ Nt ops π st listed hp id:=fun id=>⟨fun h=>(new id h).elim (fun x=>x) fun h'=>absurd h'.2 (by rw [hh];omega),old id⟩
  refine ⟨m,k,⟨hlt,hloud,hquiet,⟨by rw [hh];exact I.nul.len,fun id h=>I.nul.off id ((same id).1 h),fun id h=>by rw [hh];exact I.nul.on id fun h'=>h ((same id).2 h')⟩,fun id h=>I.marks id ((same id).1 h),I.step,I.slots⟩⟩
 ·have hnd:¬ Dn ops listed i:=fun hd=>by
   have:=I.quiet i o ho hl hqt hd
   omega
  have hnew:Nt ops π st listed (hp+1) (st hp).h.length:=⟨i,o,ho,hl,hqt,by omega,hnd,by rw [hpos],by rw [hpos,hh];simp⟩
  have hkl:=I.nul.len
  have hml:=I.step.hr.len
  have hlt1:∀ id,Nt ops π st listed hp id->id<k.length:=fun id h=>(List.getElem?_eq_some_iff.1 (I.nul.off id h)).1
  refine ⟨m++[mark],k++[none],⟨hlt,hloud,hquiet,⟨by rw [hh];simp [hkl],fun id h=>?_,fun id h=>?_⟩,fun id h=>?_,⟨I.step.ext.trans (Ext.app _ _),{ len:=by simp [hml],blk:=?_,apart:=?_ },I.step.fr,?_⟩,fun t v hv hlt=>?_⟩⟩
  ·rcases new id h with h' | ⟨rfl,_⟩
   ·rw [List.getElem?_append_left (hlt1 id h')]
    exact I.nul.off id h'
   ·rw [<-hkl]
    simp
  ·have hne:id ≠ (st hp).h.length:=fun e=>h (e ▸ hnew)
   rw [hh]
   rcases Nat.lt_or_ge id k.length with h1|h1
   ·rw [List.getElem?_append_left h1,List.getElem?_append_left (by rw [<-hkl];exact h1)]
    exact I.nul.on id fun h'=>h (old id h')
   ·rw [List.getElem?_eq_none (by simp;omega),List.getElem?_eq_none (by simp;omega)]
  ·rcases new id h with h' | ⟨rfl,_⟩
   ·rw [List.getElem?_append_left (by rw [hml];exact hlt1 id h')]
    exact I.marks id h'
   ·rw [<-hkl,<-hml]
    simp
  ·intro id b' p hb hp'
   rcases getElem?_snoc hb with hb | ⟨_,hbe⟩
   ·rw [List.getElem?_append_left (by rw [hml];exact (List.getElem?_eq_some_iff.1 hb).1)] at hp'
    exact (I.step.hr.blk id b' p hb hp').ext (Ext.app _ _)
   ·cases hbe
  ·intro id id' b1 b2 p1 p2 A1 A2 hne hb1 hb2 ho1 ho2 hp1 hp2 hA1 hA2
   rcases getElem?_snoc hb1 with hb1 | ⟨_,hbe⟩
   ·rcases getElem?_snoc hb2 with hb2 | ⟨_,hbe⟩
    ·rw [List.getElem?_append_left (by rw [hml];exact (List.getElem?_eq_some_iff.1 hb1).1)] at hp1
     rw [List.getElem?_append_left (by rw [hml];exact (List.getElem?_eq_some_iff.1 hb2).1)] at hp2
     exact I.step.hr.apart id id' b1 b2 p1 p2 A1 A2 hne hb1 hb2 ho1 ho2 hp1 hp2 hA1 hA2
    ·cases hbe
   ·cases hbe
  ·intro q hq
   obtain ⟨id,b1,p1,A,hb1,ho1,hp1,hA,rfl⟩:=hq
   rcases getElem?_snoc hb1 with hb1 | ⟨_,hbe⟩
   ·rw [List.getElem?_append_left (by rw [hml];exact (List.getElem?_eq_some_iff.1 hb1).1)] at hp1
    exact I.step.own _ ⟨id,b1,p1,A,hb1,ho1,hp1,hA,rfl⟩
   ·cases hbe
  ·obtain ⟨x,hx,hr⟩:=I.slots t v hv hlt
   exact ⟨x,hx,VR.ext (Ext.app _ _) hr⟩
theorem RIX.bump (R:RunOk G ops π l st) {listed:Array Bool}:∀ (n hp:Nat) (m:List Pl) (k:AHeap),ops.size-hp<=n->RIX B m0 h0 w0 ops π st listed a w m hp k →
  ∃ m' hp' k',RIX B m0 h0 w0 ops π st listed a w m' hp' k'/\∀ (i:Nat) o,π[hp']?=some i->ops[i]?=some o->Loud o
 | 0,hp,m,k,hn,I=>by
  refine ⟨m,hp,k,I,fun i o hi ho=>?_⟩
  have:=(List.getElem?_eq_some_iff.1 hi).1
  rw [R.ord.len] at this
  omega
 | n+1,hp,m,k,hn,I=>by
  rcases Nat.lt_or_ge hp ops.size with hlt|hge
  ·obtain ⟨i,hil,hi,_⟩:=R.ord.of_pos hlt
   have ho:=Array.getElem?_eq_getElem hil
   by_cases hl:Loud ops[i]
   ·refine ⟨m,hp,k,I,fun i' o hi' ho'=>?_⟩
    rw [hi] at hi'
    cases hi'
    rw [ho] at ho'
    cases ho'
    exact hl
   ·obtain ⟨m',k',I'⟩:=I.bump1 R hlt hi ho hl
    exact RIX.bump R n (hp+1) m' k' (by omega) I'
  ·refine ⟨m,hp,k,I,fun i o hi ho=>?_⟩
   have:=(List.getElem?_eq_some_iff.1 hi).1
   rw [R.ord.len] at this
   omega
end
end
section
open Go Go.RowKit
section
variable {G:Ctx2}{ops:Array Oper}{π:List Nat}{l:Log}{st:Nat->St}{m m0:List Pl}{h0:AHeap}{w w0:World}{B:Nat}{a:Act}{listed:Array Bool}
theorem getD_set {i j:Nat}(hs:i<listed.size):(listed.setIfInBounds i true).getD j false=true ↔ j=i\/listed.getD j false=true:=by
 by_cases e:j=i
 ·subst e
  simp [Array.getD_eq_getD_getElem?,hs]
 ·simp [Array.getD_eq_getD_getElem?,Array.getElem?_setIfInBounds_ne (fun e'=>e e'.symm),e]
theorem Dn.set {i j:Nat}(hsz:listed.size=ops.size) (hi:i<ops.size):Dn ops (listed.setIfInBounds i true) j ↔ j=i\/Dn ops listed j:=by
 unfold Dn
 rw [getD_set (by omega)]
 constructor
 ·rintro ⟨h1,h2|h2⟩
  ·exact .inl h2
  ·exact .inr ⟨h1,h2⟩
 ·rintro (rfl | ⟨h1,h2⟩)
  ·exact ⟨hi,.inl rfl⟩
  ·exact ⟨h1,.inr h2⟩
theorem RIX.next (R:RunOk G ops π l st) (I:RID B m0 h0 w0 ops π st listed a w) {i:Nat}{o:Oper}(ho:ops[i]?=some o) (hni:¬ Dn ops listed i) (hpre:∀ e ∈ o.after,Region.binds .any e=true->Dn ops listed e.on)
  {m m':List Pl}{hp':Nat}{k':AHeap}{x:Value}{w':World}(hle:hp'<=ops.size) (hloud:∀ (j:Nat) o',ops[j]?=some o'->Loud o'->(Dn ops (listed.setIfInBounds i true) j ↔ π.idxOf j<hp'))
  (hquiet:∀ (j:Nat) o',ops[j]?=some o'->isLight o'.op=false->isQuiet o'.op=true->Dn ops (listed.setIfInBounds i true) j->π.idxOf j<hp')
  (hnul:Nul (Nt ops π st (listed.setIfInBounds i true) hp') (st hp').h k') (hmark:∀ id,Nt ops π st (listed.setIfInBounds i true) hp' id->m'[id]?=some mark)
  (hslots:∀ t v,SlotIs ops π st (Dn ops listed) t v->t<(st 0).sl.length->∃ x,a.tmps[t]?=some x/\VR m v x) (he:∀ v y,VR m v y->VR m' v y) (hst:Step B m0 h0 w0 m' k' w')
  (hx:∀ t,o.dst=some t->t<(st 0).sl.length->VR m' ((st (π.idxOf i+1)).sl.getD t (.c .any)) x):RID B m0 h0 w0 ops π st (listed.setIfInBounds i true) (a.put o.dst x) w':=by
 have hi:i<ops.size:=getElem?_lt ho
 have hset:∀ j,Dn ops (listed.setIfInBounds i true) j ↔ j=i\/Dn ops listed j:=fun j=>Dn.set I.size hi
 refine { hB:=I.hB,def_:=by rw [put_defers];exact I.def_,size:=by simp [I.size],closed:=?_,len:=?_,low:=I.low,ex:=⟨m',hp',k',⟨hle,hloud,hquiet,hnul,hmark,hst,?_⟩⟩ }
 ·intro j o' ho' hj e he hb
  rw [hset] at hj
  rw [hset]
  rcases hj with rfl|hj
  ·rw [ho] at ho'
   cases ho'
   exact .inr (hpre e he hb)
  ·exact .inr (I.closed j o' ho' hj e he hb)
 ·rw [I.len]
  cases o.dst <;> simp [Act.put]
 ·intro t v hv hlt
  by_cases hd:o.dst=some t
  ·refine ⟨x,?_,?_⟩
   ·rw [hd]
    simp only [Act.put]
    rw [Array.getElem?_setIfInBounds]
    simp [<-I.len,hlt]
   ·have:v=(st (π.idxOf i+1)).sl.getD t (.c .any):=by
     rcases hv with ⟨j,o',hj,ho',hdst,rfl⟩ | ⟨hn,_⟩
     ·have:=R.ord.dst j i o' o t ho' ho hdst hd
      subst this
      rfl
     ·exact absurd hd (hn i o ((hset i).2 (.inl rfl)) ho)
    rw [this]
    exact hx t hd hlt
  ·obtain ⟨v',hv'⟩:=SlotIs.has (ops:=ops) (π:=π) (st:=st) (Dn ops listed) t
   have hvv:v=v':=SlotIs.agree R.ord (fun j o' ho' hdst=>by
    rw [hset]
    constructor
    ·rintro (rfl|h)
     ·rw [ho] at ho'
      cases ho'
      exact absurd hdst hd
     ·exact h
    ·exact .inr) hv hv'
   subst hvv
   obtain ⟨y,hy,hr⟩:=hslots t v hv' hlt
   refine ⟨y,?_,he _ _ hr⟩
   cases hdd:o.dst with
   | none=>exact hy
   | some d=>
    have hne:d ≠ t:=fun e=>hd (by rw [hdd,e])
    simp only [Act.put]
    rw [Array.getElem?_setIfInBounds_ne hne]
    exact hy
open Classical in
theorem RID.exec (hG:XOk G) (R:RunOk G ops π l st) (I:RID B m0 h0 w0 ops π st listed a w) {i:Nat}(hi:i ∈ Region.ready .any ops listed) (K:Act->World->Prop) (Q:Exit->Act->World->Prop)
  (hK:∀ a' w',RID B m0 h0 w0 ops π st (listed.setIfInBounds i true) a' w'->K a' w'):wpOp G.P ops Q i K a w:=by
 obtain ⟨hun,o,ho,hall⟩:=mem_ready.1 hi
 have hilt:i<ops.size:=getElem?_lt ho
 have hni:¬ Dn ops listed i:=by
  rintro ⟨_,hd⟩
  rw [Array.getD_eq_getD_getElem?] at hun hd
  cases hq:listed[i]? with
  | none=>rw [hq] at hd;cases hd
  | some b=>rw [hq] at hun hd;simp at hun hd;rw [hun] at hd;cases hd
 have hpre:∀ e ∈ o.after,Region.binds .any e=true->Dn ops listed e.on:=fun e he hb=>by
  have h1:=hall e he hb
  refine ⟨?_,h1⟩
  have hb':=R.ord.dir i o ho e he hb
  exact (R.ord.pos i hilt e.on hb').1
 have hbef:∀ j,before (predsOf ops.toList) j i=true->Dn ops listed j:=fun j hb=>by
  obtain ⟨o',ho',e,he,hbe,hor⟩:=R.ord.step i hilt j hb
  rw [ho] at ho'
  cases ho'
  rcases hor with rfl|hb'
  ·exact hpre e he hbe
  ·exact before_dn R.ord I.closed _ e.on j (Nat.lt_succ_self _) (hpre e he hbe) hb'
 have haft:∀ j,before (predsOf ops.toList) i j=true->¬ Dn ops listed j:=fun j hb hd=>hni (before_dn R.ord I.closed _ j i (Nat.lt_succ_self _) hd hb)
 obtain ⟨hplt,hpi⟩:=R.ord.at_ hilt
 have hposl:∀ j,before (predsOf ops.toList) j i=true->π.idxOf j<π.idxOf i:=fun j hb=>(R.ord.pos i hilt j hb).2
 have hposg:∀ j,j<ops.size->before (predsOf ops.toList) i j=true->π.idxOf i<π.idxOf j:=fun j hj hb=>(R.ord.pos j hj i hb).2
 obtain ⟨m_,hp_,k_,I0⟩:=I.ex
 obtain ⟨m,hp,k,IX,hmax⟩:=RIX.bump R (ops.size-hp_) hp_ m_ k_ (Nat.le_refl _) I0
 have hslots:=IX.slots
 have hst:=IX.step
 have hhp:=IX.le
 have hkl:=IX.nul.len
 have hlook:∀ t,t ∈ looksAt ops o->VR m ((st (π.idxOf i)).sl.getD t (.c .any)) (a.tmps.getD t undef)/\(t<a.tmps.size\/(st (π.idxOf i)).sl.getD t (.c .any)=.c .any):=by
  intro t ht
  rcases Nat.lt_or_ge t (st 0).sl.length with hlt|hge
  ·obtain ⟨v',hv'⟩:=SlotIs.has (ops:=ops) (π:=π) (st:=st) (Dn ops listed) t
   have hv:=R.slot (π.idxOf i) (Nat.le_of_lt hplt) t
   have hvv:=SlotIs.agree R.ord (fun j o' ho' hdst=>by
    by_cases hji:j=i
    ·subst hji
     constructor
     ·intro h;omega
     ·intro h;exact absurd h hni
    ·rcases R.ord.look i j o o' t (fun e=>hji e.symm) ho ho' hdst ht with hb|hb
     ·exact ⟨fun _=>hbef j hb,fun _=>hposl j hb⟩
     ·have:=hposg j (getElem?_lt ho') hb
      exact ⟨fun h=>by omega,fun h=>absurd h (haft j hb)⟩) hv hv'
   rw [hvv]
   obtain ⟨y,hy,hr⟩:=hslots t v' hv' hlt
   have hsz:t<a.tmps.size:=by rw [<-I.len];exact hlt
   refine ⟨?_,.inl hsz⟩
   rw [Array.getD_eq_getD_getElem?,hy]
   exact hr
  ·have:(st (π.idxOf i)).sl.getD t (.c .any)=.c .any:=by
    rw [List.getD_eq_getElem?_getD,List.getElem?_eq_none (by rw [R.len _ (Nat.le_of_lt hplt)];exact hge)]
    rfl
   rw [this]
   exact ⟨by simp [VR,CR],.inr rfl⟩
 have hops:OpsOk m (fun x=>if x ∈ o.op.operands then evs (st (π.idxOf i)).sl x else .c .any) a.eval:=by
  intro x
  show VR m (if x ∈ o.op.operands then evs (st (π.idxOf i)).sl x else .c .any) (a.eval x)
  by_cases hx:x ∈ o.op.operands
  ·rw [if_pos hx]
   cases x with
   | tmp t=>
    refine (hlook t ?_).1
    unfold looksAt
    refine List.mem_append.2 (.inl (List.mem_filterMap.2 ⟨.tmp t,Array.mem_toList_iff.2 hx,rfl⟩))
   | const v=>exact VR_ofConst m v
   | global g=>exact rfl
   | func f=>exact rfl
  ·rw [if_neg hx]
   simp [VR,CR]
 have hguard:∀ (g:Nat) (want:Bool) (t:Nat),o.guard=some (g,want)->(ops[g]?).bind (·.dst)=some t->t ∈ looksAt ops o:=by
  intro g want t hg ht
  unfold looksAt
  rw [hg]
  refine List.mem_append.2 (.inr ?_)
  simp [ht]
 have hset:∀ j,Dn ops (listed.setIfInBounds i true) j ↔ j=i\/Dn ops listed j:=fun j=>Dn.set I.size hilt
 have hqlog:∀ (q:Nat) oq,ops[q]?=some oq->isLight oq.op=false->isQuiet oq.op=true->∀ id,id=(st (π.idxOf q)).h.length->(st (π.idxOf q+1)).h.length=id+1->(q,id) ∈ l.quiets:=by
  intro q oq hoq hl hq id hid hlen
  obtain ⟨oq',hoq',_,_,h3,_⟩:=(R.stp _ q (R.ord.at_ (getElem?_lt hoq)).2).heap
  rw [hoq] at hoq'
  cases hoq'
  rcases h3 hl hq with h4 | ⟨h4,_⟩
  ·rw [h4] at hlen
   omega
  ·rw [hid]
   exact h4
 have hlogok:=R.log
 simp only [logOk,logOkP,Bool.and_eq_true] at hlogok
 obtain ⟨⟨hlog1,hlog2⟩,hlog3⟩:=hlogok
 have hfirst:∀ (j:Nat) oj,ops[j]?=some oj->Loud oj->π.idxOf j=hp->j ≠ i->before (predsOf ops.toList) j i=true->False:=by
  intro j oj hoj hl hj hji hb
  have:=(IX.loud j oj hoj hl).1 (hbef j hb)
  omega
 have hwhereQ:isLight o.op=false->isQuiet o.op=true->π.idxOf i<hp:=by
  intro hl hq
  rcases Nat.lt_or_ge (π.idxOf i) hp with h1|h1
  ·exact h1
  ·exfalso
   have hlt:hp<ops.size:=by omega
   obtain ⟨j,hjl,hj,hjp⟩:=R.ord.of_pos hlt
   have hoj:=Array.getElem?_eq_getElem hjl
   have hlj:=hmax j _ hj hoj
   have hji:j ≠ i:=by
    intro e
    subst e
    rw [ho] at hoj
    cases hoj
    rw [hlj.2] at hq
    cases hq
   have hne:π.idxOf j ≠ π.idxOf i:=by
    intro e
    have h2:=(R.ord.at_ hjl).2
    rw [e,hpi] at h2
    cases h2
    exact hji rfl
   exact hfirst j _ hoj hlj hjp hji (R.ord.quiet i j o _ ho hoj hq hlj (by omega))
 have hwhereL:Loud o->π.idxOf i=hp:=by
  intro hl
  have hge:hp<=π.idxOf i:=by
   rcases Nat.lt_or_ge (π.idxOf i) hp with h1|h1
   ·exact absurd ((IX.loud i o ho hl).2 h1) hni
   ·exact h1
  rcases Nat.lt_or_ge hp (π.idxOf i) with h1|h1
  ·exfalso
   have hlt:hp<ops.size:=by omega
   obtain ⟨j,hjl,hj,hjp⟩:=R.ord.of_pos hlt
   have hoj:=Array.getElem?_eq_getElem hjl
   have hlj:=hmax j _ hj hoj
   have hji:j ≠ i:=fun e=>by subst e;omega
   rcases R.ord.heavy i j o _ (fun e=>hji e.symm) ho hoj hl hlj with hb|hb
   ·have:=hposg j hjl hb
    omega
   ·exact hfirst j _ hoj hlj hjp hji hb
  ·omega
 have ntEq:(isLight o.op=true\/isQuiet o.op=false\/(st (π.idxOf i+1)).h=(st (π.idxOf i)).h)->∀ id,Nt ops π st (listed.setIfInBounds i true) hp id ↔ Nt ops π st listed hp id:=by
  intro hor id
  constructor
  ·rintro ⟨q,oq,h1,h2,h3,h4,h5,h6⟩
   exact ⟨q,oq,h1,h2,h3,h4,fun h=>h5 ((hset q).2 (.inr h)),h6⟩
  ·rintro ⟨q,oq,h1,h2,h3,h4,h5,h6,h7⟩
   refine ⟨q,oq,h1,h2,h3,h4,fun h=>?_,h6,h7⟩
   rcases (hset q).1 h with rfl|h
   ·rw [ho] at h1
    cases h1
    rcases hor with e|e|e
    ·rw [e] at h2;cases h2
    ·rw [e] at h3;cases h3
    ·rw [e] at h7;omega
   ·exact h5 h
 have ntUp:Loud o->∀ id,Nt ops π st (listed.setIfInBounds i true) (hp+1) id ↔ Nt ops π st listed hp id:=by
  intro hl id
  rw [<-ntEq (.inr (.inl hl.2)) id]
  constructor
  ·rintro ⟨q,oq,h1,h2,h3,h4,h5⟩
   refine ⟨q,oq,h1,h2,h3,?_,h5⟩
   rcases Nat.lt_or_ge (π.idxOf q) hp with h6|h6
   ·exact h6
   ·have h7:=(R.ord.at_ (getElem?_lt h1)).2
    rw [show π.idxOf q=π.idxOf i by rw [hwhereL hl];omega,hpi] at h7
    cases h7
    rw [ho] at h1
    cases h1
    rw [hl.2] at h3
    cases h3
  ·rintro ⟨q,oq,h1,h2,h3,h4,h5⟩
   exact ⟨q,oq,h1,h2,h3,by omega,h5⟩
 have loudSame:¬ Loud o->∀ (j:Nat) o',ops[j]?=some o'->Loud o'->(Dn ops (listed.setIfInBounds i true) j ↔ π.idxOf j<hp):=by
  intro hnl j o' ho' hl
  rw [hset,<-IX.loud j o' ho' hl]
  constructor
  ·rintro (rfl|h)
   ·rw [ho] at ho';cases ho';exact absurd hl hnl
   ·exact h
  ·exact .inr
 have loudUp:Loud o->∀ (j:Nat) o',ops[j]?=some o'->Loud o'->(Dn ops (listed.setIfInBounds i true) j ↔ π.idxOf j<hp+1):=by
  intro hlo j o' ho' hl
  rw [hset,IX.loud j o' ho' hl]
  constructor
  ·rintro (rfl|h)
   ·rw [hwhereL hlo];omega
   ·omega
  ·intro h
   rcases Nat.lt_or_ge (π.idxOf j) hp with h6|h6
   ·exact .inr h6
   ·left
    have h7:=(R.ord.at_ (getElem?_lt ho')).2
    rw [show π.idxOf j=π.idxOf i by rw [hwhereL hlo];omega,hpi] at h7
    cases h7
    rfl
 have quietUp:∀ hp',hp<=hp'->∀ (j:Nat) o',ops[j]?=some o'->isLight o'.op=false->isQuiet o'.op=true->Dn ops (listed.setIfInBounds i true) j->π.idxOf j<hp':=by
  intro hp' hle j o' ho' hl hq hd
  rcases (hset j).1 hd with rfl|h
  ·rw [ho] at ho'
   cases ho'
   have:=hwhereQ hl hq
   omega
  ·have:=IX.quiet j o' ho' hl hq h
   omega
 obtain ⟨o',ho',hstep⟩:=R.stp _ i hpi
 rw [ho] at ho'
 cases ho'
 unfold wpOp
 simp only [ho]
 have hlen1:(st (π.idxOf i)).sl.length=(st 0).sl.length:=R.len _ (Nat.le_of_lt hplt)
 rcases hstep with ⟨hyes,he,hlog⟩ | ⟨hno,hsk⟩
 ·
  have hw:Region.wanted o (yielded ops a.tmps)=true:=by
   unfold Yes at hyes
   cases hg:o.guard with
   | none=>simp [Region.wanted,hg]
   | some gw=>
    obtain ⟨g,want⟩:=gw
    rw [hg] at hyes
    obtain ⟨t,ht,hv⟩:=hyes
    obtain ⟨hr,hor⟩:=hlook t (hguard g want t hg ht)
    rw [hv] at hr hor
    have hlt:t<a.tmps.size:=by
     rcases hor with h|h
     ·exact h
     ·cases h
    have hr':a.tmps.getD t undef=.bool want:=hr
    have htm:a.tmps[t]?=some (.bool want):=by
     rw [Array.getD_eq_getD_getElem?,Array.getElem?_eq_getElem hlt] at hr'
     rw [Array.getElem?_eq_getElem hlt,<-hr']
     rfl
    simp [Region.wanted,hg,yielded,ht,htm]
  rw [if_pos hw]
  left
  rw [stepOp_def] at he
  split at he
  ·
   rename_i hlo
   have hnl:¬ Loud o:=fun h=>by rw [h.1] at hlo;cases hlo
   rw [Tr.eval_bind] at he
   cases h1:(alight G.toCtx o (evs (st (π.idxOf i)).sl) (st (π.idxOf i)).h).eval with
   | none=>simp [h1] at he
   | some v=>
    rw [h1] at he
    simp only [Option.bind_some,Tr.eval,Option.some.injEq] at he
    have hrl:=hlog.2.1 hlo
    have hin:∀ id,(id ∈ hardOf o (evs (st (π.idxOf i)).sl)\/id ∈ softOf o (evs (st (π.idxOf i)).sl))->id<(st (π.idxOf i)).h.length:=by
     intro id hid
     have:=hlog.1
     unfold readsIn at this
     have:=List.all_eq_true.1 this id (List.mem_append.2 hid)
     simpa using this
    have hnt:∀ id,(id ∈ hardOf o (evs (st (π.idxOf i)).sl)\/id ∈ softOf o (evs (st (π.idxOf i)).sl))->¬ Nt ops π st listed hp id:=by
     rintro id hid ⟨q,oq,q1,q2,q3,q4,q5,q6,q7⟩
     have hql:=hqlog q oq q1 q2 q3 id q6 q7
     have h2:=List.all_eq_true.1 (List.all_eq_true.1 hlog2 _ hrl) _ hql
     simp only [Bool.or_eq_true,Bool.and_eq_true,Bool.not_eq_true'] at h2
     rcases h2 with h2 | ⟨h2,h3⟩
     ·exact q5 (hbef q h2)
     ·rcases hid with hid|hid
      ·rw [show (hardOf o (evs (st (π.idxOf i)).sl)).contains id=true by simpa using hid] at h2
       cases h2
      ·rw [show (softOf o (evs (st (π.idxOf i)).sl)).contains id=true by simpa using hid] at h3
       cases h3
    have hdis:∀ (j:Nat) ws bs rc,(j,ws,bs,rc) ∈ l.louds->before (predsOf ops.toList) i j=false->before (predsOf ops.toList) j i=false →
      (∀ id ∈ hardOf o (evs (st (π.idxOf i)).sl),id ∉ ws)/\∀ id ∈ softOf o (evs (st (π.idxOf i)).sl),id ∉ bs:=by
     intro j ws bs rc hjw hb1 hb2
     have h3:=List.all_eq_true.1 (List.all_eq_true.1 hlog1 _ hrl) _ hjw
     simp only [hb1,hb2,Bool.false_or,Bool.and_eq_true] at h3
     refine ⟨fun id hid hmem=>?_,fun id hid hmem=>?_⟩
     ·have h4:=List.all_eq_true.1 h3.1 id hid
      rw [show ws.contains id=true by simpa using hmem] at h4
      cases h4
     ·have h4:=List.all_eq_true.1 h3.2 id hid
      rw [show bs.contains id=true by simpa using hmem] at h4
      cases h4
    have hunord:∀ (q j:Nat) oj,π[q]?=some j->q<ops.size->ops[j]?=some oj->Loud oj->(π.idxOf i<=q/\q<hp\/hp<=q/\q<π.idxOf i)->before (predsOf ops.toList) i j=false/\before (predsOf ops.toList) j i=false:=by
     intro q j oj hj hq hoj hlf hor
     have hqj:π.idxOf j=q:=R.ord.at_pos hq hj
     have hjn:j<ops.size:=getElem?_lt hoj
     constructor
     ·cases hb:before (predsOf ops.toList) i j with
      | false=>rfl
      | true=>
       have h5:=hposg j hjn hb
       rcases hor with ⟨h6,h7⟩ | ⟨h6,h7⟩
       ·exact absurd ((IX.loud j oj hoj hlf).2 (by omega)) (haft j hb)
       ·omega
     ·cases hb:before (predsOf ops.toList) j i with
      | false=>rfl
      | true=>
       have h5:=hposl j hb
       rcases hor with ⟨h6,h7⟩ | ⟨h6,h7⟩
       ·omega
       ·have:=(IX.loud j oj hoj hlf).1 (hbef j hb)
        omega
    have hidk:∀ id,(id ∈ hardOf o (evs (st (π.idxOf i)).sl)\/id ∈ softOf o (evs (st (π.idxOf i)).sl))->id<(st hp).h.length:=by
     intro id hid
     rw [<-hkl,<-hst.hr.len]
     have:∃ x ∈ o.op.operands,id ∈ refAV (evs (st (π.idxOf i)).sl x):=by
      rcases hid with hid|hid
      ·unfold hardOf at hid
       split at hid
       ·rename_i t x hop;exact ⟨x,by rw [hop];simp [Op.operands],hid⟩
       ·rename_i s d x hop;exact ⟨x,by rw [hop];simp [Op.operands],hid⟩
       ·cases hid
      ·unfold softOf at hid
       split at hid
       ·rename_i t x ix hop;exact ⟨x,by rw [hop];simp [Op.operands],hid⟩
       ·rename_i t x lo hi mx hop;exact ⟨x,by rw [hop];simp [Op.operands],hid⟩
       ·cases hid
     obtain ⟨x,hx,hidx⟩:=this
     have:=hops x
     simp only [if_pos hx] at this
     exact VR.refs this id hidx
    have hhard:∀ id ∈ hardOf o (evs (st (π.idxOf i)).sl),(st (π.idxOf i)).h.at id=k.at id:=by
     intro id hid
     rw [IX.nul.at_ (hnt id (.inl hid))]
     unfold AHeap.at
     congr 1
     rcases Nat.le_total (π.idxOf i) hp with hle|hle
     ·obtain ⟨d,hd⟩:=Nat.le.dest hle
      have:=R.keep (π.idxOf i) id (hin id (.inl hid)) d (by omega) fun q h1 h2 j oj hj hoj hl ws bs rc hjw=>by
       obtain ⟨b1,b2⟩:=hunord q j oj hj (by omega) hoj hl (.inl ⟨h1,by omega⟩)
       exact (hdis j ws bs rc hjw b1 b2).1 id hid
      rw [hd] at this
      exact this.symm
     ·obtain ⟨d,hd⟩:=Nat.le.dest hle
      have:=R.keep hp id (hidk id (.inl hid)) d (by omega) fun q h1 h2 j oj hj hoj hl ws bs rc hjw=>by
       obtain ⟨b1,b2⟩:=hunord q j oj hj (by omega) hoj hl (.inr ⟨h1,by omega⟩)
       exact (hdis j ws bs rc hjw b1 b2).1 id hid
      rw [hd] at this
      exact this
    have hsoft:∀ id ∈ softOf o (evs (st (π.idxOf i)).sl),shEq ((st (π.idxOf i)).h.at id) (k.at id)=true:=by
     intro id hid
     rw [IX.nul.at_ (hnt id (.inr hid))]
     rcases Nat.le_total (π.idxOf i) hp with hle|hle
     ·obtain ⟨d,hd⟩:=Nat.le.dest hle
      have:=R.soft (π.idxOf i) id (hin id (.inr hid)) d (by omega) fun q h1 h2 j oj hj hoj hl ws bs rc hjw=>by
       obtain ⟨b1,b2⟩:=hunord q j oj hj (by omega) hoj hl (.inl ⟨h1,by omega⟩)
       exact (hdis j ws bs rc hjw b1 b2).2 id hid
      rw [hd] at this
      exact this
     ·obtain ⟨d,hd⟩:=Nat.le.dest hle
      have:=R.soft hp id (hidk id (.inr hid)) d (by omega) fun q h1 h2 j oj hj hoj hl ws bs rc hjw=>by
       obtain ⟨b1,b2⟩:=hunord q j oj hj (by omega) hoj hl (.inr ⟨h1,by omega⟩)
       exact (hdis j ws bs rc hjw b1 b2).2 id hid
      rw [hd] at this
      exact shEq_symm this
    have hcong:=alight_congr (G:=G.toCtx) (o:=o) (ρ:=evs (st (π.idxOf i)).sl) (ρ2:=fun x=>if x ∈ o.op.operands then evs (st (π.idxOf i)).sl x else .c .any) (h:=(st (π.idxOf i)).h) (h':=k) (fun x hx=>by simp only [if_pos hx]) hhard hsoft
    rw [hcong] at h1
    obtain ⟨x,hr,hv⟩:=light_ok hG.g hG.f hops hst.hr h1
    unfold Oper.wp
    rw [hr]
    have hnt2:=ntEq (.inl hlo)
    refine hK _ _ (RIX.next R I ho hni hpre hhp (loudSame hnl) (quietUp hp (Nat.le_refl _)) ⟨IX.nul.len,fun id h=>IX.nul.off id ((hnt2 id).1 h),fun id h=>IX.nul.on id fun h'=>h ((hnt2 id).2 h')⟩ (fun id h=>IX.marks id ((hnt2 id).1 h)) hslots (fun _ _ h=>h) hst fun t ht hlt=>?_)
    rw [<-he,ht]
    simp only [putA,List.getD_eq_getElem?_getD]
    rw [List.getElem?_set_self (by rw [hlen1];exact hlt)]
    exact hv
  ·
   rename_i hlo
   have hlo':isLight o.op=false:=by simpa using hlo
   rw [Tr.eval_bind] at he
   cases h1:(aheavy G o (evs (st (π.idxOf i)).sl) (st (π.idxOf i)).h).eval with
   | none=>simp [h1] at he
   | some vh=>
    obtain ⟨v,h'⟩:=vh
    rw [h1] at he
    simp only [Option.bind_some,Tr.eval,Option.some.injEq] at he
    cases hq:isQuiet o.op with
    | true=>
     have hnl:¬ Loud o:=fun h=>by rw [h.2] at hq;cases hq
     have hpos:=hwhereQ hlo' hq
     rw [aheavy_congr (ρ2:=fun x=>if x ∈ o.op.operands then evs (st (π.idxOf i)).sl x else .c .any) (fun x hx=>by simp only [if_pos hx])] at h1
     obtain ⟨b,mk,hh',hvmk,hform,hrefs⟩:=quiet_form hq h1
     generalize hid:(st (π.idxOf i)).h.length=id at hvmk
     have hup:(st (π.idxOf i+1)).h=(st (π.idxOf i)).h++[some b]:=by rw [<-he,<-hh']
     have hupl:(st (π.idxOf i+1)).h.length=id+1:=by rw [hup];simp [hid]
     have hNt:Nt ops π st listed hp id:=⟨i,o,ho,hlo',hq,hpos,hni,hid.symm,hupl⟩
     have hNt':∀ id',Nt ops π st (listed.setIfInBounds i true) hp id' ↔ Nt ops π st listed hp id'/\id' ≠ id:=by
      intro id'
      constructor
      ·rintro ⟨q,oq,q1,q2,q3,q4,q5,q6,q7⟩
       have hqi:q ≠ i:=fun e=>q5 ((hset q).2 (.inl e))
       refine ⟨⟨q,oq,q1,q2,q3,q4,fun h=>q5 ((hset q).2 (.inr h)),q6,q7⟩,?_⟩
       have hne:π.idxOf q ≠ π.idxOf i:=by
        intro e
        have h2:=(R.ord.at_ (getElem?_lt q1)).2
        rw [e,hpi] at h2
        cases h2
        exact hqi rfl
       rcases Nat.lt_or_ge (π.idxOf q) (π.idxOf i) with h3|h3
       ·obtain ⟨d,hd⟩:=Nat.le.dest (show π.idxOf q+1<=π.idxOf i by omega)
        have:=R.mono (π.idxOf q+1) d (by omega)
        rw [hd] at this
        omega
       ·obtain ⟨d,hd⟩:=Nat.le.dest (show π.idxOf i+1<=π.idxOf q by omega)
        have:=R.mono (π.idxOf i+1) d (by omega)
        rw [hd] at this
        omega
      ·rintro ⟨⟨q,oq,q1,q2,q3,q4,q5,q6,q7⟩,hne⟩
       refine ⟨q,oq,q1,q2,q3,q4,fun h=>?_,q6,q7⟩
       rcases (hset q).1 h with rfl|h
       ·exact hne (by rw [q6,hid])
       ·exact q5 h
     have hlast:(st hp).h[id]?=some (some b):=by
      obtain ⟨d,hd⟩:=Nat.le.dest (show π.idxOf i+1<=hp by omega)
      have:=R.keep (π.idxOf i+1) id (by omega) d (by omega) fun q h1 h2 j oj hj hoj hl ws bs rc hjw=>by
       have hqj:π.idxOf j=q:=R.ord.at_pos (by omega) hj
       have h3:=List.all_eq_true.1 (List.all_eq_true.1 hlog3 _ hjw) _ (hqlog i o ho hlo' hq id hid.symm hupl)
       simp only [Bool.or_eq_true,Bool.and_eq_true,Bool.not_eq_true'] at h3
       intro hmem
       rcases h3 with h3|h3
       ·exact haft j h3 ((IX.loud j oj hoj hl).2 (by omega))
       ·rw [show ws.contains id=true by simpa using hmem] at h3
        cases h3.1
      rw [hd] at this
      rw [this,hup,<-hid]
      simp
     refine quiet_put hG hops hst.hr (Nat.le_trans I.hB hst.fr.size) (hform k) hrefs (IX.nul.off id hNt) (IX.marks id hNt) K Q fun p x w' hHR hExt hFr hOwn hv=>?_
     refine hK _ _ (RIX.next R I ho hni hpre hhp (loudSame hnl) (quietUp hp (Nat.le_refl _)) ⟨by simp [hkl],fun id' h=>?_,fun id' h=>?_⟩ (fun id' h=>?_) hslots (fun v y hvy=>VR.imp (fun c y h=>CR.extM hExt h) hvy) ⟨?_,hHR,hst.fr.trans hFr fun q hq=>hst.own q hq,fun q hq=>?_⟩ fun t ht hlt=>?_)
     ·obtain ⟨h2,h3⟩:=(hNt' id').1 h
      rw [List.getElem?_set_ne (fun e=>h3 e.symm)]
      exact IX.nul.off id' h2
     ·by_cases e:id'=id
      ·subst e
       rw [hlast,List.getElem?_set_self (by rw [hkl];exact (List.getElem?_eq_some_iff.1 hlast).1)]
      ·rw [List.getElem?_set_ne (fun e'=>e e'.symm)]
       exact IX.nul.on id' fun h'=>h ((hNt' id').2 ⟨h',e⟩)
     ·obtain ⟨h2,h3⟩:=(hNt' id').1 h
      rw [List.getElem?_set_ne (fun e=>h3 e.symm)]
      exact IX.marks id' h2
     ·intro q p' hp'
      have hlt:q<m0.length:=(List.getElem?_eq_some_iff.1 hp').1
      have hlow:=I.low
      have h0:=R.mono 0 (π.idxOf i) (by omega)
      rw [Nat.zero_add] at h0
      rw [List.getElem?_set_ne (by omega)]
      exact hst.ext q p' hp'
     ·rcases hOwn q hq with h2|h2
      ·exact hst.own q h2
      ·exact .inr (Nat.le_trans hst.fr.size h2)
     ·rw [<-he,ht]
      simp only [putA,List.getD_eq_getElem?_getD]
      rw [List.getElem?_set_self (by rw [hlen1];exact hlt),hvmk]
      exact hv
    | false=>
     have hl:Loud o:=⟨hlo',hq⟩
     have hpe:=hwhereL hl
     have hnt:∀ id ∈ reachOf o (evs (st (π.idxOf i)).sl) (st (π.idxOf i)).h,¬ Nt ops π st listed hp id:=by
      rintro id hid ⟨q,oq,q1,q2,q3,q4,q5,q6,q7⟩
      have hql:=hqlog q oq q1 q2 q3 id q6 q7
      obtain ⟨_,_,hlg⟩:=hlog.2.2.2 hl
      have h2:=List.all_eq_true.1 (List.all_eq_true.1 hlog3 _ hlg) _ hql
      simp only [Bool.or_eq_true,Bool.and_eq_true,Bool.not_eq_true'] at h2
      rcases h2 with h2 | ⟨_,h2⟩
      ·exact q5 (hbef q h2)
      ·rw [show (reachOf o (evs (st (π.idxOf i)).sl) (st (π.idxOf i)).h).contains id=true by simpa using hid] at h2
       cases h2
     have hN:Nul (Nt ops π st listed hp) (st (π.idxOf i)).h k:=by rw [hpe];exact IX.nul
     obtain ⟨k',h2,hN'⟩:=aheavy_nul hN hq hnt h1
     rw [aheavy_congr (ρ2:=fun x=>if x ∈ o.op.operands then evs (st (π.idxOf i)).sl x else .c .any) (fun x hx=>by simp only [if_pos hx])] at h2
     have hh':(st (hp+1)).h=h':=by rw [<-hpe,<-he]
     have hnu:=ntUp hl
     refine heavy_ok hG hops hst.hr (Nat.le_trans I.hB hst.fr.size) h2 K Q fun m' x w' hst' hv=>?_
     refine hK _ _ (RIX.next R I ho hni hpre (hp':=hp+1) (by omega) (loudUp hl) (quietUp (hp+1) (Nat.le_succ _)) ⟨by rw [hh'];exact hN'.len,fun id h=>hN'.off id ((hnu id).1 h),fun id h=>by rw [hh'];exact hN'.on id fun h'=>h ((hnu id).2 h')⟩
      (fun id h=>hst'.ext _ _ (IX.marks id ((hnu id).1 h))) hslots (fun _ _ h=>VR.ext hst'.ext h) (hst.trans hst') fun t ht hlt=>?_)
     rw [<-he,ht]
     simp only [putA,List.getD_eq_getElem?_getD]
     rw [List.getElem?_set_self (by rw [hlen1];exact hlt)]
     exact hv
 ·
  have hw:Region.wanted o (yielded ops a.tmps)=false:=by
   unfold No at hno
   cases hg:o.guard with
   | none=>rw [hg] at hno;cases hno
   | some gw=>
    obtain ⟨g,want⟩:=gw
    rw [hg] at hno
    obtain ⟨t,ht,hv⟩:=hno
    obtain ⟨hr,hor⟩:=hlook t (hguard g want t hg ht)
    have hlt:t<a.tmps.size:=by
     rcases hor with h|h
     ·exact h
     ·rcases hv with hv | ⟨vs,hv⟩ <;> rw [hv] at h <;> cases h
    have hex:∀ y,a.tmps.getD t undef=y->a.tmps[t]?=some y:=fun y hy=>by
     rw [Array.getD_eq_getD_getElem?,Array.getElem?_eq_getElem hlt] at hy
     rw [Array.getElem?_eq_getElem hlt,<-hy]
     rfl
    rcases hv with hv | ⟨vs,hv⟩
    ·rw [hv] at hr
     have htm:=hex _ (show a.tmps.getD t undef=.bool (!want) from hr)
     simp only [Region.wanted,hg,yielded,ht,htm,Option.bind_some]
     cases want <;> rfl
    ·rw [hv] at hr
     have htm:=hex _ (show a.tmps.getD t undef=.tuple vs from hr)
     simp only [Region.wanted,hg,yielded,ht,htm,Option.bind_some]
     rfl
  rw [if_neg (by rw [hw];simp)]
  have hsame:(st (π.idxOf i+1)).h=(st (π.idxOf i)).h:=by rw [hsk];rfl
  have hres:∀ t,o.dst=some t->t<(st 0).sl.length->VR m ((st (π.idxOf i+1)).sl.getD t (.c .any)) undef:=by
   intro t ht hlt
   rw [hsk]
   simp only [skipOp,ht,putA,List.getD_eq_getElem?_getD]
   rw [List.getElem?_set_self (by rw [hlen1];exact hlt)]
   exact (rfl:CR m (.v undef) undef)
  by_cases hl:Loud o
  ·have hpe:=hwhereL hl
   have hnu:=ntUp hl
   have hh':(st (hp+1)).h=(st hp).h:=by rw [<-hpe];exact hsame
   exact hK _ _ (RIX.next R I ho hni hpre (hp':=hp+1) (by omega) (loudUp hl) (quietUp (hp+1) (Nat.le_succ _)) ⟨by rw [hh'];exact IX.nul.len,fun id h=>IX.nul.off id ((hnu id).1 h),fun id h=>by rw [hh'];exact IX.nul.on id fun h'=>h ((hnu id).2 h')⟩
    (fun id h=>IX.marks id ((hnu id).1 h)) hslots (fun _ _ h=>h) hst hres)
  ·have hnt2:=ntEq (.inr (.inr hsame))
   exact hK _ _ (RIX.next R I ho hni hpre hhp (loudSame hl) (quietUp hp (Nat.le_refl _)) ⟨IX.nul.len,fun id h=>IX.nul.off id ((hnt2 id).1 h),fun id h=>IX.nul.on id fun h'=>h ((hnt2 id).2 h')⟩ (fun id h=>IX.marks id ((hnt2 id).1 h)) hslots (fun _ _ h=>h) hst hres)
end
end
section
open Go Go.RowKit
section
variable {G:Ctx2}{ops:Array Oper}{π:List Nat}{l:Log}{st:Nat->St}{m m0:List Pl}{h0:AHeap}{w w0:World}{B:Nat}{a:Act}{listed:Array Bool}
theorem all_dn (R:RunOk G ops π l st) (hsz:listed.size=ops.size) (hr:Region.ready .any ops listed=[]):∀ (k i:Nat),π.idxOf i<k->i<ops.size->Dn ops listed i
 | 0,i,hk,_=>by omega
 | k+1,i,hk,hi=>by
  by_cases hd:Dn ops listed i
  ·exact hd
  ·exfalso
   have ho:=Array.getElem?_eq_getElem hi
   have hm:i ∈ Region.ready .any ops listed:=by
    refine mem_ready.2 ⟨?_,_,ho,fun e he hb=>?_⟩
    ·have hl:i<listed.size:=by omega
     have hn:¬ listed.getD i false=true:=fun e=>hd ⟨hi,e⟩
     rw [Array.getD_eq_getD_getElem?,Array.getElem?_eq_getElem hl] at hn ⊢
     simpa using hn
    ·have hb':=R.ord.dir i _ ho e he hb
     obtain ⟨h1,h2⟩:=R.ord.pos i hi e.on hb'
     exact (all_dn R hsz hr k e.on (by omega) h1).2
   rw [hr] at hm
   cases hm
theorem RID.done (R:RunOk G ops π l st) (I:RID B m0 h0 w0 ops π st listed a w) (hr:Region.ready .any ops listed=[]):RI B m0 h0 w0 (st ops.size) a w:=by
 have hall:∀ i,i<ops.size->Dn ops listed i:=fun i hi=>all_dn R I.size hr _ i (Nat.lt_succ_self _) hi
 obtain ⟨m_,hp_,k_,I0⟩:=I.ex
 obtain ⟨m,hp,k,IX,hmax⟩:=RIX.bump R (ops.size-hp_) hp_ m_ k_ (Nat.le_refl _) I0
 have hend:hp=ops.size:=by
  rcases Nat.lt_or_ge hp ops.size with hlt|hge
  ·exfalso
   obtain ⟨j,hjl,hj,hjp⟩:=R.ord.of_pos hlt
   have hoj:=Array.getElem?_eq_getElem hjl
   have:=(IX.loud j _ hoj (hmax j _ hj hoj)).1 (hall j hjl)
   omega
  ·exact Nat.le_antisymm IX.le hge
 have hh:(st ops.size).h=k:=by
  apply List.ext_getElem?
  intro id
  rw [<-hend]
  refine (IX.nul.on id ?_).symm
  rintro ⟨q,oq,q1,_,_,_,q5,_⟩
  exact q5 (hall q (getElem?_lt q1))
 refine ⟨I.hB,⟨m,by rw [hh];exact IX.step,?_,?_⟩,I.def_⟩
 ·rw [R.len _ (Nat.le_refl _),I.len]
 ·intro t v hv
  have hlt:t<(st 0).sl.length:=by
   rw [<-R.len _ (Nat.le_refl _)]
   exact (List.getElem?_eq_some_iff.1 hv).1
  refine IX.slots t v ?_ hlt
  have h1:=R.slot ops.size (Nat.le_refl _) t
  rw [List.getD_eq_getElem?_getD,hv] at h1
  simp only [Option.getD_some] at h1
  rcases h1 with ⟨j,o,_,ho,hd,e⟩ | ⟨hn,e⟩
  ·exact .inl ⟨j,o,hall j (getElem?_lt ho),ho,hd,e⟩
  ·exact .inr ⟨fun j o _ ho=>hn j o (R.ord.at_ (getElem?_lt ho)).1 ho,e⟩
def openL (n:Nat) (listed:Array Bool):List Nat:=(List.range n).filter fun i=>!listed.getD i false
theorem openL_set {n i:Nat}(hs:listed.size=n) (hi:i<n) (hu:listed.getD i false=false):(openL n (listed.setIfInBounds i true)).length<(openL n listed).length:=by
 have e:openL n (listed.setIfInBounds i true)=(openL n listed).filter fun j=>j != i:=by
  unfold openL
  rw [List.filter_filter]
  apply List.filter_congr
  intro j hj
  have hil:i<listed.size:=by omega
  have:=getD_set (listed:=listed) (i:=i) (j:=j) hil
  by_cases hji:j=i
  ·subst hji
   simp [this,hil]
  cases h1:(listed.setIfInBounds i true).getD j false <;> cases h2:listed.getD j false <;> simp [h1,h2,hji] at this ⊢
 rw [e]
 refine List.length_filter_lt_length_iff_exists.2 ⟨i,List.mem_filter.2 ⟨List.mem_range.2 hi,by rw [hu];rfl⟩,by simp⟩
theorem any_ok (hG:XOk G) (R:RunOk G ops π l st) (Q:Exit->Act->World->Prop) (hQ:∀ a' w',RI B m0 h0 w0 (st ops.size) a' w'->Q .normal a' w') :
  ∀ (fuel:Nat) (listed:Array Bool) (a:Act) (w:World),RID B m0 h0 w0 ops π st listed a w->(openL ops.size listed).length<=fuel->wpAny G.P .any ops Q fuel listed a w
 | 0,listed,a,w,I,hf=>by
  have hr:Region.ready .any ops listed=[]:=by
   apply List.eq_nil_iff_forall_not_mem.2
   intro i hi
   obtain ⟨hun,o,ho,_⟩:=mem_ready.1 hi
   have hilt:i<ops.size:=getElem?_lt ho
   have:i ∈ openL ops.size listed:=List.mem_filter.2 ⟨List.mem_range.2 hilt,by
    have hl:i<listed.size:=by rw [I.size];exact hilt
    rw [Array.getD_eq_getD_getElem?,Array.getElem?_eq_getElem hl] at hun ⊢
    simpa using hun⟩
   rw [List.eq_nil_of_length_eq_zero (Nat.le_zero.1 hf)] at this
   cases this
  exact ⟨hr,hQ _ _ (I.done R hr)⟩
 | fuel+1,listed,a,w,I,hf=>by
  refine ⟨fun hr=>hQ _ _ (I.done R hr),fun i hi=>?_⟩
  refine RID.exec hG R I hi _ Q fun a' w' I'=>any_ok hG R Q hQ fuel _ a' w' I' ?_
  obtain ⟨hun,o,ho,_⟩:=mem_ready.1 hi
  have hilt:i<ops.size:=getElem?_lt ho
  have hl:i<listed.size:=by rw [I.size];exact hilt
  have hu:listed.getD i false=false:=by
   rw [Array.getD_eq_getD_getElem?,Array.getElem?_eq_getElem hl] at hun ⊢
   simpa using hun
  have:=openL_set I.size hilt hu
  omega
theorem regDraw_ok {S S':St}{id:Nat}(hG:XOk G) (hI:RI B m0 h0 w0 S a w) (he:(regDraw G ops S).eval=some S') (Q:Exit->Act->World->Prop) (hQ:∀ a' w',RI B m0 h0 w0 S' a' w'->Q .normal a' w'):(Code.region id ops true).wp G.P Q a w:=by
 rw [regDraw_def] at he
 split at he
 ·rename_i hord
  rw [Tr.eval_bind] at he
  cases h1:(regRun G ops (eager ops) S ⟨[],[],[]⟩).eval with
  | none=>simp [h1] at he
  | some r=>
   obtain ⟨S1,l⟩:=r
   rw [h1] at he
   simp only [Option.bind_some] at he
   split at he
   ·rename_i hlog
    simp only [Tr.eval,Option.some.injEq] at he
    subst he
    have ho:=orderOk_ok hord
    obtain ⟨st,e0,en,hst⟩:=(regRun_ok _ _ _ _ _ h1).2.states
    rw [ho.len] at en
    have R:RunOk G ops (eager ops) l st:=⟨ho,hst,hlog⟩
    refine wp_region_any hG.mixed ?_
    obtain ⟨m,hst0,hsl⟩:=hI.ex
    have hnone:∀ j,¬ Dn ops (Array.replicate ops.size false) j:=by
     rintro j ⟨hj,hd⟩
     rw [Array.getD_eq_getD_getElem?,Array.getElem?_replicate] at hd
     simp [hj] at hd
    have hst1:Step B m h0 w0 m h0 w0->True:=fun _=>trivial
    refine any_ok hG R Q (fun a' w' h=>hQ a' w' (by rw [<-en];exact h)) ops.size _ _ _ (?_:RID B m0 h0 w0 ops (eager ops) st _ a { w with drawn:=w.drawn+1 }) ?_
    ·have hnt:∀ id,¬ Nt ops (eager ops) st (Array.replicate ops.size false) 0 id:=fun id ⟨q,_,_,_,_,h,_⟩=>absurd h (Nat.not_lt_zero _)
     refine { hB:=hI.hB,def_:=hI.def_,size:=by simp,closed:=fun j o _ hd=>absurd hd (hnone j),len:=by rw [e0];exact hsl.1,low:=?_,ex:=⟨m,0,S.h,⟨Nat.zero_le _,fun j o _ _=>⟨fun h=>absurd h (hnone j),fun h=>by omega⟩,fun j o _ _ _ h=>absurd h (hnone j),⟨by rw [e0],fun id h=>absurd h (hnt id),fun id _=>by rw [e0]⟩,fun id h=>absurd h (hnt id),?_,?_⟩⟩ }
     ·rw [e0,<-hst0.hr.len]
      rcases Nat.eq_zero_or_pos m0.length with hz|hz
      ·omega
      ·have hlt:m0.length-1<m0.length:=by omega
       have:=(List.getElem?_eq_some_iff.1 (hst0.ext _ _ (List.getElem?_eq_getElem hlt))).1
       omega
     ·exact ⟨hst0.ext,hst0.hr.keep fun k _=>rfl,hst0.fr.trans (Fr.drew _ w) fun i hi=>.inl hi,fun k hk=>hst0.own k hk⟩
     ·intro t v hv hlt
      rcases hv with ⟨j,o,hj,_⟩ | ⟨_,rfl⟩
      ·exact absurd hj (hnone j)
      ·rw [e0] at hlt ⊢
       rw [List.getD_eq_getElem?_getD,List.getElem?_eq_getElem hlt]
       exact hsl.2 t _ (List.getElem?_eq_getElem hlt)
    ·unfold openL
     refine Nat.le_trans (List.length_filter_le _ _) ?_
     simp
   ·cases he
 ·cases he
end
end
section
open Go Go.RowKit
theorem renAVs_get (g:Nat->Option Nat):∀ (l:List AV) (t:Nat),(renAVs g l)[t]?=(l[t]?).map (renAV g)
 | [],t=>by simp [renAVs]
 | x::l,0=>by simp [renAVs]
 | x::l,t+1=>by simp [renAVs,renAVs_get g l t]
theorem renAVs_len (g:Nat->Option Nat):∀ (l:List AV),(renAVs g l).length=l.length
 | []=>rfl
 | x::l=>by simp [renAVs,renAVs_len g l]
section
variable {G:Ctx2}{S S':St}{m m0:List Pl}{h h0 h':AHeap}{w w0:World}{B:Nat}{a:Act}{v:AV}
theorem SlOk.set {sl:List AV}{tmps:Array Value}(hs:SlOk m sl tmps) {t:Nat}{x:AV}(hx:VR m x (tmps.getD t undef)):SlOk m (sl.set t x) tmps:=by
 refine ⟨by simp [hs.1],fun u v hu=>?_⟩
 by_cases e:u=t
 ·subst e
  have hlt:u<sl.length:=by simpa using (List.getElem?_eq_some_iff.1 hu).1
  rw [List.getElem?_set_self hlt] at hu
  cases hu
  have hlt':u<tmps.size:=by rw [<-hs.1];exact hlt
  refine ⟨tmps.getD u undef,?_,hx⟩
  rw [Array.getD_eq_getD_getElem?,Array.getElem?_eq_getElem hlt']
  rfl
 ·rw [List.getElem?_set_ne (fun e'=>e e'.symm)] at hu
  exact hs.2 u v hu
theorem Step.ghost (H:HR B m h w) (t:TypeId) {c:Cont}(hn:c.n=0):Step B m h w (m++[⟨none,0,c.sz⟩]) (h++[some ⟨t,true,c⟩]) w:=by
 refine ⟨Ext.app _ _,H.push ?_ (fun _ _ _ _ _ _ _ _ _ h=>nomatch h),Fr.refl _ _,?_⟩
 ·exact { sz:=rfl,len:=fun i hi=>by rw [hn] at hi;omega,cap:=by rw [hn];exact Nat.le_refl _,cell:=fun i j a hi=>by rw [hn] at hi;omega,own:=fun _=>And.intro (fun _=>rfl) (fun A h=>nomatch h),came:=fun e=>nomatch e }
 ·intro q hq
  rcases Own.push H.len hq with hq | ⟨A,hA,_⟩
  ·exact .inl hq
  ·cases hA
theorem keepSl_ok {T:List TI}{tmps:Array Value}:∀ (k:List (Nat × Option TypeId)) (sl:List AV) (h:AHeap),SlOk m sl tmps->HR B m h w →
  ∃ m',Step B m h w m' (keepSl T k sl h).2 w/\SlOk m' (keepSl T k sl h).1 tmps
 | [],sl,h,hs,H=>⟨m,Step.refl H,by simp [keepSl,hs.1],fun t v ht=>by
   simp only [keepSl,List.getElem?_map,Option.map_eq_some_iff] at ht
   obtain ⟨u,hu,rfl⟩:=ht
   obtain ⟨x,hx,_⟩:=hs.2 t u hu
   exact ⟨x,hx,by simp [VR,CR]⟩⟩
 | (t,e)::rest,sl,h,hs,H=>by
  obtain ⟨m1,hst,hs1⟩:=keepSl_ok (T:=T) rest sl h hs H
  have hx:VR m1 (sl.getD t (.c .any)) (tmps.getD t undef):=VR.ext hst.ext (hs.getD t)
  simp only [keepSl]
  split
  ·rename_i e' heq
   rw [heq] at hx
   split
   ·rename_i ti hti
    generalize hc:(if ti.flat then Cont.row ti.size 0 fun _=>ti.zero else Cont.lst ti.size [] (ofCells ti.zero))=c
    have hn:c.n=0:=by rw [<-hc];split <;> rfl
    have hg:=Step.ghost hst.hr e' hn
    refine ⟨_,hst.trans hg,(hs1.ext hg.ext).set ?_⟩
    have hxv:tmps.getD t undef=.slice none 0 0:=hx
    rw [hxv]
    refine ⟨⟨none,0,c.sz⟩,none,0,?_,rfl,⟨Nat.le_refl _,fun _=>rfl⟩,fun _=>⟨rfl,rfl⟩,fun h=>by omega⟩
    rw [<-hst.hr.len]
    simp
   ·exact ⟨m1,hst,hs1⟩
  ·exact ⟨m1,hst,hs1.set hx⟩
theorem Step.sub {mf:List Pl}{hf:AHeap}{w':World}(hst:Step B m0 h0 w0 mf hf w') (H0:m0.length=h0.length) {todo:List Nat}{f:Nat} :
  Step B m0 h0 w0 (subPl mf (closeOf hf f todo (List.range h0.length))) (subHeap hf (closeOf hf f todo (List.range h0.length))) w':=by
 obtain ⟨l,e,hd,hb⟩:=closeOf_ok hf f todo (List.range h0.length)
 rw [e]
 have hle:h0.length<=hf.length:=by
  rw [<-H0,<-hst.hr.len]
  rcases Nat.eq_zero_or_pos m0.length with h0'|h0'
  ·omega
  ·have hlt:m0.length-1<m0.length:=by omega
   have:=hst.ext _ _ (List.getElem?_eq_getElem hlt)
   have:=(List.getElem?_eq_some_iff.1 this).1
   omega
 have hlt:∀ x ∈ List.range h0.length++l,x<hf.length:=by
  intro x hx
  rcases List.mem_append.1 hx with hx|hx
  ·have:=List.mem_range.1 hx;omega
  ·exact hb x hx
 have hnd:=hd List.nodup_range
 refine ⟨?_,hst.hr.sub hnd hlt,hst.fr,fun k hk=>hst.own k (Own.sub hst.hr hlt hk)⟩
 intro id p hp
 have hid:id<h0.length:=by rw [<-H0];exact (List.getElem?_eq_some_iff.1 hp).1
 exact subPl_get (by rw [List.getElem?_append_left (by simpa using hid),List.getElem?_range hid]) (hst.ext id p hp)
theorem canon_ok {T:List TI}{k:List (Nat × Option TypeId)}(H0:m0.length=h0.length) (hI:RI B m0 h0 w0 S a w):RI B m0 h0 w0 (canon T h0.length k S) a w:=by
 obtain ⟨hB,⟨m,hst,hs⟩,hd⟩:=hI
 obtain ⟨m1,hst1,hs1⟩:=keepSl_ok (T:=T) k S.sl S.h hs hst.hr
 have hst2:=hst.trans hst1
 refine ⟨hB,⟨_,hst2.sub H0,?_⟩,hd⟩
 refine ⟨by simp [canon,renAVs_len,hs1.1],fun t v ht=>?_⟩
 simp only [canon,renAVs_get,Option.map_eq_some_iff] at ht
 obtain ⟨u,hu,rfl⟩:=ht
 obtain ⟨x,hx,hr⟩:=hs1.2 t u hu
 exact ⟨x,hx,VR.ren (subPl_ren _) hr⟩
def toExit:Ex->Exit
 | .normal=>.normal
 | .exit id=>.exit id
 | .ret=>.ret
theorem iter_ok {P:Program}{c:Code}{n0:Nat}{T:List TI}{k:List (Nat × Option TypeId)}{f:St->Tr (Ex × St)}(H0:m0.length=h0.length) (hn:n0=h0.length)
  (hf:∀ S e S' a w,RI B m0 h0 w0 S a w->(f S).eval=some (e,S')->∀ Q,(∀ a' w',RI B m0 h0 w0 S' a' w'->Q (toExit e) a' w')->c.wp P Q a w) :
  ∀ (n:Nat) S e S' a w,RI B m0 h0 w0 S a w->(iter f (canon T n0 k) n S).eval=some (e,S')->∀ Q,(∀ a' w',RI B m0 h0 w0 S' a' w'->Q (toExit e) a' w')->Code.rounds P c Q n a w
 | 0,S,e,S',a,w,_,he,_,_=>by simp [iter,Tr.eval] at he
 | n+1,S,e,S',a,w,hI,he,Q,hQ=>by
  simp only [iter,Tr.eval_bind] at he
  cases h1:(f S).eval with
  | none=>simp [h1] at he
  | some r=>
   obtain ⟨e1,S1⟩:=r
   rw [h1] at he
   simp only [Option.bind_some] at he
   rw [rounds_succ]
   refine hf S e1 S1 a w hI h1 _ ?_
   intro a' w' hI'
   cases e1 with
   | normal=>
    simp only at he
    show Code.rounds P c Q n a' w'
    subst hn
    exact iter_ok H0 rfl hf n _ e S' a' w' (canon_ok H0 hI') he Q hQ
   | exit id=>
    simp only [Tr.eval,Option.some.injEq,Prod.mk.injEq] at he
    obtain ⟨rfl,rfl⟩:=he
    exact hQ a' w' hI'
   | ret=>
    simp only [Tr.eval,Option.some.injEq,Prod.mk.injEq] at he
    obtain ⟨rfl,rfl⟩:=he
    exact hQ a' w' hI'
theorem arun_ok (hG:XOk G) (H0:m0.length=h0.length):∀ (d:Nat) (c:Code) (S:St) (e:Ex) (S':St) (a:Act) (w:World),RI B m0 h0 w0 S a w->(arun G h0.length d c S).eval=some (e,S') →
  ∀ Q,(∀ a' w',RI B m0 h0 w0 S' a' w'->Q (toExit e) a' w')->c.wp G.P Q a w
 | 0,c,S,e,S',a,w,_,he,_,_=>by simp [arun,Tr.eval] at he
 | d+1,c,S,e,S',a,w,hI,he,Q,hQ=>by
  have ih:=arun_ok hG H0 d
  cases c with
  | skip=>
   simp only [arun,Tr.eval,Option.some.injEq,Prod.mk.injEq] at he
   obtain ⟨rfl,rfl⟩:=he
   exact wp_skip (hQ a w hI)
  | region id ops draw=>
   simp only [arun,Tr.eval_bind] at he
   cases draw with
   | false=>
    simp only [Bool.false_eq_true,if_false] at he
    cases h1:(regSeq G ops ops.toList S).eval with
    | none=>simp [h1] at he
    | some S1=>
     rw [h1] at he
     simp only [Option.bind_some,Tr.eval,Option.some.injEq,Prod.mk.injEq] at he
     obtain ⟨rfl,rfl⟩:=he
     exact wp_region_list (regSeq_ok hG ops.toList S a w hI h1 hQ)
   | true=>
    simp only [if_true] at he
    cases h1:(regDraw G ops S).eval with
    | none=>simp [h1] at he
    | some S1=>
     rw [h1] at he
     simp only [Option.bind_some,Tr.eval,Option.some.injEq,Prod.mk.injEq] at he
     obtain ⟨rfl,rfl⟩:=he
     exact regDraw_ok hG hI h1 Q hQ
  | seq x y=>
   simp only [arun,Tr.eval_bind] at he
   cases h1:(arun G h0.length d x S).eval with
   | none=>simp [h1] at he
   | some r=>
    obtain ⟨e1,S1⟩:=r
    rw [h1] at he
    simp only [Option.bind_some] at he
    refine wp_seq (ih x S e1 S1 a w hI h1 _ ?_)
    intro a' w' hI'
    cases e1 with
    | normal=>exact ih y S1 e S' a' w' hI' he Q hQ
    | exit id=>
     simp only [Tr.eval,Option.some.injEq,Prod.mk.injEq] at he
     obtain ⟨rfl,rfl⟩:=he
     exact hQ a' w' hI'
    | ret=>
     simp only [Tr.eval,Option.some.injEq,Prod.mk.injEq] at he
     obtain ⟨rfl,rfl⟩:=he
     exact hQ a' w' hI'
  | cond c x y=>
   simp only [arun] at he
   split at he
   ·rename_i t
    split at he
    ·rename_i b hb
     rw [Tr.eval_ite] at he
     have hbv:=hI.bool hb
     have hev:a.eval (.tmp t)=.bool b:=by
      simp [Act.eval,Array.getD_eq_getD_getElem?,hbv]
     cases b with
     | true=>
      rw [if_pos rfl] at he
      exact wp_cond_true hev (ih x _ e S' a w (hI.lit hb) he Q hQ)
     | false=>
      rw [if_neg (by simp)] at he
      exact wp_cond_false hev (ih y _ e S' a w (hI.lit hb) he Q hQ)
    ·cases he
   ·cases he
  | block id x=>
   simp only [arun,Tr.eval_bind] at he
   cases h1:(arun G h0.length d x S).eval with
   | none=>simp [h1] at he
   | some r=>
    obtain ⟨e1,S1⟩:=r
    rw [h1] at he
    simp only [Option.bind_some] at he
    refine wp_block (ih x S e1 S1 a w hI h1 _ ?_)
    intro a' w' hI'
    cases e1 with
    | normal=>
     simp only [Tr.eval,Option.some.injEq,Prod.mk.injEq] at he
     obtain ⟨rfl,rfl⟩:=he
     exact hQ a' w' hI'
    | exit k=>
     simp only at he
     split at he
     ·rename_i hk
      simp only [Tr.eval,Option.some.injEq,Prod.mk.injEq] at he
      obtain ⟨rfl,rfl⟩:=he
      show (if k=id then Q .normal a' w' else Q (.exit k) a' w')
      rw [if_pos hk]
      exact hQ a' w' hI'
     ·rename_i hk
      simp only [Tr.eval,Option.some.injEq,Prod.mk.injEq] at he
      obtain ⟨rfl,rfl⟩:=he
      show (if k=id then Q .normal a' w' else Q (.exit k) a' w')
      rw [if_neg hk]
      exact hQ a' w' hI'
    | ret=>
     simp only [Tr.eval,Option.some.injEq,Prod.mk.injEq] at he
     obtain ⟨rfl,rfl⟩:=he
     exact hQ a' w' hI'
  | loop x=>
   simp only [arun] at he
   refine wp_loop_rounds G.L (iter_ok H0 rfl (fun S e S' a w hI he Q hQ=>ih x S e S' a w hI he Q hQ) G.L _ e S' a w (canon_ok H0 hI) he Q hQ)
  | exit id=>
   simp only [arun,Tr.eval,Option.some.injEq,Prod.mk.injEq] at he
   obtain ⟨rfl,rfl⟩:=he
   exact wp_exit (hQ a w hI)
  | ret=>
   simp only [arun,Tr.eval,Option.some.injEq,Prod.mk.injEq] at he
   obtain ⟨rfl,rfl⟩:=he
   exact wp_ret (hQ a w hI)
  | rangeFunc _ _ _ _=>simp [arun,Tr.eval] at he
  | scope _=>simp [arun,Tr.eval] at he
  | label _=>simp [arun,Tr.eval] at he
  | goto _=>simp [arun,Tr.eval] at he
  | refuse _=>simp [arun,Tr.eval] at he
def resRun (tmps:Array Value):ResultVar->Sem Value
 | .tmp t=>pure (tmps.getD t undef)
 | .cell a t=>do loadVar t (<-asAddr (tmps.getD a undef))
theorem results_eq (fn:Func) (tmps:Array Value):results fn tmps=(do let vs <-fn.results.mapM (resRun tmps);pure (if h:vs.size=1 then vs[0] else .tuple vs)):=by
 have:(fun (x:ResultVar)=>match x with | .tmp t=>(pure (tmps.getD t undef):Sem Value) | .cell a t=>do loadVar t (<-asAddr (tmps.getD a undef)))=resRun tmps:=by
  funext r;cases r <;> rfl
 exact congrArg (fun f=>(do let vs <-fn.results.mapM f;pure (if h:vs.size=1 then vs[0] else .tuple vs):Sem Value)) this
theorem resOf_ok (hG:XOk G) (hI:RI B m0 h0 w0 S a w) {m:List Pl}(hst:Step B m0 h0 w0 m S.h w) (hs:SlOk m S.sl a.tmps) {r:ResultVar}{v:AV}(he:(resOf G.T S r).eval=some v) :
  ∃ x,(resRun a.tmps r).run G.P w=.ok x w/\VR m v x:=by
 cases r with
 | tmp t=>
  simp only [resOf,Tr.eval,Option.some.injEq] at he
  subst he
  exact ⟨_,rfl,hs.getD t⟩
 | cell p t=>
  simp only [resOf] at he
  obtain ⟨x,hr,hv⟩:=aload_ok hG.g.c (hs.getD p) hst.hr he
  refine ⟨x,?_,hv⟩
  have hp:∃ A,a.tmps.getD p undef=.pointer (some A):=by
   have hsp:=hs.getD p
   have he:=aload_sub he
   unfold aload0 at he
   split at he
   ·rename_i id i j hq
    rw [hq] at hsp
    obtain ⟨_,_,_,_,_,h⟩:=hsp
    exact ⟨_,h⟩
   ·cases he
  obtain ⟨A,hA⟩:=hp
  simp only [resRun]
  rw [hA] at hr ⊢
  simpa [asAddr,Instr.loadAt,Instr.sureAddr,Sem.run_bind] using hr
theorem resL_ok (hG:XOk G) (hI:RI B m0 h0 w0 S a w) {m:List Pl}(hst:Step B m0 h0 w0 m S.h w) (hs:SlOk m S.sl a.tmps):∀ (rs:List ResultVar) (l:List AV),(resL G.T S rs).eval=some l →
  ∃ vs,(rs.mapM (resRun a.tmps)).run G.P w=.ok vs w/\VRs m l vs
 | [],l,he=>by
  simp only [resL,Tr.eval,Option.some.injEq] at he
  subst he
  exact ⟨[],by simp,by simp [VRs]⟩
 | r::rs,l,he=>by
  simp only [resL,Tr.eval_bind] at he
  cases h1:(resOf G.T S r).eval with
  | none=>simp [h1] at he
  | some x=>
   rw [h1] at he
   simp only [Option.bind_some] at he
   cases h2:(resL G.T S rs).eval with
   | none=>simp [h2] at he
   | some xs=>
    rw [h2] at he
    simp only [Option.bind_some,Tr.eval,Option.some.injEq] at he
    subst he
    obtain ⟨y,hy,hv⟩:=resOf_ok hG hI hst hs h1
    obtain ⟨ys,hys,hvs⟩:=resL_ok hG hI hst hs rs xs h2
    refine ⟨y::ys,?_,by simp only [VRs];exact ⟨hv,hvs⟩⟩
    rw [List.mapM_cons]
    simp only [Sem.run_bind,hy,Result.andThen_ok,hys,Sem.run_pure]
theorem oneRes_ok {l:List AV}{vs:List Value}(hv:VRs m l vs):VR m (oneRes l) (if h:vs.toArray.size=1 then vs.toArray[0] else .tuple vs.toArray):=by
 match l,vs,hv with
 | [],[],_=>simp [oneRes,VR,VRs]
 | [x],[y],hv=>simp only [VRs] at hv;simpa [oneRes] using hv.1
 | x::y::l,u::v::k,hv=>
  simp only [oneRes]
  rw [dif_neg (by simp)]
  simp only [VR]
  exact ⟨_,rfl,by simpa using hv⟩
 | [],_::_,hv=>simp [VRs] at hv
 | _::_,[],hv=>simp [VRs] at hv
 | [_],_::_::_,hv=>simp [VRs] at hv
 | _::_::_,[_],hv=>simp [VRs] at hv
theorem afun_ok (hG:XOk G) {f:FuncId}{fn:Func}(hf:G.P.funcs[f]?=some fn) (d:Nat):SpecOk G.P f (afun G d fn):=by
 intro B args H r H' he m w vals hH hB hv
 unfold afun at he
 split at he
 ·cases he
 ·rename_i c hc
  refine calls_of_wp hf hc ?_
  rw [Tr.eval_bind] at he
  cases h1:(arun G H.length d c ⟨args++List.replicate (fn.ntmps-args.length) (.c .any),H⟩).eval with
  | none=>simp [h1] at he
  | some rS=>
   obtain ⟨e,S⟩:=rS
   rw [h1] at he
   simp only [Option.bind_some] at he
   have hlen:args.length=vals.size:=by simpa using hv.length
   have hI0:RI B m H w ⟨args++List.replicate (fn.ntmps-args.length) (.c .any),H⟩ { tmps:=vals++Array.replicate (fn.ntmps-vals.size) undef,defers:=[] } w:=by
    refine ⟨hB,⟨m,Step.refl hH,?_⟩,rfl⟩
    refine ⟨by simp [hlen],fun t v ht=>?_⟩
    rcases Nat.lt_or_ge t args.length with hl|hl
    ·simp only at ht
     rw [List.getElem?_append_left hl] at ht
     obtain ⟨y,hy,hr⟩:=hv.get t v ht
     refine ⟨y,?_,hr⟩
     rw [Array.getElem?_append_left (by rw [<-hlen];exact hl)]
     simpa using hy
    ·simp only at ht
     rw [List.getElem?_append_right hl,List.getElem?_replicate] at ht
     split at ht
     ·rename_i hlt
      cases ht
      refine ⟨undef,?_,by simp [VR,CR]⟩
      rw [Array.getElem?_append_right (by rw [<-hlen];exact hl),Array.getElem?_replicate,if_pos (by rw [<-hlen];exact hlt)]
     ·cases ht
   have fin:∀ (e:Ex),((resL G.T S fn.results.toList).bind fun l=>(.ret (renAV (idxIn (closeOf S.h 10000 (refsOf S.h H.length++refAV (oneRes l)) (List.range H.length))) (oneRes l),subHeap S.h (closeOf S.h 10000 (refsOf S.h H.length++refAV (oneRes l)) (List.range H.length))):Tr (AV × AHeap))).eval=some (r,H') →
     ∀ a' w',RI B m H w S a' w'->a'.defers=[]/\∃ v,(results fn a'.tmps).run G.P w'=.ok v w'/\∃ m' x,Ending.returned v=.returned x/\Step B m H w m' H' w'/\VR m' r x:=by
    intro _ he a' w' hI
    obtain ⟨_,⟨mf,hst,hs⟩,hd⟩:=hI
    refine ⟨hd,?_⟩
    rw [Tr.eval_bind] at he
    cases h2:(resL G.T S fn.results.toList).eval with
    | none=>simp [h2] at he
    | some l=>
     rw [h2] at he
     simp only [Option.bind_some,Tr.eval,Option.some.injEq,Prod.mk.injEq] at he
     obtain ⟨rfl,rfl⟩:=he
     obtain ⟨vs,hr,hvs⟩:=resL_ok hG ⟨hB,⟨mf,hst,hs⟩,hd⟩ hst hs _ l h2
     refine ⟨_,?_,_,_,rfl,hst.sub hH.len,VR.ren (subPl_ren _) (oneRes_ok hvs)⟩
     rw [results_eq]
     simp only [Sem.run_bind,Array.mapM_eq_mapM_toList]
     have hmap:(List.toArray <$> (fn.results.toList.mapM (resRun a'.tmps))).run G.P w'=.ok vs.toArray w':=by
      rw [<-bind_pure_comp,Sem.run_bind,hr]
      rfl
     rw [hmap]
     rfl
   have hfin:=arun_ok hG hH.len d c _ e S _ w hI0 h1
   cases e with
   | normal=>exact hfin _ fun a' w' hI=>fin .normal he a' w' hI
   | exit id=>cases he
   | ret=>exact hfin _ fun a' w' hI=>fin .ret he a' w' hI
end
end
section
open Go Go.RowKit
def kindD:TypeDesc->Nat
 | .int _=>1
 | .bool=>2
 | .string=>3
 | _=>0
def eqKindsFs (g:TypeId->Option (List Nat)) (T:List TI):List Field->Nat->Option (List Nat)
 | [],_=>some []
 | f::fs,off=>
  if f.name == "_" || f.offset != off then none else
  match lookT T f.type,g f.type,eqKindsFs g T fs (off+((lookT T f.type).map TI.size).getD 0) with
  | some ti,some ks,some r=>if ks.length=ti.size then some (ks++r) else none
  | _,_,_=>none
def eqKinds (P:Program) (T:List TI):Nat->TypeId->Option (List Nat)
 | 0,_=>none
 | d+1,t=>
  match lookT T t with
  | some ti=>
   if ti.agg then
    match ti.u with
    | .struct fs=>if P.stoodInHeld t then none else eqKindsFs (eqKinds P T d) T fs.toList 0
    | _=>none
   else if kindD ti.u=0 then none else some [kindD ti.u]
  | none=>none
theorem ceqs_split:∀ {l k:List AC}{r:Bool}(n:Nat),ceqs l k=some r->∃ r1 r2,ceqs (l.take n) (k.take n)=some r1/\ceqs (l.drop n) (k.drop n)=some r2/\r=(r1&&r2)
 | l,k,r,0,h=>⟨true,r,by simp [ceqs],by simpa using h,by simp⟩
 | [],[],r,n+1,h=>⟨true,true,by simp [ceqs],by simp [ceqs],by simpa [ceqs] using h.symm⟩
 | [],y::k,r,n+1,h=>by simp [ceqs] at h
 | x::l,[],r,n+1,h=>by simp [ceqs] at h
 | x::l,y::k,r,n+1,h=>by
  simp only [ceqs] at h
  split at h
  ·rename_i a b ha hb
   obtain ⟨r1,r2,h1,h2,e⟩:=ceqs_split n hb
   cases h
   exact ⟨a&&r1,r2,by simp [ceqs,ha,h1],by simpa using h2,by rw [e,Bool.and_assoc]⟩
  ·cases h
section
variable {P:Program}{T:List TI}{m:List Pl}
def packV (ti:TI) (xs:List Value):Value:=if ti.agg then .agg xs.toArray else xs.headD undef
theorem eqf_ok (hT:TOk P T) (h1:∀ t ti,lookT T t=some ti->ti.agg=false->ti.size=1) {D:Nat}{g:TypeId->Option (List Nat)}
  (hg:∀ t ks ti,g t=some ks->lookT T t=some ti->∀ (lx ly:List AC) (xs ys:List Value) r (w:World),lx.map kindAC=ks->ceqs lx ly=some r->F2 (CR m) lx xs->F2 (CR m) ly ys->(Op.equalIn D t (packV ti xs) (packV ti ys)).run P w=.ok r w) :
  ∀ (fs:List Field) (off:Nat) (ks:List Nat),eqKindsFs g T fs off=some ks->∀ (lx ly:List AC) (xs ys:Array Value) r (w:World),lx.map kindAC=ks->ceqs lx ly=some r->F2 (CR m) lx (xs.toList.drop off)->F2 (CR m) ly (ys.toList.drop off) →
   (Op.eqFields D xs ys fs).run P w=.ok r w
 | [],off,ks,hk,lx,ly,xs,ys,r,w,hks,hr,hx,hy=>by
  simp only [eqKindsFs,Option.some.injEq] at hk
  subst hk
  have:lx=[]:=by simpa using hks
  subst this
  have hly:ly=[]:=by
   cases ly with
   | nil=>rfl
   | cons a l=>simp [ceqs] at hr
  subst hly
  simp only [ceqs,Option.some.injEq] at hr
  subst hr
  simp [Op.eqFields]
 | f::fs,off,ks,hk,lx,ly,xs,ys,r,w,hks,hr,hx,hy=>by
  simp only [eqKindsFs] at hk
  split at hk
  ·cases hk
  ·rename_i hc
   simp only [Bool.or_eq_true,beq_iff_eq,bne_iff_ne,ne_eq,not_or,Decidable.not_not] at hc
   obtain ⟨hn,ho⟩:=hc
   split at hk
   ·rename_i ti k0 r0 hti hk0 hr0
    split at hk
    ·rename_i hlen
     simp only [Option.some.injEq] at hk
     subst hk
     rw [hti] at hr0
     simp only [Option.map_some,Option.getD_some] at hr0
     obtain ⟨r1,r2,e1,e2,rfl⟩:=ceqs_split ti.size hr
     have hlx:lx.length=k0.length+r0.length:=by
      have:=congrArg List.length hks
      simpa using this
     have hlen2:∀ {l k:List AC}{r:Bool},ceqs l k=some r->l.length=k.length:=by
      intro l
      induction l with
      | nil=>intro k r h;cases k <;> simp [ceqs] at h ⊢
      | cons a l ih=>
       intro k r h
       cases k with
       | nil=>simp [ceqs] at h
       | cons b k=>
        simp only [ceqs] at h
        split at h
        ·rename_i _ _ _ hb
         simp [ih hb]
        ·cases h
     have hly:=hlen2 hr
     have hkt:(lx.take ti.size).map kindAC=k0:=by rw [List.map_take,hks,<-hlen];simp
     have hkd:(lx.drop ti.size).map kindAC=r0:=by rw [List.map_drop,hks,<-hlen];simp
     have hpx:∀ (zs:Array Value) (l:List AC),l.length=lx.length->F2 (CR m) l (zs.toList.drop off)->(part f.type zs f.offset).run P w=.ok (packV ti ((zs.toList.drop off).take ti.size)) w:=by
      intro zs l hl hz
      rw [ho]
      refine run_field' hT hti ?_ rfl (h1 _ _ hti)
      have:=hz.length
      rw [List.length_take]
      omega
     have hA:=hpx xs lx rfl hx
     have hB:=hpx ys ly hly.symm hy
     have hE:=hg f.type k0 ti hk0 hti _ _ _ _ r1 w hkt e1 (hx.take ti.size) (hy.take ti.size)
     have hR:=eqf_ok hT h1 hg fs (off+ti.size) r0 hr0 (lx.drop ti.size) (ly.drop ti.size) xs ys r2 w hkd e2 (by have:=hx.drop ti.size;rwa [List.drop_drop] at this) (by have:=hy.drop ti.size;rwa [List.drop_drop] at this)
     have hn':f.name ≠ "_" := hn
     rw [Op.eqFields]
     simp only [if_pos hn',Sem.run_bind,hA,hB,hE,Result.andThen_ok]
     cases r1
     ·simp
     ·simpa using hR
    ·cases hk
   ·cases hk
theorem eqk_ok (hT:TOk P T) (h1:∀ t ti,lookT T t=some ti->ti.agg=false->ti.size=1) :
  ∀ (d:Nat) t ks ti,eqKinds P T d t=some ks->lookT T t=some ti->∀ D,d<=D->∀ (lx ly:List AC) (xs ys:List Value) r (w:World),lx.map kindAC=ks->ceqs lx ly=some r->F2 (CR m) lx xs->F2 (CR m) ly ys →
   (Op.equalIn D t (packV ti xs) (packV ti ys)).run P w=.ok r w
 | 0,t,ks,ti,hk,_,D,hD,lx,ly,xs,ys,r,w,hks,hr,hx,hy=>by simp [eqKinds] at hk
 | d+1,t,ks,ti,hk,ht,D,hD,lx,ly,xs,ys,r,w,hks,hr,hx,hy=>by
  obtain ⟨D,rfl⟩:∃ D',D=D'+1:=⟨D-1,by omega⟩
  have hu:=hT.u t ti ht
  simp only [eqKinds,ht] at hk
  split at hk
  ·rename_i hagg
   split at hk
   ·rename_i fs hfs
    split at hk
    ·cases hk
    ·rename_i hst
     rw [hfs] at hu
     have hf:P.fieldsOf t=fs:=by simp [Program.fieldsOf,hu]
     simp only [packV,hagg,if_true]
     rw [run_equalIn_struct (P:=P) w D t _ _ (by rw [hf];exact hu) (by simpa using hst),hf]
     exact eqf_ok hT h1 (D:=D) (g:=eqKinds P T d) (fun t' ks' ti' hk' ht' lx' ly' xs' ys' r' w' a b c e=>eqk_ok hT h1 d t' ks' ti' hk' ht' D (by omega) lx' ly' xs' ys' r' w' a b c e) fs.toList 0 ks hk lx ly xs.toArray ys.toArray r w hks hr (by simpa using hx) (by simpa using hy)
   ·cases hk
  ·rename_i hagg
   split at hk
   ·cases hk
   ·simp only [Option.some.injEq] at hk
    subst hk
    have hag:ti.agg=false:=by simpa using hagg
    simp only [packV,hag,Bool.false_eq_true,if_false]
    obtain ⟨a,rfl⟩:∃ a,lx=[a]:=by
     cases lx with
     | nil=>simp at hks
     | cons a l=>cases l with
      | nil=>exact ⟨a,rfl⟩
      | cons b l=>simp at hks
    simp only [List.map_cons,List.map_nil,List.cons.injEq,and_true] at hks
    cases ly with
    | nil=>simp [ceqs] at hr
    | cons b l=>
     cases l with
     | cons c l=>simp only [ceqs] at hr;split at hr <;> (try cases hr);rename_i h;simp [ceqs] at h
     | nil=>
      simp only [ceqs] at hr
      obtain ⟨c,hc⟩:∃ c,ceq a b=some c:=by
       cases e:ceq a b with
       | none=>rw [e] at hr;cases hr
       | some c=>exact ⟨c,rfl⟩
      rw [hc] at hr
      simp only [Bool.and_true,Option.some.injEq] at hr
      subst hr
      cases hx with
      | cons hxa hxr=>
      cases hxr
      cases hy with
      | cons hyb hyr=>
      cases hyr
      simp only [List.headD_cons]
      unfold ceq at hc
      split at hc
      ·rename_i k p k' q
       split at hc
       ·rename_i hkk
        subst hkk
        cases hc
        cases (show _=_ from hxa)
        cases (show _=_ from hyb)
        cases hd:ti.u <;> rw [hd] at hks <;> simp [kindAC,kindD] at hks
        rw [hd] at hu
        exact run_equalIn_int (P:=P) w D t _ _ _ _ hu
       ·cases hc
      ·cases hc
       cases (show _=_ from hxa)
       cases (show _=_ from hyb)
       cases hd:ti.u <;> rw [hd] at hks <;> simp [kindAC,kindD] at hks
       rw [hd] at hu
       exact run_equalIn_bool' (P:=P) w D t _ _ hu
      ·cases hc
       cases (show _=_ from hxa)
       cases (show _=_ from hyb)
       cases hd:ti.u <;> rw [hd] at hks <;> simp [kindAC,kindD] at hks
       rw [hd] at hu
       rw [run_equalIn_string (P:=P) w D t _ _ hu,<-beq_toListBytes]
      ·cases hc
def tiFact (P:Program) (i:TI):Option (TypeDesc × Nat × Nat × Option (List Value)):=
 match P.underlying i.t,P.info? i.t with
 | some u,some x=>some (u,x.size,x.bytes,x.zero.map fun z=>z.cells.toList)
 | _,_=>none
def tiWant (i:TI):Option (TypeDesc × Nat × Nat × Option (List Value)):=some (i.u,i.size,i.bytes,some i.zero)
def tiTest (T:List TI) (i:TI):Bool:=
 (i.agg==isAggD i.u)&&i.zero.length==i.size&&i.zero.all oneV&&decide (0<i.size)&&(i.agg||i.size==1)&&decide (0<i.bytes) &&
  (match i.u with | .struct fs=>fs.toList.all fun f=>(lookT T f.type).isSome | _=>true)
def shapeTest (i:TI):Prop:=∀ n s,i.shape=some (n,s)->s=1/\i.agg=true/\i.size=n/\i.zero=List.replicate n (i.zero.headD undef)/\0<n
theorem lookT_mem {t:TypeId}{ti:TI}(h:lookT T t=some ti):ti ∈ T/\ti.t=t:=⟨List.mem_of_find?_eq_some h,lookT_t h⟩
theorem tab_facts {G:Ctx}(hf:G.T.map (tiFact G.P)=G.T.map tiWant) (ht:G.T.all (tiTest G.T)=true) (hs:∀ i ∈ G.T,shapeTest i)
  (he:G.eqs.all (fun p=>!G.P.eqGuardType G.P.depth p.1&&eqKinds G.P G.T 9 p.1==some p.2&&((lookT G.T p.1).map TI.agg==some true))=true):GOk G/\FOk G:=by
 have hfact:∀ i ∈ G.T,tiFact G.P i=tiWant i:=fun i hi=>by
  obtain ⟨n,hn,e⟩:=List.getElem_of_mem hi
  have:=congrArg (fun l=>l[n]?) hf
  simp only [List.getElem?_map,List.getElem?_eq_getElem hn,Option.map_some,Option.some.injEq] at this
  rw [<-e]
  exact this
 have htest:∀ i ∈ G.T,tiTest G.T i=true:=fun i hi=>List.all_eq_true.1 ht i hi
 have hT:TOk G.P G.T:=by
  refine ⟨?_,?_,?_,?_,?_,?_⟩
  ·intro t ti h
   obtain ⟨hm,rfl⟩:=lookT_mem h
   have:=hfact ti hm
   unfold tiFact tiWant at this
   split at this
   ·rename_i u x hu hx
    simp only [Option.some.injEq,Prod.mk.injEq] at this
    rw [hu,this.1]
   ·cases this
  ·intro t ti h
   obtain ⟨hm,rfl⟩:=lookT_mem h
   have:=hfact ti hm
   unfold tiFact tiWant at this
   split at this
   ·rename_i u x hu hx
    simp only [Option.some.injEq,Prod.mk.injEq] at this
    obtain ⟨_,e1,e2,e3⟩:=this
    cases hz:x.zero with
    | none=>rw [hz] at e3;cases e3
    | some z=>
     rw [hz] at e3
     simp only [Option.map_some,Option.some.injEq] at e3
     exact ⟨x,z,hx,e1,e2,hz,e3⟩
   ·cases this
  ·intro t ti h
   have:=htest ti (lookT_mem h).1
   simp only [tiTest,Bool.and_eq_true,beq_iff_eq] at this
   exact this.1.1.1.1.1.1
  ·intro t ti h
   have:=htest ti (lookT_mem h).1
   simp only [tiTest,Bool.and_eq_true,beq_iff_eq] at this
   exact this.1.1.1.1.1.2
  ·intro t ti h
   have:=htest ti (lookT_mem h).1
   simp only [tiTest,Bool.and_eq_true,beq_iff_eq] at this
   exact List.all_eq_true.1 this.1.1.1.1.2
  ·intro t ti n s h
   exact hs ti (lookT_mem h).1 n s
 have hone:∀ t ti,lookT G.T t=some ti->0<ti.size/\(ti.agg=false->ti.size=1):=by
  intro t ti h
  have:=htest ti (lookT_mem h).1
  simp only [tiTest,Bool.and_eq_true,beq_iff_eq,decide_eq_true_eq,Bool.or_eq_true] at this
  refine ⟨this.1.1.1.2,fun ha=>?_⟩
  rcases this.1.1.2 with h|h
  ·rw [ha] at h;cases h
  ·exact h
 refine ⟨⟨⟨hT,hone,?_⟩,?_,?_⟩,?_⟩
 ·intro t ti h
  have:=htest ti (lookT_mem h).1
  simp only [tiTest,Bool.and_eq_true,beq_iff_eq,decide_eq_true_eq] at this
  exact this.1.2
 ·intro t n h
  have:=List.all_eq_true.1 he _ h
  simp only [Bool.and_eq_true,Bool.not_eq_true',beq_iff_eq] at this
  exact this.1.1
 ·intro t n h m l k xs ys r w hks hr hx hy
  have:=List.all_eq_true.1 he _ h
  simp only [Bool.and_eq_true,Bool.not_eq_true',beq_iff_eq] at this
  obtain ⟨⟨_,hk⟩,hl⟩:=this
  cases hti:lookT G.T t with
  | none=>rw [hti] at hl;cases hl
  | some ti=>
   rw [hti] at hl
   simp only [Option.map_some,Option.some.injEq] at hl
   have:=eqk_ok (m:=m) hT (fun t ti h=>(hone t ti h).2) 9 t n ti hk hti 10000 (by omega) l k xs.toList ys.toList r w hks hr hx hy
   simpa [packV,hl] using this
 ·intro t ti fs h hu f hf
  have:=htest ti (lookT_mem h).1
  simp only [tiTest,Bool.and_eq_true,hu] at this
  exact List.all_eq_true.1 this.2 f hf
end
open Go Go.RowKit
def isZ64:Value->Bool
 | .int .i64 0=>true
 | _=>false
def shapeT (i:TI):Bool:=match i.shape with
 | some (n,s)=>s==1&&i.agg&&i.size==n&&decide (0<n)&&i.zero.all isZ64&&i.zero.length==n
 | none=>true
theorem shapeT_ok {i:TI}(h:shapeT i=true):shapeTest i:=by
 intro n s hs
 unfold shapeT at h
 rw [hs] at h
 simp only [Bool.and_eq_true,beq_iff_eq,decide_eq_true_eq] at h
 obtain ⟨⟨⟨⟨⟨h1,h2⟩,h3⟩,h4⟩,h5⟩,h6⟩:=h
 have hz:∀ x ∈ i.zero,x=.int .i64 0:=fun x hx=>by
  have:=List.all_eq_true.1 h5 x hx
  unfold isZ64 at this
  split at this
  ·rfl
  ·cases this
 have he:i.zero=List.replicate n (.int .i64 0):=List.eq_replicate_iff.2 ⟨h6,hz⟩
 refine ⟨h1,h2,h3,?_,h4⟩
 rw [he]
 cases n with
 | zero=>omega
 | succ n=>rfl
end
section
open Go Go.Proofs
def tab:List TI:=[
 ⟨2,.int .i64,1,8,[.int .i64 0],false,true,none⟩,
 ⟨3,.int .i64,1,8,[.int .i64 0],false,true,none⟩,
 ⟨4,.bool,1,1,[.bool false],false,true,none⟩,
 ⟨5,.int .u8,1,1,[.int .u8 0],false,true,none⟩,
 ⟨6,.int .u8,1,1,[.int .u8 0],false,true,none⟩,
 ⟨7,.struct #[⟨ "x", 2,0,false, "", "runtime", 0⟩,⟨ "y", 3,1,false, "", "runtime", 8⟩,⟨ "signed", 4,2,false, "", "runtime", 16⟩,⟨ "code", 6,3,false, "", "runtime", 17⟩],4,24,[.int .i64 0,.int .i64 0,.bool false,.int .u8 0],true,true,none⟩,
 ⟨8,.struct #[⟨ "x", 2,0,false, "", "runtime", 0⟩,⟨ "y", 3,1,false, "", "runtime", 8⟩,⟨ "signed", 4,2,false, "", "runtime", 16⟩,⟨ "code", 6,3,false, "", "runtime", 17⟩],4,24,[.int .i64 0,.int .i64 0,.bool false,.int .u8 0],true,true,none⟩,
 ⟨9,.string,1,16,[.string ⟨#[]⟩],false,true,none⟩,
 ⟨10,.string,1,16,[.string ⟨#[]⟩],false,true,none⟩,
 ⟨11,.string,1,16,[.string ⟨#[]⟩],false,true,none⟩,
 ⟨12,.int .u64,1,8,[.int .u64 0],false,true,none⟩,
 ⟨13,.struct #[⟨ "msg", 9,0,false, "", "runtime", 0⟩,⟨ "addr", 12,1,false, "", "runtime", 16⟩],2,24,[.string ⟨#[]⟩,.int .u64 0],true,true,none⟩,
 ⟨14,.struct #[⟨ "msg", 9,0,false, "", "runtime", 0⟩,⟨ "addr", 12,1,false, "", "runtime", 16⟩],2,24,[.string ⟨#[]⟩,.int .u64 0],true,true,none⟩,
 ⟨15,.pointer 219,1,8,[.pointer none],false,false,none⟩,
 ⟨16,.pointer 222,1,8,[.pointer none],false,false,none⟩,
 ⟨17,.pointer 230,1,8,[.pointer none],false,false,none⟩,
 ⟨18,.struct #[⟨ "typ", 17,0,false, "", "internal/runtime/maps", 0⟩],1,8,[.pointer none],true,false,none⟩,
 ⟨19,.struct #[⟨ "typ", 17,0,false, "", "internal/runtime/maps", 0⟩],1,8,[.pointer none],true,false,none⟩,
 ⟨21,.int .i32,1,4,[.int .i32 0],false,true,none⟩,
 ⟨22,.slice 2,1,24,[.slice none 0 0],false,false,none⟩,
 ⟨24,.slice 27,1,24,[.slice none 0 0],false,false,none⟩,
 ⟨26,.struct #[⟨ "Pos", 2,0,false, "", "", 0⟩,⟨ "Neg", 2,1,false, "", "", 8⟩],2,16,[.int .i64 0,.int .i64 0],true,true,none⟩,
 ⟨27,.struct #[⟨ "Pos", 2,0,false, "", "", 0⟩,⟨ "Neg", 2,1,false, "", "", 8⟩],2,16,[.int .i64 0,.int .i64 0],true,true,none⟩,
 ⟨33,.array 256 2,256,2048,List.replicate 256 (.int .i64 0),true,true,some (256,1)⟩,
 ⟨34,.struct #[⟨ "Adv", 33,0,false, "", "", 0⟩],256,2048,List.replicate 256 (.int .i64 0),true,true,some (256,1)⟩,
 ⟨35,.struct #[⟨ "Adv", 33,0,false, "", "", 0⟩],256,2048,List.replicate 256 (.int .i64 0),true,true,some (256,1)⟩,
 ⟨41,.int .u64,1,8,[.int .u64 0],false,true,none⟩,
 ⟨43,.struct #[⟨ "X", 2,0,false, "", "", 0⟩,⟨ "Y", 2,1,false, "", "", 8⟩,⟨ "W", 2,2,false, "", "", 16⟩,⟨ "H", 2,3,false, "", "", 24⟩],4,32,[.int .i64 0,.int .i64 0,.int .i64 0,.int .i64 0],true,true,none⟩,
 ⟨44,.struct #[⟨ "X", 2,0,false, "", "", 0⟩,⟨ "Y", 2,1,false, "", "", 8⟩,⟨ "W", 2,2,false, "", "", 16⟩,⟨ "H", 2,3,false, "", "", 24⟩],4,32,[.int .i64 0,.int .i64 0,.int .i64 0,.int .i64 0],true,true,none⟩,
 ⟨48,.slice 44,1,24,[.slice none 0 0],false,false,none⟩,
 ⟨58,.slice 61,1,24,[.slice none 0 0],false,false,none⟩,
 ⟨60,.struct #[⟨ "H", 2,0,false, "", "", 0⟩,⟨ "Top", 27,1,false, "", "", 8⟩,⟨ "Bottom", 27,3,false, "", "", 24⟩,⟨ "Through", 4,5,false, "", "", 40⟩],6,48,[.int .i64 0,.int .i64 0,.int .i64 0,.int .i64 0,.int .i64 0,.bool false],true,true,none⟩,
 ⟨61,.struct #[⟨ "H", 2,0,false, "", "", 0⟩,⟨ "Top", 27,1,false, "", "", 8⟩,⟨ "Bottom", 27,3,false, "", "", 24⟩,⟨ "Through", 4,5,false, "", "", 40⟩],6,48,[.int .i64 0,.int .i64 0,.int .i64 0,.int .i64 0,.int .i64 0,.bool false],true,true,none⟩,
 ⟨62,.struct #[⟨ "Top", 27,0,false, "", "", 0⟩,⟨ "Bottom", 27,2,false, "", "", 16⟩,⟨ "Through", 4,4,false, "", "", 32⟩,⟨ "H", 2,5,false, "", "", 40⟩],6,48,[.int .i64 0,.int .i64 0,.int .i64 0,.int .i64 0,.bool false,.int .i64 0],true,true,none⟩,
 ⟨63,.struct #[⟨ "Top", 27,0,false, "", "", 0⟩,⟨ "Bottom", 27,2,false, "", "", 16⟩,⟨ "Through", 4,4,false, "", "", 32⟩,⟨ "H", 2,5,false, "", "", 40⟩],6,48,[.int .i64 0,.int .i64 0,.int .i64 0,.int .i64 0,.bool false,.int .i64 0],true,true,none⟩,
 ⟨79,.slice 3,1,24,[.slice none 0 0],false,false,none⟩,
 ⟨80,.slice 83,1,24,[.slice none 0 0],false,false,none⟩,
 ⟨82,.struct #[⟨ "Node", 3,0,false, "", "", 0⟩,⟨ "Text", 9,1,false, "", "", 8⟩,⟨ "White", 3,2,false, "", "", 24⟩,⟨ "Line", 2,3,false, "", "", 32⟩],4,40,[.int .i64 0,.string ⟨#[]⟩,.int .i64 0,.int .i64 0],true,true,none⟩,
 ⟨83,.struct #[⟨ "Node", 3,0,false, "", "", 0⟩,⟨ "Text", 9,1,false, "", "", 8⟩,⟨ "White", 3,2,false, "", "", 24⟩,⟨ "Line", 2,3,false, "", "", 32⟩],4,40,[.int .i64 0,.string ⟨#[]⟩,.int .i64 0,.int .i64 0],true,true,none⟩,
 ⟨84,.slice 87,1,24,[.slice none 0 0],false,false,none⟩,
 ⟨86,.struct #[⟨ "Kind", 3,0,false, "", "", 0⟩,⟨ "Run", 3,1,false, "", "", 8⟩,⟨ "At", 3,2,false, "", "", 16⟩,⟨ "Adv", 2,3,false, "", "", 24⟩],4,32,[.int .i64 0,.int .i64 0,.int .i64 0,.int .i64 0],true,true,none⟩,
 ⟨87,.struct #[⟨ "Kind", 3,0,false, "", "", 0⟩,⟨ "Run", 3,1,false, "", "", 8⟩,⟨ "At", 3,2,false, "", "", 16⟩,⟨ "Adv", 2,3,false, "", "", 24⟩],4,32,[.int .i64 0,.int .i64 0,.int .i64 0,.int .i64 0],true,true,none⟩,
 ⟨93,.int .u64,1,8,[.int .u64 0],false,true,none⟩,
 ⟨95,.slice 98,1,24,[.slice none 0 0],false,false,none⟩,
 ⟨97,.struct #[⟨ "From", 3,0,false, "", "", 0⟩,⟨ "To", 3,1,false, "", "", 8⟩,⟨ "W", 2,2,false, "", "", 16⟩],3,24,[.int .i64 0,.int .i64 0,.int .i64 0],true,true,none⟩,
 ⟨98,.struct #[⟨ "From", 3,0,false, "", "", 0⟩,⟨ "To", 3,1,false, "", "", 8⟩,⟨ "W", 2,2,false, "", "", 16⟩],3,24,[.int .i64 0,.int .i64 0,.int .i64 0],true,true,none⟩,
 ⟨102,.array 2 2,2,16,[.int .i64 0,.int .i64 0],true,true,some (2,1)⟩,
 ⟨108,.slice 112,1,24,[.slice none 0 0],false,false,none⟩,
 ⟨111,.struct #[⟨ "Node", 3,0,false, "", "", 0⟩,⟨ "Rect", 44,1,false, "", "", 8⟩,⟨ "From", 3,5,false, "", "", 40⟩,⟨ "To", 3,6,false, "", "", 48⟩,⟨ "Line", 3,7,false, "", "", 56⟩],8,64,[.int .i64 0,.int .i64 0,.int .i64 0,.int .i64 0,.int .i64 0,.int .i64 0,.int .i64 0,.int .i64 0],true,true,none⟩,
 ⟨112,.struct #[⟨ "Node", 3,0,false, "", "", 0⟩,⟨ "Rect", 44,1,false, "", "", 8⟩,⟨ "From", 3,5,false, "", "", 40⟩,⟨ "To", 3,6,false, "", "", 48⟩,⟨ "Line", 3,7,false, "", "", 56⟩],8,64,[.int .i64 0,.int .i64 0,.int .i64 0,.int .i64 0,.int .i64 0,.int .i64 0,.int .i64 0,.int .i64 0],true,true,none⟩,
 ⟨118,.slice 121,1,24,[.slice none 0 0],false,false,none⟩,
 ⟨120,.struct #[⟨ "Kind", 3,0,false, "", "", 0⟩,⟨ "ID", 3,1,false, "", "", 8⟩,⟨ "At", 3,2,false, "", "", 16⟩,⟨ "Before", 3,3,false, "", "", 24⟩,⟨ "Text", 9,4,false, "", "", 32⟩],5,48,[.int .i64 0,.int .i64 0,.int .i64 0,.int .i64 0,.string ⟨#[]⟩],true,true,none⟩,
 ⟨121,.struct #[⟨ "Kind", 3,0,false, "", "", 0⟩,⟨ "ID", 3,1,false, "", "", 8⟩,⟨ "At", 3,2,false, "", "", 16⟩,⟨ "Before", 3,3,false, "", "", 24⟩,⟨ "Text", 9,4,false, "", "", 32⟩],5,48,[.int .i64 0,.int .i64 0,.int .i64 0,.int .i64 0,.string ⟨#[]⟩],true,true,none⟩,
 ⟨122,.slice 5,1,24,[.slice none 0 0],false,false,none⟩,
 ⟨125,.struct #[⟨ "Place", 3,0,false, "", "", 0⟩,⟨ "Turn", 3,1,false, "", "", 8⟩],2,16,[.int .i64 0,.int .i64 0],true,true,none⟩,
 ⟨126,.struct #[⟨ "Place", 3,0,false, "", "", 0⟩,⟨ "Turn", 3,1,false, "", "", 8⟩],2,16,[.int .i64 0,.int .i64 0],true,true,none⟩,
 ⟨127,.struct #[⟨ "Kind", 3,0,false, "", "", 0⟩,⟨ "Node", 3,1,false, "", "", 8⟩,⟨ "Snap", 126,2,false, "", "", 16⟩,⟨ "X", 2,4,false, "", "", 32⟩,⟨ "Y", 2,5,false, "", "", 40⟩,⟨ "Ops", 118,6,false, "", "", 48⟩],7,72,[.int .i64 0,.int .i64 0,.int .i64 0,.int .i64 0,.int .i64 0,.int .i64 0,.slice none 0 0],true,false,none⟩,
 ⟨128,.struct #[⟨ "Kind", 3,0,false, "", "", 0⟩,⟨ "Node", 3,1,false, "", "", 8⟩,⟨ "Snap", 126,2,false, "", "", 16⟩,⟨ "X", 2,4,false, "", "", 32⟩,⟨ "Y", 2,5,false, "", "", 40⟩,⟨ "Ops", 118,6,false, "", "", 48⟩],7,72,[.int .i64 0,.int .i64 0,.int .i64 0,.int .i64 0,.int .i64 0,.int .i64 0,.slice none 0 0],true,false,none⟩,
 ⟨129,.slice 128,1,24,[.slice none 0 0],false,false,none⟩,
 ⟨130,.struct #[⟨ "Kind", 3,0,false, "", "", 0⟩,⟨ "E", 3,1,false, "", "", 8⟩,⟨ "At", 3,2,false, "", "", 16⟩,⟨ "Node", 3,3,false, "", "", 24⟩,⟨ "Snap", 126,4,false, "", "", 32⟩,⟨ "Rect", 44,6,false, "", "", 48⟩],10,80,List.replicate 10 (.int .i64 0),true,true,none⟩,
 ⟨131,.struct #[⟨ "Kind", 3,0,false, "", "", 0⟩,⟨ "E", 3,1,false, "", "", 8⟩,⟨ "At", 3,2,false, "", "", 16⟩,⟨ "Node", 3,3,false, "", "", 24⟩,⟨ "Snap", 126,4,false, "", "", 32⟩,⟨ "Rect", 44,6,false, "", "", 48⟩],10,80,List.replicate 10 (.int .i64 0),true,true,none⟩,
 ⟨134,.int .i64,1,8,[.int .i64 0],false,true,none⟩,
 ⟨149,.pointer 35,1,8,[.pointer none],false,false,none⟩,
 ⟨154,.slice 9,1,24,[.slice none 0 0],false,false,none⟩,
 ⟨166,.pointer 168,1,8,[.pointer none],false,false,none⟩,
 ⟨167,.struct #[⟨ "b", 122,0,false, "", "quoin/wire", 0⟩,⟨ "bad", 4,1,false, "", "quoin/wire", 24⟩],2,32,[.slice none 0 0,.bool false],true,false,none⟩,
 ⟨168,.struct #[⟨ "b", 122,0,false, "", "quoin/wire", 0⟩,⟨ "bad", 4,1,false, "", "quoin/wire", 24⟩],2,32,[.slice none 0 0,.bool false],true,false,none⟩,
 ⟨174,.pointer 175,1,8,[.pointer none],false,false,none⟩,
 ⟨175,.struct #[⟨ "b", 122,0,false, "", "quoin/wire", 0⟩,⟨ "bad", 4,1,false, "", "quoin/wire", 24⟩],2,32,[.slice none 0 0,.bool false],true,false,none⟩,
 ⟨178,.array 4 2,4,32,[.int .i64 0,.int .i64 0,.int .i64 0,.int .i64 0],true,true,some (4,1)⟩,
 ⟨188,.pointer 112,1,8,[.pointer none],false,false,none⟩,
 ⟨198,.slice 207,1,24,[.slice none 0 0],false,false,none⟩,
 ⟨201,.int .u32,1,4,[.int .u32 0],false,true,none⟩,
 ⟨204,.struct #[⟨ "Kind", 3,0,false, "", "", 0⟩,⟨ "N", 2,1,false, "", "", 8⟩],2,16,[.int .i64 0,.int .i64 0],true,true,none⟩,
 ⟨205,.struct #[⟨ "Kind", 3,0,false, "", "", 0⟩,⟨ "N", 2,1,false, "", "", 8⟩],2,16,[.int .i64 0,.int .i64 0],true,true,none⟩,
 ⟨206,.struct #[⟨ "Prop", 3,0,false, "", "", 0⟩,⟨ "Word", 3,1,false, "", "", 8⟩,⟨ "Len", 205,2,false, "", "", 16⟩],4,32,[.int .i64 0,.int .i64 0,.int .i64 0,.int .i64 0],true,true,none⟩,
 ⟨207,.struct #[⟨ "Prop", 3,0,false, "", "", 0⟩,⟨ "Word", 3,1,false, "", "", 8⟩,⟨ "Len", 205,2,false, "", "", 16⟩],4,32,[.int .i64 0,.int .i64 0,.int .i64 0,.int .i64 0],true,true,none⟩,
 ⟨223,.int .u8,1,1,[.int .u8 0],false,true,none⟩,
 ⟨224,.int .u8,1,1,[.int .u8 0],false,true,none⟩,
 ⟨226,.pointer 5,1,8,[.pointer none],false,false,none⟩,
 ⟨227,.int .i32,1,4,[.int .i32 0],false,true,none⟩,
 ⟨228,.int .i32,1,4,[.int .i32 0],false,true,none⟩]
def eqsT:List (TypeId × List Nat):=[
 (26,[1,1]),
 (27,[1,1]),
 (43,[1,1,1,1]),
 (44,[1,1,1,1]),
 (60,[1,1,1,1,1,2]),
 (61,[1,1,1,1,1,2]),
 (62,[1,1,1,1,2,1]),
 (63,[1,1,1,1,2,1]),
 (82,[1,3,1,1]),
 (83,[1,3,1,1]),
 (86,[1,1,1,1]),
 (87,[1,1,1,1]),
 (97,[1,1,1]),
 (98,[1,1,1]),
 (111,[1,1,1,1,1,1,1,1]),
 (112,[1,1,1,1,1,1,1,1]),
 (120,[1,1,1,1,3]),
 (121,[1,1,1,1,3]),
 (125,[1,1]),
 (126,[1,1]),
 (130,[1,1,1,1,1,1,1,1,1,1]),
 (131,[1,1,1,1,1,1,1,1,1,1]),
 (204,[1,1]),
 (205,[1,1]),
 (206,[1,1,1,1]),
 (207,[1,1,1,1])]
noncomputable def G0:Ctx:={ P:=Try.prog,T:=tab,eqs:=eqsT }
theorem tab_f:tab.map (tiFact Try.prog)=tab.map tiWant:=by kernel_rfl
theorem tab_t:tab.all (tiTest tab)=true:=by kernel_rfl
theorem tab_s:tab.all shapeT=true:=by kernel_rfl
theorem tab_e:eqsT.all (fun p=>!Try.prog.eqGuardType Try.prog.depth p.1&&eqKinds Try.prog tab 9 p.1==some p.2&&((lookT tab p.1).map TI.agg==some true))=true:=by kernel_rfl
theorem tab_mixed:Try.prog.follows .mixedOrders=true:=by kernel_rfl
theorem tab_ok:GOk G0/\FOk G0:=tab_facts (G:=G0) tab_f tab_t (fun i hi=>shapeT_ok (List.all_eq_true.1 tab_s i hi)) tab_e
abbrev Known:=List (Nat × Spec)
def Known.look (K:Known) (f:Nat):Option Spec:=(K.find? fun p=>p.1==f).map Prod.snd
def nameOk (P:Program) (f:Nat):Bool:=match P.funcs[f]? with
 | some fn=>!(fn.name == "runtime.NumGoroutine")&&!fn.body.isNone
 | none=>false
def KnownOk (K:Known):Prop:=∀ f F,(f,F) ∈ K->SpecOk Try.prog f F/\nameOk Try.prog f=true
noncomputable def GT (K:Known) (keep:Nat->List (Nat × Option TypeId)) (L:Nat) (ts:List Nat):Ctx2:={ G0 with σ:=K.look,keep:=keep,L:=L,tame:=ts }
noncomputable def GK (K:Known) (keep:Nat->List (Nat × Option TypeId)) (L:Nat):Ctx2:={ G0 with σ:=K.look,keep:=keep,L:=L }
theorem GT_ok {K:Known}(hK:KnownOk K) (keep:Nat->List (Nat × Option TypeId)) (L:Nat) (ts:List Nat):XOk (GT K keep L ts) where
 g:=tab_ok.1
 f:=tab_ok.2
 mixed:=tab_mixed
 σ:=fun f F h=>by
  simp only [GT,Known.look,Option.map_eq_some_iff] at h
  obtain ⟨p,hp,rfl⟩:=h
  have hm:=List.mem_of_find?_eq_some hp
  have he:=List.find?_some hp
  have he':p.1=f:=by simpa using he
  subst he'
  obtain ⟨h1,h2⟩:=hK p.1 p.2 hm
  refine ⟨h1,?_⟩
  unfold nameOk at h2
  split at h2
  ·rename_i fn hfn
   simp only [Bool.and_eq_true,Bool.not_eq_true'] at h2
   exact ⟨fn,hfn,h2.1,h2.2⟩
  ·cases h2
theorem GK_ok {K:Known}(hK:KnownOk K) (keep:Nat->List (Nat × Option TypeId)) (L:Nat):XOk (GK K keep L):=GT_ok hK keep L []
end
section
open Go Go.RowKit
abbrev Loops:=Nat->Code->St->Tr (Ex × St)
noncomputable def lrun (G:Ctx2) (ℓ:Loops) (n0:Nat):Nat->Code->St->Tr (Ex × St)
 | 0,_,_=>.fail
 | _+1,.skip,S=>.ret (.normal,S)
 | _+1,.region _ ops draw,S=>(if draw then regDraw G ops S else regSeq G ops ops.toList S).bind fun S'=>.ret (.normal,S')
 | d+1,.seq a b,S=>(lrun G ℓ n0 d a S).bind fun (e,S')=>match e with
  | .normal=>lrun G ℓ n0 d b S'
  | e=>.ret (e,S')
 | d+1,.cond c a b,S=>
  match c with
  | .tmp t=>
   match S.sl.getD t (.c .any) with
   | .c (.v (.bool x))=>.ite x (lrun G ℓ n0 d a (litB S t true)) (lrun G ℓ n0 d b (litB S t false))
   | _=>.fail
  | _=>.fail
 | d+1,.block id b,S=>(lrun G ℓ n0 d b S).bind fun (e,S')=>match e with
  | .exit k=>if k=id then .ret (.normal,S') else .ret (.exit k,S')
  | e=>.ret (e,S')
 | d+1,.loop b,S=>ℓ d b (canon G.T n0 (G.keep (firstReg b)) S)
 | _+1,.exit id,S=>.ret (.exit id,S)
 | _+1,.ret,S=>.ret (.ret,S)
 | _+1,_,_=>.fail
noncomputable def lfun (G:Ctx2) (ℓ:Loops) (d:Nat) (fn:Func):Spec:=fun args h=>
 match fn.body with
 | none=>.fail
 | some c=>(lrun G ℓ h.length d c ⟨args++List.replicate (fn.ntmps-args.length) (.c .any),h⟩).bind fun (e,S)=>
  match e with
  | .exit _=>.fail
  | _=>(resL G.T S fn.results.toList).bind fun l=>
   let r:=oneRes l
   let R:=closeOf S.h 10000 (refsOf S.h h.length++refAV r) (List.range h.length)
   .ret (renAV (idxIn R) r,subHeap S.h R)
theorem yes_of {p:Prop}(h:p):yes p=true:=by simp [yes,h]
theorem Tr.eval_ask {α:Type}{p:Prop}{t:Tr α}{v:α}:(Tr.need (yes p) t).eval=some v ↔ p/\t.eval=some v:=by
 rw [Tr.eval_need]
 simp [yes]
def loopsOf:Code->List Code
 | .seq a b=>loopsOf a++loopsOf b
 | .block _ b=>loopsOf b
 | .loop b=>b::loopsOf b
 | .cond _ a b=>loopsOf a++loopsOf b
 | _=>[]
def bodyOf (fn:Func) (n:Nat):Code:=(loopsOf (fn.body.getD .skip)).getD n .skip
def slots (n:Nat) (l:List (Nat × AV)):List AV:=l.foldl (fun s p=>s.set p.1 p.2) (List.replicate n (.c .any))
abbrev I64 (x:Int):AV:=.c (.v (.int .i64 x))
abbrev i64 (x:Int):AC:=.v (.int .i64 x)
abbrev Bo (x:Bool):AV:=.c (.v (.bool x))
theorem known' {K:Known}(hK:KnownOk K) {f:Nat}{fn:Func}(hf:Try.prog.funcs[f]?=some fn) {F:Spec}
  (h:∀ args h r,(F args h).eval=some r->∃ keep L d,(afun (GK K keep L) d fn args h).eval=some r):SpecOk Try.prog f F:=
 fun B args h' r H' he=>by
  obtain ⟨keep,L,d,h1⟩:=h _ _ _ he
  exact afun_ok (GK_ok hK keep L) hf d B args h' r H' h1
theorem known0 {K:Known}(hK:KnownOk K) (d:Nat) {f:Nat}{fn:Func}(hf:Try.prog.funcs[f]?=some fn):SpecOk Try.prog f (afun (GK K (fun _=>[]) 0) d fn):=
 known' hK hf fun _ _ _ h=>⟨_,_,_,h⟩
end
section
open Go Go.RowKit
noncomputable def byReg (r:Nat) (a b:Loops):Loops:=fun d c S=>if firstReg c=r then a d c S else b d c S
end
section
open Go Go.RowKit
def w64 (x:Int):Int:=IntKind.wrap .i64 x
def and64 (a m:Int):Int:=bits .and .i64 a m
def mxI (a b:Int):Int:=if a>b then a else b
def mnI (a b:Int):Int:=if a<b then a else b
theorem mxI_eq (a b:Int):mxI a b=max a b:=by unfold mxI;omega
theorem mnI_eq (a b:Int):mnI a b=min a b:=by unfold mnI;omega
def u64 (x:Int):Int:=IntKind.wrap .u64 x
theorem w64_id {x:Int}(h1:-(2^62:Int)<=x) (h2:x<(2^62:Int)):w64 x=x:=by
 unfold w64
 rw [IntKind.wrap_i64]
 omega
theorem and_mask (k:Nat) (hk:k<=62) (a m:Int) (hm:m=2^k-1):and64 a m=a % (2^k:Int):=by
 have hp:(2:Nat)^k<=2^62:=Nat.pow_le_pow_right (by decide) hk
 have hp0:0<(2:Nat)^k:=Nat.pow_pos (by decide)
 have hm':m=((2^k-1:Nat):Int):=by
  rw [hm]
  have:((2^k:Nat):Int)=(2:Int)^k:=by simp
  omega
 have h2:(BitVec.ofInt 64 m).toNat=2^k-1:=by
  rw [hm',BitVec.ofInt_natCast,BitVec.toNat_ofNat]
  exact Nat.mod_eq_of_lt (by omega)
 have h1:(BitVec.ofInt 64 a).toNat=(a % (2^64:Int)).toNat:=by
  rw [BitVec.toNat_ofInt]
  rfl
 show IntKind.i64.wrap ((BitVec.ofInt 64 a &&& BitVec.ofInt 64 m).toNat:Int)=_
 rw [BitVec.toNat_and,h1,h2,Nat.and_two_pow_sub_one_eq_mod,IntKind.wrap_i64]
 have e:(2:Int)^k=((2^k:Nat):Int):=by simp
 have h3:((a % (2^64:Int)).toNat:Int)=a % (2^64:Int):=Int.toNat_of_nonneg (Int.emod_nonneg _ (by decide))
 have h4:(((a % (2^64:Int)).toNat % 2^k:Nat):Int)=a % (2^k:Int):=by
  rw [Int.natCast_emod,h3,e]
  refine Int.emod_emod_of_dvd _ ?_
  have:(2:Nat)^k ∣ 2^64:=Nat.pow_dvd_pow 2 (by omega)
  exact Int.natCast_dvd_natCast.2 this
 have h5:(a % (2^64:Int)).toNat % 2^k<2^k:=Nat.mod_lt _ hp0
 rw [<-h4]
 omega
end
section
open Go Go.RowKit
def Tr.go {α:Type}:Tr α->List Bool->Option (List Bool × α)
 | .ret a,_=>some ([],a)
 | .ite b t e,[]=>(t.go []).map fun r=>(b::r.1,r.2)
 | .ite b t e,true::ds=>(t.go ds).map fun r=>(b::r.1,r.2)
 | .ite b t e,false::ds=>(e.go ds).map fun r=>((!b)::r.1,r.2)
 | .fail,_=>none
def AllT:List Bool->Prop
 | []=>True
 | c::cs=>c=true/\AllT cs
theorem AllT.nil:AllT []:=trivial
theorem AllT.cons {c:Bool}{cs:List Bool}(h:c=true) (h':AllT cs):AllT (c::cs):=⟨h,h'⟩
theorem Tr.go_eval {α:Type}:∀ {t:Tr α}{ds cs:List Bool}{a:α},t.go ds=some (cs,a)->AllT cs->t.eval=some a
 | .ret a,ds,cs,a',h,_=>by
  simp only [Tr.go,Option.some.injEq,Prod.mk.injEq] at h
  rw [Tr.eval_ret,h.2]
 | .ite b t e,[],cs,a,h,hc=>by
  simp only [Tr.go,Option.map_eq_some_iff] at h
  obtain ⟨r,hr,h⟩:=h
  cases h
  rw [Tr.eval_ite,if_pos hc.1]
  exact Tr.go_eval hr hc.2
 | .ite b t e,true::ds,cs,a,h,hc=>by
  simp only [Tr.go,Option.map_eq_some_iff] at h
  obtain ⟨r,hr,h⟩:=h
  cases h
  rw [Tr.eval_ite,if_pos hc.1]
  exact Tr.go_eval hr hc.2
 | .ite b t e,false::ds,cs,a,h,hc=>by
  simp only [Tr.go,Option.map_eq_some_iff] at h
  obtain ⟨r,hr,h⟩:=h
  cases h
  rw [Tr.eval_ite,if_neg (by have:=hc.1;simp at this;simp [this])]
  exact Tr.go_eval hr hc.2
 | .fail,ds,cs,a,h,_=>by cases h
end
section
open Go Go.RowKit
def CodeSem (G:Ctx2) (n0:Nat) (c:Code) (S:St) (r:Ex × St):Prop:=
 ∀ (B:Nat) (m0:List Pl) (h0:AHeap) (w0:World) (a:Act) (w:World),h0.length=n0->m0.length=h0.length->RI B m0 h0 w0 S a w →
  ∀ Q,(∀ a' w',RI B m0 h0 w0 r.2 a' w'->Q (toExit r.1) a' w')->c.wp G.P Q a w
def LoopsSem (G:Ctx2) (n0:Nat) (ℓ:Loops):Prop:=∀ d b S r,(ℓ d b S).eval=some r->CodeSem G n0 (.loop b) S r
theorem CodeSem.canon {G:Ctx2}{n0:Nat}{c:Code}{S:St}{r:Ex × St}(T:List TI) (k:List (Nat × Option TypeId)) (h:CodeSem G n0 c S r):CodeSem G n0 c S (r.1,canon T n0 k r.2):=by
 intro B m0 h0 w0 a w hn H0 hI Q hQ
 refine h B m0 h0 w0 a w hn H0 hI Q fun a' w' hI'=>hQ a' w' ?_
 subst hn
 exact canon_ok H0 hI'
theorem lrun_sem {G:Ctx2}(hG:XOk G) {ℓ:Loops}{n0:Nat}(hℓ:LoopsSem G n0 ℓ):∀ (d:Nat) (c:Code) (S:St) (e:Ex) (S':St),(lrun G ℓ n0 d c S).eval=some (e,S')->CodeSem G n0 c S (e,S')
 | 0,c,S,e,S',he=>by simp [lrun,Tr.eval] at he
 | d+1,c,S,e,S',he=>by
  have ih:=lrun_sem hG hℓ d
  intro B m0 h0 w0 a w hn H0 hI Q hQ
  cases c with
  | skip=>
   simp only [lrun,Tr.eval,Option.some.injEq,Prod.mk.injEq] at he
   obtain ⟨rfl,rfl⟩:=he
   exact wp_skip (hQ a w hI)
  | region id ops draw=>
   simp only [lrun,Tr.eval_bind] at he
   cases draw with
   | false=>
    simp only [Bool.false_eq_true,if_false] at he
    cases h1:(regSeq G ops ops.toList S).eval with
    | none=>simp [h1] at he
    | some S1=>
     rw [h1] at he
     simp only [Option.bind_some,Tr.eval,Option.some.injEq,Prod.mk.injEq] at he
     obtain ⟨rfl,rfl⟩:=he
     exact wp_region_list (regSeq_ok hG ops.toList S a w hI h1 hQ)
   | true=>
    simp only [if_true] at he
    cases h1:(regDraw G ops S).eval with
    | none=>simp [h1] at he
    | some S1=>
     rw [h1] at he
     simp only [Option.bind_some,Tr.eval,Option.some.injEq,Prod.mk.injEq] at he
     obtain ⟨rfl,rfl⟩:=he
     exact regDraw_ok hG hI h1 Q hQ
  | seq x y=>
   simp only [lrun,Tr.eval_bind] at he
   cases h1:(lrun G ℓ n0 d x S).eval with
   | none=>simp [h1] at he
   | some r=>
    obtain ⟨e1,S1⟩:=r
    rw [h1] at he
    simp only [Option.bind_some] at he
    refine wp_seq (ih x S e1 S1 h1 B m0 h0 w0 a w hn H0 hI _ ?_)
    intro a' w' hI'
    cases e1 with
    | normal=>exact ih y S1 e S' he B m0 h0 w0 a' w' hn H0 hI' Q hQ
    | exit id=>
     simp only [Tr.eval,Option.some.injEq,Prod.mk.injEq] at he
     obtain ⟨rfl,rfl⟩:=he
     exact hQ a' w' hI'
    | ret=>
     simp only [Tr.eval,Option.some.injEq,Prod.mk.injEq] at he
     obtain ⟨rfl,rfl⟩:=he
     exact hQ a' w' hI'
  | cond c x y=>
   simp only [lrun] at he
   split at he
   ·rename_i t
    split at he
    ·rename_i b hb
     rw [Tr.eval_ite] at he
     have hbv:=hI.bool hb
     have hev:a.eval (.tmp t)=.bool b:=by
      simp [Act.eval,Array.getD_eq_getD_getElem?,hbv]
     cases b with
     | true=>
      rw [if_pos rfl] at he
      exact wp_cond_true hev (ih x _ e S' he B m0 h0 w0 a w hn H0 (hI.lit hb) Q hQ)
     | false=>
      rw [if_neg (by simp)] at he
      exact wp_cond_false hev (ih y _ e S' he B m0 h0 w0 a w hn H0 (hI.lit hb) Q hQ)
    ·cases he
   ·cases he
  | block id x=>
   simp only [lrun,Tr.eval_bind] at he
   cases h1:(lrun G ℓ n0 d x S).eval with
   | none=>simp [h1] at he
   | some r=>
    obtain ⟨e1,S1⟩:=r
    rw [h1] at he
    simp only [Option.bind_some] at he
    refine wp_block (ih x S e1 S1 h1 B m0 h0 w0 a w hn H0 hI _ ?_)
    intro a' w' hI'
    cases e1 with
    | normal=>
     simp only [Tr.eval,Option.some.injEq,Prod.mk.injEq] at he
     obtain ⟨rfl,rfl⟩:=he
     exact hQ a' w' hI'
    | exit k=>
     simp only at he
     split at he
     ·rename_i hk
      simp only [Tr.eval,Option.some.injEq,Prod.mk.injEq] at he
      obtain ⟨rfl,rfl⟩:=he
      show (if k=id then Q .normal a' w' else Q (.exit k) a' w')
      rw [if_pos hk]
      exact hQ a' w' hI'
     ·rename_i hk
      simp only [Tr.eval,Option.some.injEq,Prod.mk.injEq] at he
      obtain ⟨rfl,rfl⟩:=he
      show (if k=id then Q .normal a' w' else Q (.exit k) a' w')
      rw [if_neg hk]
      exact hQ a' w' hI'
    | ret=>
     simp only [Tr.eval,Option.some.injEq,Prod.mk.injEq] at he
     obtain ⟨rfl,rfl⟩:=he
     exact hQ a' w' hI'
  | loop x=>
   simp only [lrun] at he
   refine hℓ d x _ (e,S') he B m0 h0 w0 a w hn H0 ?_ Q hQ
   subst hn
   exact canon_ok H0 hI
  | exit id=>
   simp only [lrun,Tr.eval,Option.some.injEq,Prod.mk.injEq] at he
   obtain ⟨rfl,rfl⟩:=he
   exact wp_exit (hQ a w hI)
  | ret=>
   simp only [lrun,Tr.eval,Option.some.injEq,Prod.mk.injEq] at he
   obtain ⟨rfl,rfl⟩:=he
   exact wp_ret (hQ a w hI)
  | rangeFunc _ _ _ _=>simp [lrun,Tr.eval] at he
  | scope _=>simp [lrun,Tr.eval] at he
  | label _=>simp [lrun,Tr.eval] at he
  | goto _=>simp [lrun,Tr.eval] at he
  | refuse _=>simp [lrun,Tr.eval] at he
noncomputable def rT (G:Ctx2) (ℓ:Loops) (n0 d:Nat) (b:Code) (k ka:List (Nat × Option TypeId)) (S:St):Tr (Ex × St):=
 (lrun G ℓ n0 d b S).bind fun r=>.ret (r.1,match r.1 with | .normal=>canon G.T n0 k r.2 | _=>canon G.T n0 ka r.2)
theorem rT_sem {G:Ctx2}(hG:XOk G) {ℓ:Loops}{n0 d:Nat}(hℓ:LoopsSem G n0 ℓ) {b:Code}{k ka:List (Nat × Option TypeId)}{S:St}{r:Ex × St}(h:(rT G ℓ n0 d b k ka S).eval=some r):CodeSem G n0 b S r:=by
 unfold rT at h
 rw [Tr.eval_bind] at h
 cases h1:(lrun G ℓ n0 d b S).eval with
 | none=>rw [h1] at h;cases h
 | some x=>
  obtain ⟨e,S1⟩:=x
  rw [h1] at h
  simp only [Option.bind_some,Tr.eval,Option.some.injEq] at h
  subst h
  have hs:=lrun_sem hG hℓ d b S e S1 h1
  cases e with
  | normal=>exact hs.canon G.T k
  | exit i=>exact hs.canon G.T ka
  | ret=>exact hs.canon G.T ka
theorem rounds_sem {G:Ctx2}{n0:Nat}{b:Code}(st:Nat->St) {N:Nat}{e:Ex}{Se:St}(he:e ≠ .normal) (hN:CodeSem G n0 b (st N) (e,Se)) :
  ∀ (L i:Nat),i<=N->N<L+i->(∀ j,i<=j->j<N->CodeSem G n0 b (st j) (.normal,st (j+1))) →
   ∀ (B:Nat) (m0:List Pl) (h0:AHeap) (w0:World) (a:Act) (w:World),h0.length=n0->m0.length=h0.length->RI B m0 h0 w0 (st i) a w →
    ∀ Q,(∀ a' w',RI B m0 h0 w0 Se a' w'->Q (toExit e) a' w')->Code.rounds G.P b Q L a w
 | 0,i,hi,hL,_=>by omega
 | L+1,i,hi,hL,h=>by
  intro B m0 h0 w0 a w hn H0 hI Q hQ
  rw [rounds_succ]
  rcases Nat.lt_or_ge i N with hlt|hge
  ·refine h i (Nat.le_refl _) hlt B m0 h0 w0 a w hn H0 hI _ ?_
   intro a' w' hI'
   show Code.rounds G.P b Q L a' w'
   exact rounds_sem st he hN L (i+1) (by omega) (by omega) (fun j hj hjN=>h j (by omega) hjN) B m0 h0 w0 a' w' hn H0 hI' Q hQ
  ·have:i=N:=by omega
   subst this
   refine hN B m0 h0 w0 a w hn H0 hI _ ?_
   intro a' w' hI'
   cases e with
   | normal=>exact absurd rfl he
   | exit id=>exact hQ a' w' hI'
   | ret=>exact hQ a' w' hI'
theorem loop_of {G:Ctx2}{n0:Nat}{b:Code}(st:Nat->St) (N:Nat) {e:Ex}{Se:St}(he:e ≠ .normal) (hN:CodeSem G n0 b (st N) (e,Se)) (hs:∀ j,j<N->CodeSem G n0 b (st j) (.normal,st (j+1))):CodeSem G n0 (.loop b) (st 0) (e,Se):=by
 intro B m0 h0 w0 a w hn H0 hI Q hQ
 exact wp_loop_rounds (N+1) (rounds_sem st he hN (N+1) 0 (Nat.zero_le _) (by omega) (fun j _ hj=>hs j hj) B m0 h0 w0 a w hn H0 hI Q hQ)
theorem noLoopsS {G:Ctx2}{n0:Nat}:LoopsSem G n0 (fun _ _ _=>.fail):=fun _ _ _ _ h=>by cases h
noncomputable def nol:Loops:=fun _ _ _=>.fail
noncomputable def tell (b0:Code) (S0:St) (r:Ex × St):Loops:=fun d b S=>.need (yes (b=b0/\S=S0)) (.ret r)
abbrev wasS (b0:Code) (S0:St):Prop:=b0=b0/\S0=S0
theorem tell_ok {G:Ctx2}{n0:Nat}{b0:Code}{S0:St}{r:Ex × St}(h:CodeSem G n0 (.loop b0) S0 r):LoopsSem G n0 (tell b0 S0 r):=by
 intro d b S r' he
 obtain ⟨h1,h2⟩:=Tr.eval_need.1 he
 have:b=b0/\S=S0:=by simpa [yes] using h1
 obtain ⟨rfl,rfl⟩:=this
 cases h2
 exact h
theorem byReg_sem {G:Ctx2}{n0 r:Nat}{a b:Loops}(ha:LoopsSem G n0 a) (hb:LoopsSem G n0 b):LoopsSem G n0 (byReg r a b):=by
 intro d c S x h
 unfold byReg at h
 split at h
 ·exact ha d c S x h
 ·exact hb d c S x h
theorem rT_go {G:Ctx2}{ℓ:Loops}{n0 d:Nat}{b:Code}{k ka:List (Nat × Option TypeId)}{S:St}{ds cs:List Bool}{r:Ex × St}(h:(rT G ℓ n0 d b k ka S).go ds=some (cs,r)) (hc:AllT cs):(rT G ℓ n0 d b k ka S).eval=some r:=Tr.go_eval h hc
theorem lfun_spec {G:Ctx2}(hG:XOk G) {f:FuncId}{fn:Func}(hf:G.P.funcs[f]?=some fn) {F:Spec}
  (hF:∀ args h r,(F args h).eval=some r->∃ d ℓ,LoopsSem G h.length ℓ/\(lfun G ℓ d fn args h).eval=some r):SpecOk G.P f F:=by
 intro B args H r H' hF' m w vals hH hB hv
 obtain ⟨d,ℓ,hℓ,he⟩:=hF args H (r,H') hF'
 unfold lfun at he
 split at he
 ·cases he
 ·rename_i c hc
  refine calls_of_wp hf hc ?_
  rw [Tr.eval_bind] at he
  cases h1:(lrun G ℓ H.length d c ⟨args++List.replicate (fn.ntmps-args.length) (.c .any),H⟩).eval with
  | none=>simp [h1] at he
  | some rS=>
   obtain ⟨e,S⟩:=rS
   rw [h1] at he
   simp only [Option.bind_some] at he
   have hlen:args.length=vals.size:=by simpa using hv.length
   have hI0:RI B m H w ⟨args++List.replicate (fn.ntmps-args.length) (.c .any),H⟩ { tmps:=vals++Array.replicate (fn.ntmps-vals.size) undef,defers:=[] } w:=by
    refine ⟨hB,⟨m,Step.refl hH,?_⟩,rfl⟩
    refine ⟨by simp [hlen],fun t v ht=>?_⟩
    rcases Nat.lt_or_ge t args.length with hl|hl
    ·simp only at ht
     rw [List.getElem?_append_left hl] at ht
     obtain ⟨y,hy,hr⟩:=hv.get t v ht
     refine ⟨y,?_,hr⟩
     rw [Array.getElem?_append_left (by rw [<-hlen];exact hl)]
     simpa using hy
    ·simp only at ht
     rw [List.getElem?_append_right hl,List.getElem?_replicate] at ht
     split at ht
     ·rename_i hlt
      cases ht
      refine ⟨undef,?_,by simp [VR,CR]⟩
      rw [Array.getElem?_append_right (by rw [<-hlen];exact hl),Array.getElem?_replicate,if_pos (by rw [<-hlen];exact hlt)]
     ·cases ht
   have fin:∀ (e:Ex),((resL G.T S fn.results.toList).bind fun l=>(.ret (renAV (idxIn (closeOf S.h 10000 (refsOf S.h H.length++refAV (oneRes l)) (List.range H.length))) (oneRes l),subHeap S.h (closeOf S.h 10000 (refsOf S.h H.length++refAV (oneRes l)) (List.range H.length))):Tr (AV × AHeap))).eval=some (r,H') →
     ∀ a' w',RI B m H w S a' w'->a'.defers=[]/\∃ v,(results fn a'.tmps).run G.P w'=.ok v w'/\∃ m' x,Ending.returned v=.returned x/\Step B m H w m' H' w'/\VR m' r x:=by
    intro _ he a' w' hI
    obtain ⟨_,⟨mf,hst,hs⟩,hd⟩:=hI
    refine ⟨hd,?_⟩
    rw [Tr.eval_bind] at he
    cases h2:(resL G.T S fn.results.toList).eval with
    | none=>simp [h2] at he
    | some l=>
     rw [h2] at he
     simp only [Option.bind_some,Tr.eval,Option.some.injEq,Prod.mk.injEq] at he
     obtain ⟨rfl,rfl⟩:=he
     obtain ⟨vs,hr,hvs⟩:=resL_ok hG ⟨hB,⟨mf,hst,hs⟩,hd⟩ hst hs _ l h2
     refine ⟨_,?_,_,_,rfl,hst.sub hH.len,VR.ren (subPl_ren _) (oneRes_ok hvs)⟩
     rw [results_eq]
     simp only [Sem.run_bind,Array.mapM_eq_mapM_toList]
     have hmap:(List.toArray <$> (fn.results.toList.mapM (resRun a'.tmps))).run G.P w'=.ok vs.toArray w':=by
      rw [<-bind_pure_comp,Sem.run_bind,hr]
      rfl
     rw [hmap]
     rfl
   have hfin:=lrun_sem hG hℓ d c _ e S h1 B m H w _ w rfl hH.len hI0
   cases e with
   | normal=>exact hfin _ fun a' w' hI=>fin .normal he a' w' hI
   | exit id=>cases he
   | ret=>exact hfin _ fun a' w' hI=>fin .ret he a' w' hI
theorem knownS {K:Known}(hK:KnownOk K) {f:Nat}{fn:Func}(hf:Try.prog.funcs[f]?=some fn) {F:Spec}
  (h:∀ args h r,(F args h).eval=some r->∃ keep ts d ℓ,LoopsSem (GT K keep 0 ts) h.length ℓ/\(lfun (GT K keep 0 ts) ℓ d fn args h).eval=some r):SpecOk Try.prog f F:=
 fun B args h' r H' he=>by
  obtain ⟨keep,ts,d,ℓ,hℓ,he'⟩:=h _ _ _ he
  exact lfun_spec (F:=fun a hh=>.need (yes (a=args/\hh=h')) (.ret (r,H'))) (GT_ok hK keep 0 ts) hf (fun a hh r' hr=>by
   obtain ⟨⟨e1,e2⟩,e3⟩:=(Tr.eval_ask (p:=a=args/\hh=h') (t:=.ret (r,H'))).1 hr
   subst e1 e2
   rw [Tr.eval_ret] at e3
   cases e3
   exact ⟨d,ℓ,hℓ,he'⟩) B args h' r H' (Tr.eval_ask.2 ⟨⟨rfl,rfl⟩,rfl⟩)
noncomputable def trueS (K:Known) (fn:Func):Spec:=fun args h=>.need (yes (∃ keep ts d ℓ,LoopsSem (GT K keep 0 ts) h.length ℓ/\(lfun (GT K keep 0 ts) ℓ d fn args h).eval=some (Bo true,h))) (.ret (Bo true,h))
theorem trueS_ok {K:Known}(hK:KnownOk K) {f:Nat}{fn:Func}(hf:Try.prog.funcs[f]?=some fn):SpecOk Try.prog f (trueS K fn):=by
 refine knownS hK hf fun args h r he=>?_
 obtain ⟨h1,he⟩:=Tr.eval_ask.1 he
 cases he
 exact h1
end
section
open Go Go.RowKit Go.ChangeShapes Go.WideShapes Go.ChangeAt
def headNums:List Nat:=[104,97,114,110,101,115,115,32,48,53,49,54,98,53,97,48,101,48,54,50,102,51,97,50,102,98,54,50,56,49,54,48,102,53,54,56,52,53,52,57,99,102,51,99,52,51,48,97,51,99,97,97,53,55,102,57,56,55,52,52,52,102,52,102,101,53,51,97,100,56,48,98,32,99,117,116,32,97,116,32,113,117,111,105,110,47,113,117,111,105,110,108,97,119,49,53,46,70,111,108,100,66,111,117,110,100,115,32,113,117,111,105,110,47,113,117,111,105,110,108,97,119,49,53,46,70,111,108,100,84,101,108,108,115,32,113,117,111,105,110,47,113,117,111,105,110,108,97,119,57,46,71,97,117,103,66,121,116,101,115,32,113,117,111,105,110,47,113,117,111,105,110,108,97,119,57,46,71,97,117,103,84,101,108,108,115,32,113,117,111,105,110,47,113,117,111,105,110,108,97,119,57,46,71,97,117,103,80,97,114,116,115,32,113,117,111,105,110,47,113,117,111,105,110,108,97,119,50,46,82,101,99,116,69,100,103,101,115,32,113,117,111,105,110,47,113,117,111,105,110,108,97,119,50,46,82,101,99,116,74,111,105,110,115,32,113,117,111,105,110,47,113,117,111,105,110,108,97,119,50,46,82,101,99,116,84,101,108,108,115,32,113,117,111,105,110,47,113,117,111,105,110,108,97,119,50,46,82,101,99,116,80,111,105,110,116,115,32,113,117,111,105,110,47,113,117,111,105,110,108,97,119,49,54,46,83,116,97,107,79,112,101,110,115,32,113,117,111,105,110,47,113,117,111,105,110,108,97,119,49,54,46,83,116,97,107,82,105,115,101,115,32,113,117,111,105,110,47,113,117,111,105,110,108,97,119,49,54,46,83,116,97,107,84,101,108,108,115,32,113,117,111,105,110,47,113,117,111,105,110,108,97,119,49,54,46,83,116,97,107,77,101,101,116,115,32,113,117,111,105,110,47,113,117,111,105,110,108,97,119,49,54,46,83,116,97,107,69,109,112,116,121,32,113,117,111,105,110,47,113,117,111,105,110,108,97,119,50,48,46,67,114,111,115,70,105,108,108,115,32,113,117,111,105,110,47,113,117,111,105,110,108,97,119,50,48,46,67,114,111,115,76,105,110,101,115,32,113,117,111,105,110,47,113,117,111,105,110,108,97,119,50,48,46,67,114,111,115,84,101,108,108,115,32,113,117,111,105,110,47,113,117,111,105,110,108,97,119,50,48,46,67,114,111,115,87,105,116,104,105,110,32,113,117,111,105,110,47,113,117,111,105,110,108,97,119,49,48,46,87,104,105,116,80,97,114,116,115,32,113,117,111,105,110,47,113,117,111,105,110,108,97,119,49,48,46,87,104,105,116,72,111,108,100,115,32,113,117,111,105,110,47,113,117,111,105,110,108,97,119,49,48,46,87,104,105,116,84,101,108,108,115,32,113,117,111,105,110,47,113,117,111,105,110,108,97,119,49,48,46,87,104,105,116,82,111,119,115,32,113,117,111,105,110,47,113,117,111,105,110,108,97,119,49,48,46,87,104,105,116,80,114,101,32,113,117,111,105,110,47,113,117,111,105,110,108,97,119,49,49,46,66,114,107,87,111,114,100,115,32,113,117,111,105,110,47,113,117,111,105,110,108,97,119,49,49,46,66,114,107,87,104,111,108,101,32,113,117,111,105,110,47,113,117,111,105,110,108,97,119,49,49,46,66,114,107,84,101,108,108,115,32,113,117,111,105,110,47,113,117,111,105,110,108,97,119,49,49,46,66,114,107,70,117,108,108,32,113,117,111,105,110,47,113,117,111,105,110,108,97,119,49,49,46,66,114,107,76,101,97,115,116,32,113,117,111,105,110,47,113,117,111,105,110,108,97,119,49,50,46,82,111,119,72,101,105,103,104,116,115,32,113,117,111,105,110,47,113,117,111,105,110,108,97,119,49,50,46,82,111,119,82,111,111,109,32,113,117,111,105,110,47,113,117,111,105,110,108,97,119,49,50,46,82,111,119,80,105,101,99,101,115,32,113,117,111,105,110,47,113,117,111,105,110,108,97,119,49,50,46,82,111,119,84,101,108,108,115,32,113,117,111,105,110,47,113,117,111,105,110,108,97,119,49,50,46,82,111,119,83,116,97,110,100,115,32,113,117,111,105,110,47,113,117,111,105,110,108,97,119,49,50,46,82,111,119,65,108,105,103,110,115,32,113,117,111,105,110,47,113,117,111,105,110,108,97,119,50,53,46,87,105,114,101,76,111,110,103,32,113,117,111,105,110,47,113,117,111,105,110,108,97,119,50,53,46,87,105,114,101,84,101,108,108,115,32,113,117,111,105,110,47,113,117,111,105,110,108,97,119,50,53,46,87,105,114,101,66,97,99,107]
theorem head_str:Try.prog.initOrder=String.ofList (headNums.map Char.ofNat):=by kernel_rfl
theorem head_list:Try.prog.initOrder.toList=headNums.map Char.ofNat:=by
 rw [head_str,String.toList_ofList]
theorem head_words:∃ T,behindMainWord (wordsSigns Try.prog.initOrder.toList) = "cut".toList::T:=
 ⟨(behindMainWord (wordsSigns (headNums.map Char.ofNat))).tail,by rw [head_list];kernel_rfl⟩
theorem strip_cut (T:List (List Char)):stripLifts liftWords ("cut".toList::T)=([], "cut".toList::T):=by kernel_rfl
section
variable {P:Program}{T:List (List Char)}
theorem headLifts_of (h:behindMainWord (wordsSigns P.initOrder.toList) = "cut".toList::T):P.headLifts=[]:=by
 unfold Program.headLifts
 rw [h,strip_cut]
 kernel_rfl
theorem mayEnter_of (h:behindMainWord (wordsSigns P.initOrder.toList) = "cut".toList::T) (h1:P.laysLater=false) (h2:P.bearsReflect=false) (h3:P.doorRows=[]):P.mayEnter=true:=by
 unfold Program.mayEnter Program.doorFits
 rw [h]
 simp only [strip_cut,h1,h2,h3]
 simp
theorem liftsFinal_of (h:behindMainWord (wordsSigns P.initOrder.toList) = "cut".toList::T):P.liftsFinal=false:=by
 have hl:=headLifts_of h
 unfold Program.liftsFinal
 rw [h,hl]
 simp
theorem make_of (h:behindMainWord (wordsSigns P.initOrder.toList) = "cut".toList::T):P.make=some .cut:=by
 have hl:=headLifts_of h
 unfold Program.make
 rw [h]
 simp only [hl]
 simp
end
theorem laysLater_ok:Try.prog.laysLater=false:=by kernel_rfl
theorem bearsReflect_ok:Try.prog.bearsReflect=false:=by kernel_rfl
theorem doorRows_ok:Try.prog.doorRows=[]:=by kernel_rfl
theorem mayEnter_ok:Try.prog.mayEnter=true:=head_words.elim fun _ h=>mayEnter_of h laysLater_ok bearsReflect_ok doorRows_ok
theorem liftsFinal_ok:Try.prog.liftsFinal=false:=head_words.elim fun _ h=>liftsFinal_of h
theorem make_ok:Try.prog.make=some .cut:=head_words.elim fun _ h=>make_of h
end
section
open Go Go.RowKit Go.ChangeShapes Go.WideShapes Go.ChangeAt
inductive Kd where
 | int (k:IntKind)
 | bool
 | str
 deriving DecidableEq
def Kd.ok:Kd->Value->Prop
 | .int k,v=>∃ n,v=.int k n/\(Lit.int k n).wf=true
 | .bool,v=>∃ b,v=.bool b
 | .str,v=>∃ s:ByteArray,v=.string s/\s.size<=maxLen
def Kd.desc:Kd->TypeDesc
 | .int k=>.int k
 | .bool=>.bool
 | .str=>.string
def Kd.zero:Kd->Value
 | .int k=>.int k 0
 | .bool=>.bool false
 | .str=>.string ⟨#[]⟩
theorem Kd.zero_ok (k:Kd):k.ok k.zero:=by
 cases k with
 | int k=>exact ⟨0,rfl,by cases k <;> decide⟩
 | bool=>exact ⟨false,rfl⟩
 | str=>exact ⟨⟨#[]⟩,rfl,by decide⟩
theorem Kd.zeros_ok:∀ ks:List Kd,F2 Kd.ok ks (ks.map Kd.zero)
 | []=>.nil
 | k::ks=>.cons k.zero_ok (Kd.zeros_ok ks)
theorem Kd.one {k:Kd}{v:Value}(h:k.ok v):oneV v=true:=by
 cases k with
 | int k=>obtain ⟨n,rfl,_⟩:=h;rfl
 | bool=>obtain ⟨b,rfl⟩:=h;rfl
 | str=>obtain ⟨s,rfl,_⟩:=h;rfl
def flatFs (P:Program) (g:TypeId->Option (List Kd)):List Field->Nat->Option (List Kd)
 | [],_=>some []
 | f::fs,off=>
  if f.offset != off then none else
  match g f.type,flatFs P g fs (off+P.cellsOf f.type) with
  | some a,some b=>if a.length=P.cellsOf f.type then some (a++b) else none
  | _,_=>none
def flatIn (P:Program):Nat->TypeId->Option (List Kd)
 | 0,_=>none
 | d+1,t=>
  match P.underlying t with
  | some (.int k)=>some [.int k]
  | some .bool=>some [.bool]
  | some .string=>some [.str]
  | some (.struct fs)=>match flatFs P (flatIn P d) fs.toList 0 with
   | some ks=>if ks.length=P.cellsOf t then some ks else none
   | none=>none
  | some (.array n e)=>match flatIn P d e with
   | some ks=>if ks.length=P.cellsOf e/\n*ks.length=P.cellsOf t then some (List.replicate n ks).flatten else none
   | none=>none
  | _=>none
section
variable {H:Type}{enc:TypeId × Value->H}{P:Program}{w:World}{base:Nat}{spare:Nat->Bool}{held:Bool}
theorem flatFs_mem {g:TypeId->Option (List Kd)}:∀ {fs:List Field}{off:Nat} {ks},flatFs P g fs off=some ks->∀ f ∈ fs,∃ a,g f.type=some a
 | [],_,_,_,f,hf=>by cases hf
 | f'::fs,off,ks,h,f,hf=>by
  simp only [flatFs] at h
  split at h
  ·cases h
  ·split at h
   ·rename_i a b ha hb
    rcases List.mem_cons.1 hf with rfl|hf
    ·exact ⟨a,ha⟩
    ·exact flatFs_mem hb f hf
   ·cases h
theorem flatFs_ok {g:TypeId->Option (List Kd)}{n:Nat}{cs:List Value}(hg:∀ t a,g t=some a->∀ cs x,DataW.trod enc P w base spare held n t cs=some x->F2 Kd.ok a cs/\x.2=[]) :
  ∀ {fs:List Field}{off:Nat} {ks},flatFs P g fs off=some ks->(∀ f ∈ fs,∃ y,DataW.trod enc P w base spare held n f.type ((cs.drop f.offset).take (P.cellsOf f.type))=some y) →
   F2 Kd.ok ks ((cs.drop off).take ks.length)
 | [],off,ks,h,_=>by
  simp only [flatFs,Option.some.injEq] at h
  subst h
  simpa using F2.nil
 | f::fs,off,ks,h,hy=>by
  simp only [flatFs] at h
  split at h
  ·cases h
  ·rename_i ho
   have ho':f.offset=off:=by simpa using ho
   split at h
   ·rename_i a b ha hb
    split at h
    ·rename_i hl
     simp only [Option.some.injEq] at h
     subst h
     obtain ⟨y,hyf⟩:=hy f List.mem_cons_self
     have h1:=(hg _ _ ha _ _ hyf).1
     have h2:=flatFs_ok (cs:=cs) hg hb (fun f' hf'=>hy f' (List.mem_cons_of_mem _ hf'))
     rw [ho',<-hl] at h1
     rw [<-hl] at h2
     have:=h1.append h2
     rw [List.length_append,List.take_add,List.drop_drop]
     exact this
    ·cases h
   ·cases h
theorem flatArr_ok {e:TypeId}{ks:List Kd}{n s:Nat}{cs:List Value}(hs:ks.length=s) (hg:∀ i,i<n->F2 Kd.ok ks ((cs.drop (i*s)).take s)) :
  ∀ m,m<=n->F2 Kd.ok (List.replicate m ks).flatten (cs.take (m*s))
 | 0,_=>by simpa using F2.nil
 | m+1,hm=>by
  have ih:=flatArr_ok (e:=e) hs hg m (by omega)
  have h1:=hg m (by omega)
  rw [List.replicate_succ',List.flatten_append]
  simp only [List.flatten_cons,List.flatten_nil,List.append_nil]
  rw [Nat.succ_mul,List.take_add]
  exact ih.append h1
theorem trod_flat:∀ (d:Nat) (t:TypeId) (ks:List Kd),flatIn P d t=some ks->∀ (fuel:Nat) (cs:List Value) x,DataW.trod enc P w base spare held fuel t cs=some x->F2 Kd.ok ks cs/\x.2=[]
 | 0,t,ks,hk,_,_,_,_=>by simp [flatIn] at hk
 | d+1,t,ks,hk,fuel,cs,x,h=>by
  simp only [flatIn] at hk
  split at hk
  ·rename_i k hu
   simp only [Option.some.injEq] at hk
   subst hk
   obtain ⟨n,rfl,rfl,hw⟩:=DataW.trod_int hu h
   exact ⟨.cons ⟨n,rfl,hw⟩ .nil,rfl⟩
  ·rename_i hu
   simp only [Option.some.injEq] at hk
   subst hk
   obtain ⟨b,rfl,rfl⟩:=DataW.trod_bool hu h
   exact ⟨.cons ⟨b,rfl⟩ .nil,rfl⟩
  ·rename_i hu
   simp only [Option.some.injEq] at hk
   subst hk
   obtain ⟨s,rfl,rfl,hw⟩:=DataW.trod_string hu h
   exact ⟨.cons ⟨s,rfl,hw⟩ .nil,rfl⟩
  ·rename_i fs hu
   split at hk
   ·rename_i ks' hfs
    split at hk
    ·rename_i hl
     simp only [Option.some.injEq] at hk
     subst hk
     obtain ⟨xs,n,_,rfl,hlen,hxs,hf⟩:=DataW.trod_struct hu h
     have hall:∀ f ∈ fs.toList,∃ y,y ∈ xs/\DataW.trod enc P w base spare held n f.type ((cs.drop f.offset).take (P.cellsOf f.type))=some y:=by
      intro f hf'
      obtain ⟨i,hi,rfl⟩:=List.getElem_of_mem hf'
      have hi':i<fs.size:=by simpa using hi
      have:=hf i fs.toList[i] (by simp [hi'])
      have hix:i<xs.length:=by omega
      rw [List.getElem?_eq_getElem hix] at this
      exact ⟨_,List.getElem_mem hix,this⟩
     have h1:=flatFs_ok (cs:=cs) (fun t a ha cs x=>trod_flat d t a ha n cs x) hfs fun f hf'=>(hall f hf').elim fun y hy=>⟨y,hy.2⟩
     rw [List.drop_zero,hl,<-hlen,List.take_length] at h1
     refine ⟨h1,?_⟩
     show xs.flatMap (·.2)=[]
     rw [List.flatMap_eq_nil_iff]
     intro y hy
     obtain ⟨i,hi,rfl⟩:=List.getElem_of_mem hy
     have hif:i<fs.size:=by omega
     have hfi:=hf i fs[i] (by simp [hif])
     rw [List.getElem?_eq_getElem hi] at hfi
     obtain ⟨a,ha⟩:=flatFs_mem hfs fs[i] (by simp)
     exact (trod_flat d _ a ha n _ _ hfi).2
    ·cases hk
   ·cases hk
  ·rename_i n e hu
   split at hk
   ·rename_i ks' he
    split at hk
    ·rename_i hl
     simp only [Option.some.injEq] at hk
     subst hk
     obtain ⟨xs,m,_,rfl,hlen,hxs,hf⟩:=DataW.trod_array hu h
     have hall:∀ i,i<n->F2 Kd.ok ks' ((cs.drop (i*P.cellsOf e)).take (P.cellsOf e))/\∀ y,xs[i]?=some y->y.2=[]:=by
      intro i hi
      have hix:i<xs.length:=by omega
      have:=hf i hi
      rw [List.getElem?_eq_getElem hix] at this
      have h2:=trod_flat d e ks' he m _ _ this
      refine ⟨h2.1,fun y hy=>?_⟩
      rw [List.getElem?_eq_getElem hix] at hy
      cases hy
      exact h2.2
     have h1:=flatArr_ok (e:=e) (cs:=cs) hl.1 (fun i hi=>(hall i hi).1) n (Nat.le_refl _)
     have e1:n*P.cellsOf e=cs.length:=by rw [hlen,<-hl.1];exact hl.2
     rw [e1,List.take_length] at h1
     refine ⟨h1,?_⟩
     show xs.flatMap (·.2)=[]
     rw [List.flatMap_eq_nil_iff]
     intro y hy
     obtain ⟨i,hi,rfl⟩:=List.getElem_of_mem hy
     exact (hall i (by omega)).2 _ (by simp [hi])
    ·cases hk
   ·cases hk
  ·cases hk
end
inductive Shp where
 | one (k:Kd)
 | agg (ks:List Kd)
 | arr (n:Nat) (k:Kd)
 | rows (e:TypeId) (ks:List Kd)
inductive In where
 | one (v:Value)
 | agg (cs:List Value)
 | arr (f:Nat->Value)
 | rows (k:Nat) (f:Nat->List Value)
def InOk:Shp->In->Prop
 | .one k,.one v=>k.ok v/\∀ s,v=.string s->s.size<=reachBytes
 | .agg ks,.agg cs=>F2 Kd.ok ks cs
 | .arr _ k,.arr f=>∀ i,k.ok (f i)
 | .rows _ ks,.rows k f=>k<=maxLen/\∀ i,F2 Kd.ok ks (f i)
 | _,_=>False
def InsOk:List Shp->List In->Prop
 | [],[]=>True
 | s::ss,i::is=>InOk s i/\InsOk ss is
 | _,_=>False
def avIn (id:Nat):Shp->In->AV
 | _,.one v=>.c (.v v)
 | _,.agg cs=>.agg (ofCells cs)
 | .arr n _,.arr f=>.arr n f
 | _,.rows k _=>.c (.sl id 0 k)
 | _,_=>.c .any
def blkIn:Shp->In->AHeap
 | .rows e ks,.rows k f=>[some ⟨e,false,.row ks.length k f⟩]
 | _,_=>[]
def descIs:Option TypeDesc->Kd->Bool
 | some (.int a),.int b=>decide (a=b)
 | some .bool,.bool=>true
 | some .string,.str=>true
 | _,_=>false
theorem descIs_ok {o:Option TypeDesc}{k:Kd}(h:descIs o k=true):o=some k.desc:=by
 unfold descIs at h
 split at h
 ·have:=of_decide_eq_true h
  subst this
  rfl
 ·rfl
 ·rfl
 ·cases h
def sliceIs:Option TypeDesc->TypeId->Bool
 | some (.slice a),e=>decide (a=e)
 | _,_=>false
theorem sliceIs_ok {o:Option TypeDesc}{e:TypeId}(h:sliceIs o e=true):o=some (.slice e):=by
 unfold sliceIs at h
 split at h
 ·have:=of_decide_eq_true h
  subst this
  rfl
 ·cases h
theorem ins_cons {s:Shp}{ss:List Shp}{is:List In}(h:InsOk (s::ss) is):∃ i is',is=i::is'/\InOk s i/\InsOk ss is':=by
 cases is with
 | nil=>cases h
 | cons i is=>exact ⟨i,is,rfl,h.1,h.2⟩
theorem ins_i64 {ss:List Shp}{is:List In}(h:InsOk (.one (.int .i64)::ss) is):∃ (a:Int) (is':List In),is=.one (.int .i64 a)::is'/\InsOk ss is':=by
 obtain ⟨i,is',rfl,h1,h2⟩:=ins_cons h
 cases i with
 | one v=>
  obtain ⟨⟨a,rfl,_⟩,_⟩:=h1
  exact ⟨a,is',rfl,h2⟩
 | _=>cases h1
theorem ins_ints {e:TypeId}{ss:List Shp}{is:List In}(h:InsOk (.rows e [.int .i64]::ss) is):∃ (k:Nat) (g:Nat->Int) (is':List In),is=.rows k (fun i=>[.int .i64 (g i)])::is'/\InsOk ss is'/\k<=maxLen:=by
 obtain ⟨i,is',rfl,h1,h2⟩:=ins_cons h
 cases i with
 | rows k f=>
  obtain ⟨hk,h1⟩:=h1
  have:∀ i,∃ a,f i=[.int .i64 a]:=fun i=>by
   obtain ⟨b,hb,a,rfl,_⟩:=(h1 i).get 0 _ rfl
   have hl:=(h1 i).length
   match hf:f i,hl with
   | [x],_=>
    rw [hf] at hb
    cases hb
    exact ⟨a,rfl⟩
  refine ⟨k,fun i=>(this i).choose,is',?_,h2,hk⟩
  congr 2
  funext i
  exact (this i).choose_spec
 | _=>cases h1
def shpOk (P:Program) (t:TypeId) (s:Shp):Bool:=
 P.readableRec t&&decide (t<P.types.size) &&
 match s with
 | .one k=>descIs (P.underlying t) k
 | .agg ks=>flatIn P 9 t==some ks&&(match P.underlying t with|some (.struct _)=>true | _=>false)
 | .arr n k=>flatIn P 9 t==some (List.replicate n k)&&(match P.underlying t with|some (.struct _)=>true | _=>false)
 | .rows e ks=>sliceIs (P.underlying t) e&&flatIn P 9 e==some ks&&ks.length==P.cellsOf e&&decide (0<ks.length)
section
variable {H:Type}{enc:TypeId × Value->H}{P:Program}{W:World}{base:Nat}
def Came (B:Nat) (w:World) (o:Option ABlk) (p:Pl):Prop:=∃ b,o=some b/\b.own=false/\∀ m,BR B m b p w
theorem came_hr {B:Nat}{w:World}{h:AHeap}{m:List Pl}(H:F2 (Came B w) h m):HR B m h w/\∀ (id:Nat) b,h[id]?=some (some b)->b.own=false:=by
 have hown:∀ (id:Nat) b,h[id]?=some (some b)->b.own=false:=by
  intro id b hb
  obtain ⟨p,_,b',e,ho,_⟩:=H.get id _ hb
  cases e
  exact ho
 refine ⟨{ len:=H.length.symm,blk:=?_,apart:=?_ },hown⟩
 ·intro id b p hb hp
  obtain ⟨p',hp',b',e,_,hr⟩:=H.get id _ hb
  cases e
  rw [hp] at hp'
  cases hp'
  exact hr m
 ·intro id id' b b' p p' A A' _ hb _ ho
  rw [hown id b hb] at ho
  cases ho
theorem came_one {t:TypeId}{s:Shp}{v:Value}{d:DataW H}{p:List MemPlace}(hs:shpOk P t s=true) (hval:Value.okWide P W .any base t v) (ht:DataW.Trod enc P W 0 (fun _=>true) true t v d p) (hlt:∀ x ∈ p,x.block<W.heap.size) (hwt:(DataW.weights P t d).all (·<=reachBytes)=true) :
  ∃ (i:In) (ml:List Pl),InOk s i/\F2 (Came W.heap.size W) (blkIn s i) ml/\∀ m0:List Pl,∀ mr,VR (m0++(ml++mr)) (avIn m0.length s i) v:=by
 obtain ⟨fuel,hf⟩:=ht
 unfold shpOk at hs
 simp only [Bool.and_eq_true] at hs
 obtain ⟨_,hs⟩:=hs
 cases s with
 | one k=>
  have hu:P.underlying t=some k.desc:=descIs_ok hs
  refine ⟨.one v,[],?_,.nil,fun m0 mr=>(rfl:v=v)⟩
  show k.ok v/\_
  cases k with
  | int k=>
   obtain ⟨n,rfl⟩:=okWide_int hu hval
   obtain ⟨n',h,_,hw⟩:=DataW.trod_int hu hf
   simp [Value.cells] at h
   subst h
   exact ⟨⟨n,rfl,hw⟩,fun _ h=>nomatch h⟩
  | bool=>
   obtain ⟨b,rfl⟩:=okWide_bool hu hval
   exact ⟨⟨b,rfl⟩,fun _ h=>nomatch h⟩
  | str=>
   obtain ⟨n,rfl⟩:=okWide_string hu hval
   obtain ⟨n',h,hx,hw⟩:=DataW.trod_string hu hf
   simp [Value.cells] at h
   subst h
   refine ⟨⟨n,rfl,hw⟩,fun s' hs'=>?_⟩
   cases hs'
   simp only [Prod.mk.injEq] at hx
   rw [hx.1] at hwt
   simp only [DataW.weights,List.all_cons,Bool.and_eq_true,decide_eq_true_eq] at hwt
   simpa using hwt.1
 | agg ks=>
  simp only [Bool.and_eq_true,beq_iff_eq] at hs
  obtain ⟨hk,hu⟩:=hs
  split at hu
  ·rename_i fs hu'
   obtain ⟨cs,rfl,_⟩:=okWide_struct hu' hval
   have:=(trod_flat 9 t ks hk fuel _ _ hf).1
   exact ⟨.agg cs.toList,[],this,.nil,fun m0 mr=>⟨cs,rfl,F2_ofCells _ _⟩⟩
  ·cases hu
 | arr n k=>
  simp only [Bool.and_eq_true,beq_iff_eq] at hs
  obtain ⟨hk,hu⟩:=hs
  split at hu
  ·rename_i fs hu'
   obtain ⟨cs,rfl,_⟩:=okWide_struct hu' hval
   have h1:F2 Kd.ok (List.replicate n k) cs.toList:=(trod_flat 9 t _ hk fuel _ _ hf).1
   have hl:cs.size=n:=by have:=h1.length;simp at this;omega
   have hget:∀ i,k.ok (cs.toList.getD i k.zero):=by
    intro i
    rcases Nat.lt_or_ge i n with hi|hi
    ·obtain ⟨b,hb,hok⟩:=h1.get i k (by simp [hi])
     rw [List.getD_eq_getElem?_getD,hb]
     exact hok
    ·rw [List.getD_eq_getElem?_getD,List.getElem?_eq_none (by simp;omega)]
     exact k.zero_ok
   refine ⟨.arr fun i=>cs.toList.getD i k.zero,[],hget,.nil,fun m0 mr=>⟨?_,fun i _=>Kd.one (hget i)⟩⟩
   have:cs.toList=(List.range n).map fun i=>cs.toList.getD i k.zero:=by
    apply List.ext_getElem
    ·simp [hl]
    ·intro i h1 h2
     simp [List.getD_eq_getElem?_getD,List.getElem?_eq_getElem h1]
     have:i<cs.size:=by simpa using h1
     simp [this]
   rw [<-this]
  ·cases hu
 | rows e ks=>
  simp only [Bool.and_eq_true,beq_iff_eq,decide_eq_true_eq] at hs
  obtain ⟨⟨⟨hu0,hk⟩,hc⟩,hpos⟩:=hs
  have hu:=sliceIs_ok hu0
  obtain ⟨a0,len,cap,rfl⟩:=okWide_slice hu hval
  rcases DataW.trod_slice hu hf with ⟨hcs,hx⟩ | ⟨a,len',cap',elems,rest,n,_,hcs,hx,_,hl,hm,hlen,hel,_,_⟩
  ·simp [Value.cells] at hcs
   obtain ⟨rfl,rfl,rfl⟩:=hcs
   refine ⟨.rows 0 fun _=>ks.map Kd.zero,[⟨none,0,ks.length⟩],⟨Nat.zero_le _,fun i=>Kd.zeros_ok ks⟩,.cons ⟨_,rfl,rfl,fun m=>?_⟩ .nil,fun m0 mr=>?_⟩
   ·exact { sz:=rfl,len:=fun i hi=>absurd hi (Nat.not_lt_zero _),cap:=Nat.le_refl _,cell:=fun i j c hi=>absurd hi (Nat.not_lt_zero _),own:=fun h=>(by cases h),came:=fun _ A h=>(by cases h) }
   ·exact ⟨⟨none,0,ks.length⟩,none,0,by simp,rfl,⟨Nat.le_refl _,fun _=>rfl⟩,fun _=>⟨rfl,rfl⟩,fun h=>absurd h (Nat.lt_irrefl _)⟩
  ·simp [Value.cells] at hcs
   obtain ⟨rfl,rfl,rfl⟩:=hcs
   simp only [Prod.mk.injEq] at hx
   obtain ⟨rfl,rfl⟩:=hx
   have each:∀ i,i<len->∃ cs,W.cells? 0 (a.add (i*P.cellsOf e)) (P.cellsOf e)=some cs/\F2 Kd.ok ks cs/\∀ j,j<P.cellsOf e->W.cell? ((a.add (i*P.cellsOf e)).add j)=cs[j]?:=by
    intro i hi
    have:=hel i hi
    rw [List.getElem?_eq_getElem (by omega),Option.bind_eq_some_iff] at this
    obtain ⟨cs,hcs,hy⟩:=this
    exact ⟨cs,hcs,(trod_flat 9 e ks hk _ _ _ hy).1,(World.cells?_some hcs).2.2⟩
   let f:Nat->List Value:=fun i=>if i<len then (W.cells? 0 (a.add (i*P.cellsOf e)) (P.cellsOf e)).getD [] else ks.map Kd.zero
   have hfi:∀ i,i<len->F2 Kd.ok ks (f i)/\∀ j,j<P.cellsOf e->W.cell? ((a.add (i*P.cellsOf e)).add j)=(f i)[j]?:=by
    intro i hi
    obtain ⟨cs,h1,h2,h3⟩:=each i hi
    have:f i=cs:=by simp only [f,h1,Option.getD_some,hi,if_true]
    rw [this]
    exact ⟨h2,h3⟩
   have hall:∀ i,F2 Kd.ok ks (f i):=by
    intro i
    by_cases hi:i<len
    ·exact (hfi i hi).1
    ·simp only [f,hi,if_false]
     exact Kd.zeros_ok ks
   have hsp:0<len->a.spot=none:=by
    intro h0
    obtain ⟨h1,h2⟩:=hfi 0 h0
    have h3:=h2 0 (by omega)
    have hl0:(f 0).length=ks.length:=h1.length.symm
    rw [List.getElem?_eq_getElem (by omega)] at h3
    simpa [Addr.add] using World.cell?_spot h3
   refine ⟨.rows len f,[⟨some a,cap,ks.length⟩],⟨Nat.le_trans hl hm,hall⟩,.cons ⟨_,rfl,rfl,fun m=>?_⟩ .nil,fun m0 mr=>?_⟩
   ·refine { sz:=rfl,len:=fun i hi=>?_,cap:=hl,cell:=?_,own:=fun h=>(by cases h),came:=?_ }
    ·show (ofCells (f i)).length=ks.length
     rw [ofCells,List.length_map]
     exact (hfi i hi).1.length.symm
    ·intro i j c hi hcj
     obtain ⟨h1,h2⟩:=hfi i hi
     have hcj':((f i).map AC.v)[j]?=some c:=hcj
     rw [List.getElem?_map,Option.map_eq_some_iff] at hcj'
     obtain ⟨x,hx,rfl⟩:=hcj'
     have hj:j<P.cellsOf e:=by
      have:=(List.getElem?_eq_some_iff.1 hx).1
      have:=h1.length
      omega
     have h3:=h2 j hj
     have hs0:=hsp (by have:i<len:=hi;omega)
     refine ⟨a,x,rfl,hs0,?_,rfl,?_⟩
     ·obtain ⟨b,off,spot⟩:=a
      simp only at hs0
      subst hs0
      rw [add_plain,add_plain,hx] at h3
      rw [<-h3]
      simp [hc,Nat.add_assoc]
     ·have hj2:j<ks.length:=by omega
      obtain ⟨y,hy,hok⟩:=h1.get j ks[j] (by simp [hj2])
      rw [hx] at hy
      cases hy
      exact Kd.one hok
    ·intro _ A hA hn
     cases hA
     have hn':0<len:=hn
     have:MemPlace.cell a.block a.off ∈ MemPlace.row a ((elems.length+rest.length)*P.cellsOf e):=by
      refine MemPlace.mem_row.2 ⟨0,?_,by simp⟩
      have:0<P.cellsOf e:=by omega
      exact Nat.mul_pos (by omega) this
     exact hlt _ (List.mem_append_left _ this)
   ·refine ⟨⟨some a,cap,ks.length⟩,some a,cap,by simp,rfl,⟨hl,fun e=>nomatch e⟩,fun _=>⟨rfl,rfl⟩,fun hpos'=>?_⟩
    have hs0:=hsp hpos'
    refine ⟨a,rfl,hs0,?_⟩
    obtain ⟨b,off,spot⟩:=a
    simp only at hs0
    subst hs0
    simp
theorem trodAll_len {w:World}{spare:Nat->Bool}{held:Bool}:∀ {ts:List TypeId}{vs:List Value}{ds:List (DataW H)}{p:List MemPlace},DataW.TrodAll enc P w base spare held ts vs ds p->ds.length=ts.length
 | [],vs,ds,p,h=>by
  obtain ⟨_,rfl,_⟩:=trodAll_nil h
  rfl
 | t::ts,vs,ds,p,h=>by
  obtain ⟨v,vs',d,ds',p1,p2,rfl,rfl,rfl,_,h2⟩:=trodAll_cons h
  simp [trodAll_len h2]
end
theorem Fr.below {X:Nat->Prop}{w w':World}(h:Fr X w w') (hx:∀ k,k<w.heap.size->¬ X k):Below w.heap.size w w':=
 ⟨h.os,h.tape,h.output,h.size,fun k hk=>h.blk k hk (hx k hk)⟩
theorem laidOut:laidOutB Try.prog=true:=by kernel_rfl
theorem ownK:ownKnob Try.prog.godebug=none:=by kernel_rfl
theorem un4:Try.prog.underlying 4=some .bool:=by kernel_rfl
end
section
open Go Go.RowKit
def LoopR (G:Ctx2) (n0:Nat) (b:Code) (S:St) (r:Ex × St):Prop:=
 ∃ L,∀ (B:Nat) (m0:List Pl) (h0:AHeap) (w0:World) (a:Act) (w:World),h0.length=n0->m0.length=h0.length->RI B m0 h0 w0 S a w →
  ∀ Q,(∀ a' w',RI B m0 h0 w0 r.2 a' w'->Q (toExit r.1) a' w')->Code.rounds G.P b Q L a w
theorem LoopR.stop {G:Ctx2}{n0:Nat}{b:Code}{S:St}{e:Ex}{Se:St}(he:e ≠ .normal) (h:CodeSem G n0 b S (e,Se)):LoopR G n0 b S (e,Se):=by
 refine ⟨1,fun B m0 h0 w0 a w hn H0 hI Q hQ=>?_⟩
 rw [rounds_succ]
 refine h B m0 h0 w0 a w hn H0 hI _ ?_
 intro a' w' hI'
 cases e with
 | normal=>exact absurd rfl he
 | exit id=>exact hQ a' w' hI'
 | ret=>exact hQ a' w' hI'
theorem LoopR.next {G:Ctx2}{n0:Nat}{b:Code}{S S1:St}{r:Ex × St}(h:CodeSem G n0 b S (.normal,S1)) (h2:LoopR G n0 b S1 r):LoopR G n0 b S r:=by
 obtain ⟨L,h2⟩:=h2
 refine ⟨L+1,fun B m0 h0 w0 a w hn H0 hI Q hQ=>?_⟩
 rw [rounds_succ]
 refine h B m0 h0 w0 a w hn H0 hI _ ?_
 intro a' w' hI'
 exact h2 B m0 h0 w0 a' w' hn H0 hI' Q hQ
theorem LoopR.sem {G:Ctx2}{n0:Nat}{b:Code}{S:St}{r:Ex × St}(h:LoopR G n0 b S r):CodeSem G n0 (.loop b) S r:=by
 obtain ⟨L,h⟩:=h
 intro B m0 h0 w0 a w hn H0 hI Q hQ
 exact wp_loop_rounds L (h B m0 h0 w0 a w hn H0 hI Q hQ)
end
section
open Go Go.RowKit
section
variable {α β:Type}
def lastB (b:α->Bool) (l:List α):Bool:=match l.getLast? with
 | some x=>b x
 | none=>false
def put (b:α->Bool) (acc:List α) (g:α):List α:=bif b g&&lastB b acc then acc else acc++[g]
end
end
section
open Go Go.RowKit
structure Gl where
 k:Int
 r:Int
 a:Int
 w:Int
def zGl:Gl:=⟨0,0,0,0⟩
def encG (g:Gl):List Value:=[.int .i64 g.k,.int .i64 g.r,.int .i64 g.a,.int .i64 g.w]
def blk (g:Gl):Bool:=g.k==2||g.k==3
def at_ (l:List Gl):Nat->Gl:=fun j=>l.getD j zGl
end
section
open Go Go.RowKit
def bs (s:ByteArray):List Int:=s.data.toList.map fun u=>(u.toNat:Int)
theorem size_l (s:ByteArray):s.data.toList.length=s.size:=Array.length_toList
theorem bs_len (s:ByteArray):(bs s).length=s.size:=(List.length_map _).trans (size_l s)
section
variable {α:Type}
end
def f1 (x:Gl):Int × Int × Int:=(x.k,x.w,x.a)
end
section
open Go Go.RowKit
theorem consK {K:Known}{f:Nat}{F:Spec}(h1:SpecOk Try.prog f F) (h2:nameOk Try.prog f=true) (h:KnownOk K):KnownOk ((f,F)::K):=by
 intro g G hg
 rcases List.mem_cons.1 hg with hg|hg
 ·cases hg
  exact ⟨h1,h2⟩
 ·exact h g G hg
theorem nilK:KnownOk []:=fun _ _ h=>by cases h
end
section
open Go Go.RowKit
def v1 (x:Int):List Value:=[.int .i64 x]
def cl (x:Int):Int:=mnI 65536 (mxI 0 x)
def cs (a:Nat->Int) (l:List UInt8):Int:=(l.map fun b=>cl (a b.toNat)).sum
end
section
open Go Go.RowKit
abbrev U8 (c:Int):AV:=.c (.v (.int .u8 c))
noncomputable def niG:Ctx2:=GT [] (fun _=>[]) 0 []
def vd:List Value->Int
 | [.int _ x]=>x
 | _=>0
end
end Go.Proofs.Ytcpahifgdppkbaa.QAI
