/- Lemmas. -/
import Derived.Test.YtcpahifgdppkbaaQWireTells0
import Derived.Tactics
set_option linter.unusedVariables false
set_option linter.unusedSimpArgs false
set_option maxRecDepth 100000
namespace Go.Proofs.Ytcpahifgdppkbaa.QAI
section
open Go Go.RowKit
theorem splice_get {α:Type}{L l:List α}{q:Nat}(h:q+l.length<=L.length) (k:Nat) :
  (splice L q l)[k]?=if k<q then L[k]? else if k<q+l.length then l[k-q]? else L[k]?:=by
 unfold splice
 have hq:(L.take q).length=q:=by simp;omega
 by_cases h1:k<q
 ·rw [if_pos h1,List.append_assoc,List.getElem?_append_left (by omega),List.getElem?_take,if_pos h1]
 ·rw [if_neg h1]
  by_cases h2:k<q+l.length
  ·rw [if_pos h2,List.getElem?_append_left (by rw [List.length_append,hq];exact h2),List.getElem?_append_right (by omega),hq]
  ·rw [if_neg h2,List.getElem?_append_right (by rw [List.length_append,hq];omega),List.length_append,hq,List.getElem?_drop]
   congr 1
   omega
theorem splice_len {α:Type}{L l:List α}{q:Nat}(h:q+l.length<=L.length):(splice L q l).length=L.length:=by
 unfold splice
 simp
 omega
section
variable {G:Ctx2}{o:Oper}{ρ:Operand->AV}{ρ':Operand->Value}{h h':AHeap}{w w':World}{B:Nat}{m:List Pl}{v:AV}
theorem at_some {id:Nat}{b:ABlk}(hb:h.at id=some b):h[id]?=some (some b):=by
 unfold AHeap.at at hb
 cases e:h[id]? with
 | none=>simp [e] at hb
 | some o=>rw [e] at hb;simp at hb;rw [hb]
theorem HR.set (H:HR B m h w) {id:Nat}{b b':ABlk}{p:Pl}{A:Addr}(hid:h[id]?=some (some b)) (hp:m[id]?=some p) (ho:b.own=true) (ho':b'.own=true) (hA:p.A=some A)
  (hw:∀ k,k ≠ A.block->w'.heap[k]?=w.heap[k]?) (hnew:BR B m b' p w'):HR B m (setAt h id b') w':=by
 have hAB:B<=A.block:=(((H.blk id b p hid hp).own ho).2 A hA).2.2.1
 have hlt:id<h.length:=(List.getElem?_eq_some_iff.1 hid).1
 have hset:∀ {i:Nat}{c:ABlk},(setAt h id b')[i]?=some (some c)->(i=id/\c=b')\/(i ≠ id/\h[i]?=some (some c)):=by
  intro i c hc
  unfold setAt at hc
  by_cases e:i=id
  ·subst e
   rw [List.getElem?_set_self hlt] at hc
   left
   exact ⟨rfl,by simpa using hc.symm⟩
  ·rw [List.getElem?_set_ne (fun e'=>e e'.symm)] at hc
   exact .inr ⟨e,hc⟩
 refine { len:=by simp [setAt,H.len],blk:=?_,apart:=?_ }
 ·intro i c q hc hq
  rcases hset hc with ⟨rfl,rfl⟩ | ⟨hne,hc⟩
  ·have:q=p:=by rw [hp] at hq;cases hq;rfl
   subst this
   exact hnew
  ·have hbr:=H.blk i c q hc hq
   refine hbr.keep fun A' hA' hlt' hor=>hw _ ?_
   by_cases hco:c.own=true
   ·exact H.apart i id c b q p A' A hne hc hid hco ho hq hp hA' hA
   ·have hcf:c.own=false:=by simpa using hco
    have hn:0<c.c.n:=by rcases hor with h0|h0;exact h0;exact absurd h0 hco
    have:=hbr.came hcf A' hA' hn
    omega
 ·intro i i' c c' q q' A1 A2 hne hc hc' hoc hoc' hq hq' hA1 hA2
  have conv:∀ {i:Nat}{c:ABlk},(setAt h id b')[i]?=some (some c)->c.own=true->∃ c0,h[i]?=some (some c0)/\c0.own=true:=by
   intro i c hc hoc
   rcases hset hc with ⟨rfl,rfl⟩ | ⟨_,hc⟩
   ·exact ⟨b,hid,ho⟩
   ·exact ⟨c,hc,hoc⟩
  obtain ⟨c0,h0,h0o⟩:=conv hc hoc
  obtain ⟨c1,h1,h1o⟩:=conv hc' hoc'
  exact H.apart i i' c0 c1 q q' A1 A2 hne h0 h1 h0o h1o hq hq' hA1 hA2
theorem Own.set {id:Nat}{b b':ABlk}{k:Nat}(hid:h[id]?=some (some b)) (ho:b.own=true) (hk:Own m (setAt h id b') k):Own m h k:=by
 obtain ⟨i,c,q,A,hc,hoc,hq,hA,rfl⟩:=hk
 by_cases e:i=id
 ·subst e
  exact ⟨i,b,q,A,hid,ho,hq,hA,rfl⟩
 ·unfold setAt at hc
  rw [List.getElem?_set_ne (fun e'=>e e'.symm)] at hc
  exact ⟨i,c,q,A,hc,hoc,hq,hA,rfl⟩
theorem BR.store {b b':ABlk}{p:Pl}{A:Addr}(hb:BR B m b p w) (ho:b.own=true) (ho':b'.own=true) (ht:b'.t=b.t) (hA:p.A=some A) {i j:Nat}(hi:i<b.c.n) {cl:List AC}{xs:List Value}(hF:F2 (CR m) cl xs) (h1:∀ x ∈ xs,oneV x=true)
  (hj:j+cl.length<=b.c.sz) (hn:b'.c.n=b.c.n) (hs:b'.c.sz=b.c.sz) (hel:∀ k,k<b.c.n->b'.c.el k=if k=i then splice (b.c.el i) j cl else b.c.el k)
  {cs cs':Array Value}(hold:w.heap[A.block]?=some (.cells cs b.t (0,0))) (hnew:w'.heap[A.block]?=some (.cells cs' b.t (0,0))) (hcs:cs'.toList=splice cs.toList (i*p.sz+j) xs):BR B m b' p w':=by
 have hsz:=hb.sz
 obtain ⟨hA0,hAsp,hAB,cs0,hc0,hcsz⟩:=(hb.own ho).2 A hA
 have hcc:cs0=cs:=by rw [hold] at hc0;cases hc0;rfl
 subst hcc
 have hxl:xs.length=cl.length:=hF.length.symm
 have hle:i*p.sz+j+xs.length<=cs0.toList.length:=by
  have h2:i*p.sz+p.sz<=p.cap*p.sz:=by
   have:(i+1)*p.sz<=p.cap*p.sz:=Nat.mul_le_mul_right _ (Nat.le_trans hi hb.cap)
   rwa [Nat.add_mul,Nat.one_mul] at this
  simp only [Array.length_toList]
  omega
 have hlen:=splice_len hle
 have hcsz':cs'.size=cs0.size:=by
  have:=congrArg List.length hcs
  simpa [hlen] using this
 refine { sz:=by rw [hs];exact hsz,len:=?_,cap:=by rw [hn];exact hb.cap,cell:=?_,own:=?_,came:=fun e=>by rw [ho'] at e;cases e }
 ·intro k hk
  rw [hn] at hk
  rw [hel k hk]
  split
  ·rw [splice_len (by rw [hb.len i hi];omega)];exact hb.len i hi
  ·exact hb.len k hk
 ·intro k q a hk ha
  rw [hn] at hk
  rw [hel k hk] at ha
  have hcell:∀ x,cs'.toList[k*p.sz+q]?=some x->w'.cell? ⟨A.block,A.off+(k*p.sz+q),none⟩=some x:=by
   intro x hx
   simp only [World.cell?,hnew,hA0]
   simpa using hx
  have hold':∀ x,w.cell? ⟨A.block,A.off+(k*p.sz+q),none⟩=some x->cs0.toList[k*p.sz+q]?=some x:=by
   intro x hx
   simp only [World.cell?,hold,hA0] at hx
   simpa using hx
  have old:(b.c.el k)[q]?=some a->¬ (i*p.sz+j<=k*p.sz+q/\k*p.sz+q<i*p.sz+j+xs.length)->∃ A x,p.A=some A/\A.spot=none/\w'.cell? ⟨A.block,A.off+(k*p.sz+q),none⟩=some x/\CR m a x/\oneV x=true:=by
   intro ha hnot
   obtain ⟨A',x,hA',hsp,hx,hr,h1x⟩:=hb.cell k q a hk ha
   have:A'=A:=by rw [hA] at hA';cases hA';rfl
   subst this
   refine ⟨A',x,hA',hsp,hcell x ?_,hr,h1x⟩
   rw [hcs,splice_get hle]
   by_cases hlt:k*p.sz+q<i*p.sz+j
   ·rw [if_pos hlt];exact hold' x hx
   ·rw [if_neg hlt,if_neg (by omega)];exact hold' x hx
  split at ha
  ·rename_i e
   subst e
   have hspl:j+cl.length<=(b.c.el k).length:=by rw [hb.len k hi];omega
   rw [splice_get hspl] at ha
   split at ha
   ·exact old ha (by omega)
   ·split at ha
    ·obtain ⟨x,hx,hr⟩:=hF.get _ _ ha
     refine ⟨A,x,hA,hAsp,hcell x ?_,hr,h1 x (List.mem_of_getElem? hx)⟩
     rw [hcs,splice_get hle,if_neg (by omega),if_pos (by omega),show k*p.sz+q-(k*p.sz+j)=q-j by omega]
     exact hx
    ·exact old ha (by omega)
  ·rename_i e
   have hq:q<p.sz:=by rw [<-hb.len k hk];exact (List.getElem?_eq_some_iff.1 ha).1
   refine old ha ?_
   rcases Nat.lt_or_gt_of_ne e with hlt|hgt
   ·have:(k+1)*p.sz<=i*p.sz:=Nat.mul_le_mul_right _ hlt
    rw [Nat.add_mul,Nat.one_mul] at this
    omega
   ·have:(i+1)*p.sz<=k*p.sz:=Nat.mul_le_mul_right _ hgt
    rw [Nat.add_mul,Nat.one_mul] at this
    omega
 ·intro _
  refine ⟨(hb.own ho).1,fun A' hA'=>?_⟩
  have:A'=A:=by rw [hA] at hA';cases hA';rfl
  subst this
  exact ⟨hA0,hAsp,hAB,cs',by rw [ht];exact hnew,by rw [hcsz'];exact hcsz⟩
theorem run_storeAt {P:Program}{T:List TI}(hT:TOk P T) {t:TypeId}{ti:TI}(ht:lookT T t=some ti) {a:Addr}{x:Value}(hs:x.cells.size=ti.size) {w':World}(hr:(storeCells a x.cells.toList 0).run P w=.ok () w') :
  (Instr.storeAt t (.pointer (some a)) x).run P w=.ok () w':=by
 obtain ⟨inf,z,hi,hsi,_,_,_⟩:=hT.i _ _ ht
 simp only [Instr.storeAt,Instr.sureAddr,Sem.run_bind,Sem.run_pure,Result.andThen_ok,storeVar,run_sizeOf' hi,hsi]
 rw [if_neg (by simpa using hs)]
 exact hr
theorem valsOf_some:∀ {l:List AC}{k:List Value},valsOf l=some k->l=ofCells k
 | [],k,h=>by simp [valsOf] at h;subst h;rfl
 | a::l,k,h=>by
  simp only [valsOf] at h
  split at h
  ·rename_i x r hx hr
   simp only [Option.some.injEq] at h
   subst h
   cases a <;> simp [valOf] at hx
   subst hx
   rw [valsOf_some hr]
   rfl
  ·cases h
theorem ofCells_splice (l k:List Value) (j:Nat):splice (ofCells l) j (ofCells k)=ofCells (splice l j k):=by
 simp [splice,ofCells]
theorem h_store (hG:GOk G.toCtx) (hρ:OpsOk m ρ ρ') (H:HR B m h w) {t:TypeId}{pp x:Operand}(ho:o.op=.store t pp x) (he:(astore G.T h t (ρ pp) (ρ x)).eval=some h') :
  HOk G.P B m h w ρ' o (.c (.v undef)) h':=by
 unfold astore at he
 split at he
 ·rename_i id i j ti hpp hti
  split at he
  ·rename_i bt c hb
   have hid:=at_some hb
   obtain ⟨p,hp,hbr⟩:=H.at_ hb
   have hpv:=hρ pp
   rw [hpp] at hpv
   obtain ⟨p',A,hp',hA,hsp,hpe⟩:=hpv
   have:p'=p:=by rw [hp] at hp';cases hp';rfl
   subst this
   obtain ⟨hA0,_,hAB,cs,hcs,hcsz⟩:=(hbr.own rfl).2 A hA
   have fin:∀ (b':ABlk),b'.own=true->(ρ' x).cells.size=ti.size->i*p'.sz+j+(ρ' x).cells.size<=cs.size->(∀ y ∈ (ρ' x).cells.toList,oneV y=true) →
     (∀ w' cs',w'.heap[A.block]?=some (.cells cs' bt (0,0))->cs'.toList=splice cs.toList (i*p'.sz+j) (ρ' x).cells.toList->BR B m b' p' w')->h'=setAt h id b'->HOk G.P B m h w ρ' o (.c (.v undef)) h':=by
    intro b' hb'o hsz hle h1 hnew hh
    subst hh
    obtain ⟨w',cs',hr,hb',hcs',hother,hsize,hos,htape,hout⟩:=storeCells_run G.P A.block (A.off+(i*p'.sz+j)) bt (ρ' x).cells.toList 0 w cs hcs (by simp [hA0];omega) h1
    have hcs2:cs'.toList=splice cs.toList (i*p'.sz+j) (ρ' x).cells.toList:=by
     rw [hcs',hA0];simp [splice]
    refine ⟨undef,w',m,.inr ⟨?_,rfl⟩,⟨Ext.refl _,H.set hid hp rfl hb'o hA hother (hnew w' cs' hb' hcs2),⟨hos,htape,hout,by omega,fun k hk hX=>hother k fun e=>hX ⟨id,_,p',A,hid,rfl,hp,hA,e.symm⟩⟩,fun k hk=>.inl (Own.set hid rfl hk)⟩,rfl⟩
    simp only [execOp,ho,Sem.run_bind]
    rw [hpe,run_storeAt hG.c.t hti hsz hr]
    rfl
   have hseg:∀ {cl:List AC}{xs:List Value},i<c.n->j+cl.length<=c.sz->F2 (CR m) cl xs->i*p'.sz+j+xs.length<=cs.size:=by
    intro cl xs hi hj hF
    have h2:(i+1)*p'.sz<=p'.cap*p'.sz:=Nat.mul_le_mul_right _ (Nat.le_trans hi hbr.cap)
    rw [Nat.add_mul,Nat.one_mul] at h2
    have:=hF.length
    have hs:=hbr.sz
    simp only at hs
    omega
   split at he
   ·
    rename_i n f mm g hxv
    split at he
    ·rename_i hc
     obtain ⟨rfl,rfl,hsz,hn⟩:=hc
     subst hn
     simp only [Tr.eval,Option.some.injEq] at he
     have hx:=hρ x
     rw [hxv] at hx
     simp only [VR] at hx
     obtain ⟨hxe,hone⟩:=hx
     have hps:p'.sz=1:=hbr.sz
     have hncap:n<=p'.cap:=hbr.cap
     refine fin _ rfl (by rw [hxe];simp [Value.cells,hsz]) (by rw [hxe,hcsz,hps];simp [Value.cells];omega) (by rw [hxe];simp only [Value.cells];intro y hy;simp at hy;obtain ⟨k,hk,rfl⟩:=hy;exact hone k hk) ?_ he.symm
     intro w' cs' hw' hcs'
     have hxl:(ρ' x).cells.toList=(List.range n).map g:=by rw [hxe];rfl
     rw [hxl] at hcs'
     have hle:0*p'.sz+0+((List.range n).map g).length<=cs.toList.length:=by simp [hcsz,hps];omega
     have hcsz':cs'.size=cs.size:=by
      have:=congrArg List.length hcs'
      rw [splice_len hle] at this
      simpa using this
     refine { sz:=hbr.sz,len:=fun k _=>by simp [Cont.el,ofCells,hps],cap:=hbr.cap,cell:=?_,own:=?_,came:=fun e=>by cases e }
     ·intro k q a hk ha
      have hk':k<n:=hk
      simp only [Cont.el,ofCells,List.map_cons,List.map_nil] at ha
      cases q with
      | zero=>
       simp at ha
       subst ha
       refine ⟨A,g k,hA,hsp,?_,rfl,hone k hk'⟩
       simp only [World.cell?,hw',hA0]
       have:cs'.toList[k]?=some (g k):=by
        rw [hcs',splice_get hle,if_neg (by omega),if_pos (by simp;omega)]
        simp [hk']
       simpa [hps] using this
      | succ q=>simp at ha
     ·intro _
      refine ⟨(hbr.own rfl).1,fun A' hA'=>?_⟩
      have:A'=A:=by rw [hA] at hA';cases hA';rfl
      subst this
      exact ⟨hA0,hsp,hAB,cs',hw',by rw [hcsz'];exact hcsz⟩
    ·cases he
   ·
    rename_i l
    split at he
    ·rename_i cl hcl
     split at he
     ·rename_i hc
      obtain ⟨rfl,hlen,hj⟩:=hc
      simp only [Tr.eval,Option.some.injEq] at he
      obtain ⟨hF,h1⟩:=cellsOf_ok hcl (hρ x)
      have hFl:=hF.length
      simp only [Array.length_toList] at hFl
      refine fin _ rfl (by omega) (by simpa using hseg (cl:=cl) Nat.zero_lt_one hj hF) h1 ?_ he.symm
      intro w' cs' hw' hcs'
      exact hbr.store rfl rfl rfl hA Nat.zero_lt_one hF h1 hj rfl (by simp [Cont.sz,splice_len hj]) (fun k hk=>by
       have:k=0:=by simp [Cont.n] at hk;exact hk
       subst this
       simp [Cont.el]) hcs hw' hcs'
     ·cases he
    ·cases he
   ·
    rename_i sz n f _
    split at he
    ·rename_i vs hvs
     split at he
     ·rename_i hc
      obtain ⟨hlen,hj⟩:=hc
      obtain ⟨hi,he⟩:=Tr.eval_need.1 he
      have hi':i<n:=by simpa using hi
      simp only [Tr.eval,Option.some.injEq] at he
      cases hcl:cellsOf (ρ x) with
      | none=>simp [hcl] at hvs
      | some cl=>
       rw [hcl] at hvs
       simp only [Option.bind_some] at hvs
       have hclv:=valsOf_some hvs
       obtain ⟨hF,h1⟩:=cellsOf_ok hcl (hρ x)
       have hFl:=hF.length
       simp only [Array.length_toList] at hFl
       have hcll:cl.length=vs.length:=by rw [hclv];simp [ofCells]
       refine fin _ rfl (by omega) (by simpa using hseg (cl:=cl) hi' (by simp only [Cont.sz];omega) hF) h1 ?_ he.symm
       intro w' cs' hw' hcs'
       exact hbr.store rfl rfl rfl hA hi' hF h1 (by simp only [Cont.sz];omega) rfl rfl (fun k hk=>by
        simp only [Cont.el,updC,selL_eq]
        by_cases hkk:k=i
        ·subst hkk;simp only [decide_true,cond_true,if_true];rw [hclv,ofCells_splice]
        ·simp only [hkk,decide_false,cond_false,if_false]) hcs hw' hcs'
     ·cases he
    ·cases he
   ·
    rename_i sz l z
    split at he
    ·rename_i cl hcl
     split at he
     ·rename_i hc
      obtain ⟨hlen,hj⟩:=hc
      obtain ⟨hi,he⟩:=Tr.eval_need.1 he
      have hi':i<l.length:=by simpa using hi
      simp only [Tr.eval,Option.some.injEq] at he
      obtain ⟨hF,h1⟩:=cellsOf_ok hcl (hρ x)
      have hFl:=hF.length
      simp only [Array.length_toList] at hFl
      refine fin _ rfl (by omega) (by simpa using hseg (cl:=cl) hi' hj hF) h1 ?_ he.symm
      intro w' cs' hw' hcs'
      exact hbr.store rfl rfl rfl hA hi' hF h1 hj (by simp [Cont.n]) rfl (fun k hk=>by
       simp only [Cont.el]
       have hk':k<l.length:=hk
       by_cases e:k=i
       ·subst e
        rw [if_pos rfl,List.getD_eq_getElem?_getD,List.getElem?_set_self hk']
        rfl
       ·rw [if_neg e,List.getD_eq_getElem?_getD,List.getElem?_set_ne (fun e'=>e e'.symm),List.getD_eq_getElem?_getD]) hcs hw' hcs'
     ·cases he
    ·cases he
  ·cases he
 ·cases he
end
end
section
open Go Go.RowKit
theorem growBy_le (need:Nat):∀ (r c:Nat),c<=2*need->256<=need->Builtin.growBy need r c<=2*need
 | 0,c,h,_=>h
 | r+1,c,h,h2=>by
  simp only [Builtin.growBy]
  split
  ·exact h
  ·exact growBy_le need r _ (by omega) h2
theorem nextcap_le {need cap:Nat}(h:cap<need):Builtin.nextslicecap need cap<=2*need:=by
 unfold Builtin.nextslicecap
 split
 ·omega
 ·split
  ·omega
  ·exact growBy_le need 4 cap (by omega) (by omega)
theorem valss_some:∀ {l:List (List AC)}{k:List (List Value)},valss l=some k->l=k.map ofCells
 | [],k,h=>by simp [valss] at h;subst h;rfl
 | a::l,k,h=>by
  simp only [valss] at h
  split at h
  ·rename_i x r hx hr
   simp only [Option.some.injEq] at h
   subst h
   rw [valsOf_some hx,valss_some hr]
   rfl
  ·cases h
theorem updL_get:∀ (l:List (List Value)) (f:Nat->List Value) (n k:Nat),updL f n l k=if k<n then f k else if k<n+l.length then l.getD (k-n) (f k) else f k
 | [],f,n,k=>by
  simp only [updL,List.length_nil]
  split
  ·rfl
  ·rw [if_neg (by omega)]
 | x::l,f,n,k=>by
  simp only [updL]
  rw [updL_get l (upd f n x) (n+1) k]
  simp only [List.length_cons]
  by_cases h1:k<n
  ·rw [if_pos (by omega),if_pos h1];simp [upd_def];omega
  ·rw [if_neg h1]
   by_cases h2:k=n
   ·subst h2
    rw [if_pos (by omega),if_pos (by omega)]
    simp [upd_def]
   ·rw [if_neg (by omega)]
    by_cases h3:k<n+(l.length+1)
    ·rw [if_pos (by omega),if_pos h3,show k-n=(k-(n+1))+1 by omega]
     simp [upd_def,h2]
    ·rw [if_neg (by omega),if_neg h3]
     simp [upd_def,h2]
theorem rowOf_ok (ti:TI) (c:Cont):(rowOf ti c).n=c.n/\(rowOf ti c).sz=c.sz/\∀ q,q<c.n->(rowOf ti c).el q=c.el q:=by
 unfold rowOf
 split
 ·exact ⟨rfl,rfl,fun _ _=>rfl⟩
 ·rename_i sz l z _
  split
  ·split
   ·rename_i vs hvs
    refine ⟨rfl,rfl,fun q hq=>?_⟩
    have hl:=valss_some hvs
    have hq':q<l.length:=hq
    have hlen:l.length=vs.length:=by rw [hl];simp
    simp only [Cont.el,List.getD_eq_getElem?_getD]
    rw [hl]
    simp only [List.getElem?_map]
    rw [List.getElem?_eq_getElem (by omega)]
    rfl
   ·exact ⟨rfl,rfl,fun _ _=>rfl⟩
  ·exact ⟨rfl,rfl,fun _ _=>rfl⟩
 ·exact ⟨rfl,rfl,fun _ _=>rfl⟩
theorem joinC_ok {ti:TI}{c cs c':Cont}{i m:Nat}(h:joinC ti c (i,m,cs)=some c') (hle:i+m<=cs.n):c'.n=c.n+m/\c'.sz=ti.size/\∀ q,q<c.n+m->c'.el q=if q<c.n then c.el q else cs.el (i+(q-c.n)):=by
 cases c with
 | one l=>cases cs <;> simp [joinC] at h
 | row sz n f=>
  cases cs with
  | one l=>simp [joinC] at h
  | lst sz' l z=>
   simp only [joinC] at h
   cases hv:valss ((l.drop i).take m) with
   | none=>simp [hv] at h
   | some vs=>
    rw [hv] at h
    simp only [Option.map_some,Option.some.injEq] at h
    subst h
    have hl:=valss_some hv
    have hle':i+m<=l.length:=hle
    have hvl:vs.length=m:=by
     have:=congrArg List.length hl
     simp at this
     omega
    refine ⟨rfl,rfl,fun q hq=>?_⟩
    have hq':q<n+m:=hq
    by_cases h1:q<n
    ·have h1':q<(Cont.row sz n f).n:=h1
     rw [if_pos h1']
     simp only [Cont.el]
     rw [updL_get,if_pos h1]
    ·have h1':¬ q<(Cont.row sz n f).n:=h1
     rw [if_neg h1']
     change _=(Cont.lst sz' l z).el (i+(q-n))
     simp only [Cont.el]
     rw [updL_get,if_neg h1,if_pos (by omega)]
     have hg:((l.drop i).take m)[q-n]?=(vs.map ofCells)[q-n]?:=by rw [hl]
     rw [List.getElem?_take,if_pos (by omega),List.getElem?_drop,List.getElem?_map] at hg
     rw [List.getD_eq_getElem?_getD,List.getD_eq_getElem?_getD,hg,List.getElem?_eq_getElem (by omega)]
     rfl
  | row sz' n' g=>
   simp only [joinC,Option.some.injEq] at h
   subst h
   refine ⟨rfl,rfl,fun q hq=>?_⟩
   have hq':q<n+m:=hq
   by_cases h1:q<n
   ·have h1':q<(Cont.row sz n f).n:=h1
    rw [if_pos h1']
    simp only [Cont.el,cat]
    rw [if_pos h1]
   ·have h1':¬ q<(Cont.row sz n f).n:=h1
    rw [if_neg h1']
    change _=(Cont.row sz' n' g).el (i+(q-n))
    simp only [Cont.el,cat]
    rw [if_neg h1,if_pos hq']
 | lst sz l z=>
  cases l with
  | nil=>
   cases cs with
   | one l=>simp [joinC] at h
   | row sz' n' g=>
    simp only [joinC] at h
    split at h
    ·simp only [Option.some.injEq] at h
     subst h
     refine ⟨(Nat.zero_add m).symm,rfl,fun q hq=>?_⟩
     have hq':q<0+m:=hq
     have h1':¬ q<(Cont.lst sz [] z).n:=Nat.not_lt_zero q
     rw [if_neg h1']
     change ofCells (selL (decide (q<m)) (g (i+q)) ti.zero)=ofCells (g (i+(q-0)))
     rw [selL_eq,decide_eq_true (by omega)]
     rfl
    ·cases h
   | lst sz' l' z'=>
    have hle':i+m<=l'.length:=hle
    simp only [joinC] at h
    split at h
    ·cases hv:valss ((l'.drop i).take m) with
     | none=>simp [hv] at h
     | some vs=>
      rw [hv] at h
      simp only [Option.map_some,Option.some.injEq] at h
      subst h
      have hl:=valss_some hv
      have hvl:vs.length=m:=by
       have:=congrArg List.length hl
       simp at this
       omega
      refine ⟨rfl,rfl,fun q hq=>?_⟩
      have hq':q<0+m:=hq
      have h1':¬ q<(Cont.lst sz [] z).n:=Nat.not_lt_zero q
      rw [if_neg h1']
      change _=(Cont.lst sz' l' z').el (i+(q-0))
      simp only [Cont.el]
      rw [updL_get,if_neg (Nat.not_lt_zero q),if_pos (by omega)]
      have hg:((l'.drop i).take m)[q-0]?=(vs.map ofCells)[q-0]?:=by rw [hl]
      rw [List.getElem?_take,if_pos (by omega),List.getElem?_drop,List.getElem?_map] at hg
      rw [List.getD_eq_getElem?_getD,List.getD_eq_getElem?_getD,hg,List.getElem?_eq_getElem (by omega)]
      rfl
    ·simp only [Option.some.injEq] at h
     subst h
     have hln:((l'.drop i).take m).length=m:=by simp;omega
     refine ⟨by simp [Cont.n];omega,rfl,fun q hq=>?_⟩
     have hq':q<0+m:=hq
     have h1':¬ q<(Cont.lst sz [] z).n:=Nat.not_lt_zero q
     rw [if_neg h1']
     change _=(Cont.lst sz' l' z').el (i+(q-0))
     simp only [Cont.el,List.getD_eq_getElem?_getD]
     rw [List.getElem?_take,if_pos (by omega),List.getElem?_drop,List.getElem?_eq_getElem (by omega),List.getElem?_eq_getElem (by omega)]
     rfl
  | cons x l=>
  cases cs with
  | one l=>simp [joinC] at h
  | row sz' n' g=>simp [joinC] at h
  | lst sz' l' z'=>
   simp only [joinC,Option.some.injEq] at h
   subst h
   have hle':i+m<=l'.length:=hle
   have hln:((l'.drop i).take m).length=m:=by simp;omega
   refine ⟨by simp [Cont.n];omega,rfl,fun q hq=>?_⟩
   have hq':q<(x::l).length+m:=hq
   by_cases h1:q<(x::l).length
   ·have h1':q<(Cont.lst sz (x::l) z).n:=h1
    rw [if_pos h1']
    simp only [Cont.el,List.getD_eq_getElem?_getD]
    rw [List.getElem?_append_left h1]
   ·have h1':¬ q<(Cont.lst sz (x::l) z).n:=h1
    rw [if_neg h1']
    change _=(Cont.lst sz' l' z').el (i+(q-(x::l).length))
    simp only [Cont.el,List.getD_eq_getElem?_getD]
    rw [List.getElem?_append_right (by omega),List.getElem?_take,if_pos (by omega),List.getElem?_drop,List.getElem?_eq_getElem (by omega)]
    rfl
section
variable {G:Ctx2}{o:Oper}{ρ:Operand->AV}{ρ':Operand->Value}{h h':AHeap}{w w':World}{B:Nat}{m:List Pl}{v:AV}
def Cells (m:List Pl) (c:Cont) (i k:Nat) (cells:List Value):Prop:=
 cells.length=k*c.sz/\(∀ (q j:Nat) a,q<k->(c.el (i+q))[j]?=some a->∃ y,cells[q*c.sz+j]?=some y/\CR m a y/\oneV y=true)
  ∧ ∀ q,q<k->(c.el (i+q)).length=c.sz
theorem BR.cellsFrom {b:ABlk}{p:Pl}(hb:BR B m b p w) {i k:Nat}(hle:i+k<=b.c.n) (hs:0<b.c.sz) (hk:0<k) :
  ∃ A cells,p.A=some A/\A.spot=none/\Cells m b.c i k cells/\∀ (t:Nat) y,cells[t]?=some y->w.cell? ⟨A.block,A.off+(i*p.sz+t),none⟩=some y:=by
 have hsz:=hb.sz
 obtain ⟨A,_,hA,hsp,_,_,_⟩:=hb.cells (i:=i) (by omega) (by omega)
 have hcell:∀ t,t<k*b.c.sz->∃ y,w.cell? ⟨A.block,A.off+(i*p.sz+t),none⟩=some y/\oneV y=true/\∀ a,(b.c.el (i+t / b.c.sz))[t % b.c.sz]?=some a->CR m a y:=by
  intro t ht
  have hq:t / b.c.sz<k:=Nat.div_lt_of_lt_mul (by rw [Nat.mul_comm];exact ht)
  have hj:t % b.c.sz<b.c.sz:=Nat.mod_lt _ hs
  have hl:=hb.len (i+t / b.c.sz) (by omega)
  have hjl:t % b.c.sz<(b.c.el (i+t / b.c.sz)).length:=by rw [hl,hsz];exact hj
  obtain ⟨A',y,hA',_,hy,hr,h1⟩:=hb.cell (i+t / b.c.sz) (t % b.c.sz) _ (by omega) (List.getElem?_eq_getElem hjl)
  have:A'=A:=by rw [hA] at hA';cases hA';rfl
  subst this
  refine ⟨y,?_,h1,fun a ha=>?_⟩
  ·rw [<-hy]
   congr 2
   rw [Nat.add_mul,hsz]
   have:=Nat.div_add_mod t b.c.sz
   rw [Nat.mul_comm] at this
   omega
  ·rw [List.getElem?_eq_getElem hjl] at ha
   cases ha
   exact hr
 refine ⟨A,(List.range (k*b.c.sz)).map fun t=>(w.cell? ⟨A.block,A.off+(i*p.sz+t),none⟩).getD undef,hA,hsp,⟨by simp,?_,fun q hq=>by rw [hb.len (i+q) (by omega),hsz]⟩,?_⟩
 ·intro q j a hq ha
  have hl:=hb.len (i+q) (by omega)
  have hj:j<b.c.sz:=by rw [<-hsz,<-hl];exact (List.getElem?_eq_some_iff.1 ha).1
  have ht:q*b.c.sz+j<k*b.c.sz:=by
   have:(q+1)*b.c.sz<=k*b.c.sz:=Nat.mul_le_mul_right _ hq
   rw [Nat.add_mul,Nat.one_mul] at this
   omega
  obtain ⟨y,hy,h1,hr⟩:=hcell _ ht
  have hd:(q*b.c.sz+j) / b.c.sz=q:=by
   rw [Nat.mul_comm,Nat.mul_add_div hs,Nat.div_eq_of_lt hj];rfl
  have hmo:(q*b.c.sz+j) % b.c.sz=j:=by
   rw [Nat.mul_comm,Nat.mul_add_mod];exact Nat.mod_eq_of_lt hj
  rw [hd,hmo] at hr
  refine ⟨y,?_,hr a ha,h1⟩
  rw [List.getElem?_map,List.getElem?_range ht]
  simp [hy]
 ·intro t y hy
  rw [List.getElem?_map] at hy
  rcases Nat.lt_or_ge t (k*b.c.sz) with ht|ht
  ·rw [List.getElem?_range ht] at hy
   obtain ⟨z,hz,_⟩:=hcell t ht
   simp only [Option.map_some,Option.some.injEq] at hy
   rw [hz] at hy
   simp only [Option.getD_some] at hy
   rw [hz,hy]
  ·rw [List.getElem?_eq_none (by simpa using ht)] at hy;cases hy
theorem run_loadCells' {P:Program}{a:Addr}{n:Nat}{xs:List Value}(hl:xs.length=n) (hc:∀ (k:Nat) x,xs[k]?=some x->w.cell? (a.add k)=some x):(loadCells a n).run P w=.ok xs.toArray w:=by
 unfold loadCells
 rw [run_loadCellsFrom' n 0 xs #[] hl fun k x hk=>by rw [Nat.zero_add];exact hc k x hk]
 simp
theorem src_ok (P:Program) (H:HR B m h w) {ti:TI}(hs:0<ti.size) {a:AV}{x:Value}(ha:VR m a x) {i k:Nat}{c:Cont}(he:srcOf h ti a=some (i,k,c)) (hsz:c.sz=ti.size) (hle:i+k<=c.n) :
  ∃ cells:List Value,Cells m c i k cells/\(Builtin.lenOf x).run P w=.ok k w/\(Builtin.firstCells ti.size k x).run P w=.ok cells.toArray w:=by
 unfold srcOf at he
 split at he
 ·rename_i id i' n
  cases hb:h.at id with
  | none=>simp [hb] at he
  | some b=>
   rw [hb] at he
   simp only [Option.map_some,Option.some.injEq,Prod.mk.injEq] at he
   obtain ⟨rfl,rfl,rfl⟩:=he
   obtain ⟨p,hp,hbr⟩:=H.at_ hb
   obtain ⟨p',A',c',hp',rfl,_,hz,hpos⟩:=ha
   have:p'=p:=by rw [hp] at hp';cases hp';rfl
   subst this
   rcases Nat.eq_zero_or_pos n with h0|h0
   ·subst h0
    refine ⟨[],⟨by simp,fun q j a hq=>absurd hq (Nat.not_lt_zero _),fun q hq=>absurd hq (Nat.not_lt_zero _)⟩,by simp [Builtin.lenOf],?_⟩
    cases A' with
    | none=>simp [Builtin.firstCells]
    | some A=>simp [Builtin.firstCells,run_loadCells' (xs:=[]) (n:=0) rfl (fun k x hk=>by simp at hk)]
   ·obtain ⟨A,cells,hA,hsp,hC,hcell⟩:=hbr.cellsFrom hle (by omega) h0
    obtain ⟨A2,hA2,_,rfl⟩:=hpos h0
    have:A2=A:=by rw [hA] at hA2;cases hA2;rfl
    subst this
    refine ⟨cells,hC,by simp [Builtin.lenOf],?_⟩
    simp only [Builtin.firstCells]
    refine run_loadCells' (by rw [hC.1,hsz]) fun t y hy=>?_
    rw [add_none rfl]
    have:=hcell t y hy
    simpa [Nat.add_assoc] using this
 ·simp only [Option.some.injEq,Prod.mk.injEq] at he
  obtain ⟨rfl,rfl,rfl⟩:=he
  have hx:x=.slice none 0 0:=ha
  subst hx
  exact ⟨[],⟨by simp,fun q j a hq=>absurd hq (Nat.not_lt_zero _),fun q hq=>absurd hq (Nat.not_lt_zero _)⟩,by simp [Builtin.lenOf],by simp [Builtin.firstCells]⟩
 ·rename_i s
  simp only [Option.some.injEq,Prod.mk.injEq] at he
  obtain ⟨rfl,rfl,rfl⟩:=he
  have hx:x=.string s:=ha
  subst hx
  have hsz1:ti.size=1:=hsz.symm
  have hd:s.extract 0 s.size=s:=by simp
  have hlen:s.data.toList.length=s.size:=by simp
  refine ⟨s.data.toList.map fun b=>Value.int .u8 b.toNat,⟨?_,?_,fun q _=>rfl⟩,by simp [Builtin.lenOf],?_⟩
  ·rw [List.length_map,hlen]
   exact (Nat.mul_one _).symm
  ·intro q j a hq ha
   simp only [Cont.el,ofCells,List.map_cons,List.map_nil] at ha
   cases j with
   | zero=>
    simp at ha
    subst ha
    have hq':q<s.data.toList.length:=by rw [hlen];exact hq
    refine ⟨.int .u8 (bt s q),?_,rfl,rfl⟩
    simp only [Cont.sz,Nat.mul_one,Nat.add_zero,List.getElem?_map]
    rw [List.getElem?_eq_getElem hq']
    have hb:bt s q=(s.data.toList[q].toNat:Int):=by
     unfold bt
     rw [Int.toNat_natCast,List.getD_eq_getElem?_getD,List.getElem?_eq_getElem hq']
     rfl
    rw [hb]
    rfl
   | succ j=>simp at ha
  ·simp only [Builtin.firstCells,hd,Sem.run_pure]
   congr 1
   apply Array.ext'
   simp
 ·cases he
theorem dst_ok (H:HR B m h w) {ti:TI}{a:AV}{x:Value}(ha:VR m a x) {c:Cont}{nn:Nat}(he:dstOf h ti a=some (h',c,nn)) (hnn:c.n=nn) :
  c.sz=ti.size/\((x=.slice none 0 0/\h'=h/\c.n=0) ∨
   ∃ id b p,h[id]?=some (some b)/\b.own=true/\m[id]?=some p/\BR B m b p w/\x=.slice p.A c.n p.cap/\h'=h.set id none/\b.c.sz=ti.size/\b.c.n=c.n/\b.t=ti.t/\∀ q,q<c.n->c.el q=b.c.el q):=by
 unfold dstOf at he
 split at he
 ·simp only [Option.some.injEq,Prod.mk.injEq] at he
  obtain ⟨rfl,rfl,rfl⟩:=he
  have hx:x=.slice none 0 0:=ha
  refine ⟨by split <;> rfl,.inl ⟨hx,rfl,by split <;> rfl⟩⟩
 ·rename_i id n
  split at he
  ·rename_i bt c0 hb
   split at he
   ·rename_i hc
    obtain ⟨hsz,hbt⟩:=hc
    simp only [Option.some.injEq,Prod.mk.injEq] at he
    obtain ⟨rfl,rfl,rfl⟩:=he
    obtain ⟨p,hp,hbr⟩:=H.at_ hb
    obtain ⟨p',A',c',hp',rfl,_,hz,_⟩:=ha
    have:p'=p:=by rw [hp] at hp';cases hp';rfl
    subst this
    obtain ⟨rfl,rfl⟩:=hz rfl
    obtain ⟨h1,h2,h3⟩:=rowOf_ok ti c0
    have hn:c0.n=n:=by rw [<-h1];exact hnn
    refine ⟨by rw [h2,hsz],.inr ⟨id,_,p',at_some hb,rfl,hp,hbr,by rw [h1,hn],rfl,hsz,h1.symm,hbt,fun q hq=>h3 q (by rw [<-h1];exact hq)⟩⟩
   ·cases he
  ·cases he
 ·cases he
end
end
section
open Go Go.RowKit
section
variable {G:Ctx2}{o:Oper}{ρ:Operand->AV}{ρ':Operand->Value}{h h':AHeap}{w w':World}{B:Nat}{m:List Pl}{v:AV}
theorem addr_eta {A:Addr}(h:A.spot=none) (s:Nat):some A=some ⟨A.block,A.off+0*s,none⟩:=by
 cases A;simp at h;simp [h]
theorem lookT_t {T:List TI}{t:TypeId}{ti:TI}(h:lookT T t=some ti):ti.t=t:=by
 unfold lookT at h
 have:=List.find?_some h
 simpa using this
theorem kill_some {id i:Nat}{c:ABlk}(hc:(h.set id none)[i]?=some (some c)):i ≠ id/\h[i]?=some (some c):=by
 by_cases e:i=id
 ·subst e
  rcases Nat.lt_or_ge i h.length with hl|hl
  ·rw [List.getElem?_set_self hl] at hc;cases hc
  ·rw [List.getElem?_eq_none (by simpa using hl)] at hc;cases hc
 ·rw [List.getElem?_set_ne (fun e'=>e e'.symm)] at hc
  exact ⟨e,hc⟩
theorem HR.kill (H:HR B m h w) (id:Nat):HR B m (h.set id none) w:=
 {len:=by simp [H.len],blk:=fun i c q hc hq=>H.blk i c q (kill_some hc).2 hq,
  apart:=fun i i' c c' q q' A1 A2 hne hc hc'=>H.apart i i' c c' q q' A1 A2 hne (kill_some hc).2 (kill_some hc').2 }
theorem HR.killSet (H:HR B m h w) {id:Nat}{b:ABlk}{p:Pl}{A:Addr}(hid:h[id]?=some (some b)) (hp:m[id]?=some p) (ho:b.own=true) (hA:p.A=some A)
  (hw:∀ k,k ≠ A.block->w'.heap[k]?=w.heap[k]?):HR B m (h.set id none) w':=by
 have hAB:B<=A.block:=(((H.blk id b p hid hp).own ho).2 A hA).2.2.1
 refine { len:=by simp [H.len],blk:=?_,apart:=(H.kill id).apart }
 intro i c q hc hq
 obtain ⟨hne,hc⟩:=kill_some hc
 refine (H.blk i c q hc hq).keep fun A' hA' hlt' hor=>hw _ ?_
 by_cases hco:c.own=true
 ·exact H.apart i id c b q p A' A hne hc hid hco ho hq hp hA' hA
 ·have hcf:c.own=false:=by simpa using hco
  have hn:0<c.c.n:=by rcases hor with h0|h0;exact h0;exact absurd h0 hco
  have:=(H.blk i c q hc hq).came hcf A' hA' hn
  omega
theorem Own.kill {id k:Nat}(hk:Own m (h.set id none) k):Own m h k:=by
 obtain ⟨i,c,q,A,hc,hoc,hq,hA,rfl⟩:=hk
 exact ⟨i,c,q,A,(kill_some hc).2,hoc,hq,hA,rfl⟩
theorem HR.push (H:HR B m h w) {b:ABlk}{p:Pl}(hbr:BR B (m++[p]) b p w) (hap:∀ (id:Nat) b' p' A A',h[id]?=some (some b')->b'.own=true->m[id]?=some p'->p'.A=some A'->p.A=some A->A'.block ≠ A.block) :
  HR B (m++[p]) (h++[some b]) w:=by
 have inOld:∀ {id:Nat}{c:ABlk}{q:Pl},h[id]?=some (some c)->(m++[p])[id]?=some q->m[id]?=some q:=by
  intro id c q hc hq
  have hlt:id<m.length:=by rw [H.len];exact (List.getElem?_eq_some_iff.1 hc).1
  rwa [List.getElem?_append_left hlt] at hq
 have inNew:∀ {id:Nat}{q:Pl},id=h.length->(m++[p])[id]?=some q->q=p:=by
  intro id q hid hq
  rw [hid,<-H.len] at hq
  simp at hq
  exact hq.symm
 refine { len:=by simp [H.len],blk:=?_,apart:=?_ }
 ·intro id c q hc hq
  rcases getElem?_snoc hc with hc | ⟨hid,hce⟩
  ·exact (H.blk id c q hc (inOld hc hq)).ext (Ext.app _ _)
  ·cases hce
   have:=inNew hid hq
   subst this
   exact hbr
 ·intro id id' c c' q q' A A' hne hc hc' hoc hoc' hq hq' hA hA'
  rcases getElem?_snoc hc with hc | ⟨hid,hce⟩ <;> rcases getElem?_snoc hc' with hc' | ⟨hid',hce'⟩
  ·exact H.apart id id' c c' q q' A A' hne hc hc' hoc hoc' (inOld hc hq) (inOld hc' hq') hA hA'
  ·have:=inNew hid' hq'
   subst this
   exact hap id c q A' A hc hoc (inOld hc hq) hA hA'
  ·have:=inNew hid hq
   subst this
   exact fun e=>hap id' c' q' A A' hc' hoc' (inOld hc' hq') hA' hA e.symm
  ·omega
theorem Own.push {b:ABlk}{p:Pl}{k:Nat}(H:m.length=h.length) (hk:Own (m++[p]) (h++[some b]) k):Own m h k\/(∃ A,p.A=some A/\A.block=k):=by
 obtain ⟨id,c,q,A,hc,hoc,hq,hA,rfl⟩:=hk
 rcases getElem?_snoc hc with hc | ⟨hid,_⟩
 ·left
  have hlt:id<m.length:=by rw [H];exact (List.getElem?_eq_some_iff.1 hc).1
  rw [List.getElem?_append_left hlt] at hq
  exact ⟨id,c,q,A,hc,hoc,hq,hA,rfl⟩
 ·right
  rw [hid,<-H] at hq
  simp at hq
  subst hq
  exact ⟨A,hA,rfl⟩
theorem joinCells {c cs c':Cont}{i k s:Nat}{old new:List Value}(hc:c'.n=c.n+k/\c'.sz=s/\∀ q,q<c.n+k->c'.el q=if q<c.n then c.el q else cs.el (i+(q-c.n))) (hcs:c.sz=s) (hss:cs.sz=s)
  (hold:Cells m c 0 c.n old) (hnew:Cells m cs i k new):Cells m c' 0 (c.n+k) (old++new):=by
 obtain ⟨h1,h2,h3⟩:=hc
 refine ⟨by rw [List.length_append,hold.1,hnew.1,hcs,hss,h2,Nat.add_mul],?_,?_⟩
 rotate_left
 ·intro q hq
  rw [Nat.zero_add,h3 q hq,h2]
  split
  ·rename_i hlt
   have:=hold.2.2 q hlt
   rw [Nat.zero_add] at this
   rw [this,hcs]
  ·rw [hnew.2.2 (q-c.n) (by omega),hss]
 intro q j a hq ha
 rw [Nat.zero_add,h3 q hq] at ha
 rw [h2]
 split at ha
 ·rename_i hlt
  obtain ⟨y,hy,hr⟩:=hold.2.1 q j a hlt (by rw [Nat.zero_add];exact ha)
  rw [hcs] at hy
  exact ⟨y,by rw [List.getElem?_append_left (List.getElem?_eq_some_iff.1 hy).1];exact hy,hr⟩
 ·rename_i hge
  obtain ⟨y,hy,hr⟩:=hnew.2.1 (q-c.n) j a (by omega) ha
  rw [hss] at hy
  refine ⟨y,?_,hr⟩
  have hlen:old.length=c.n*s:=by rw [hold.1,hcs]
  have hqs:(q-c.n)*s+c.n*s=q*s:=by rw [<-Nat.add_mul];congr 1;omega
  rw [List.getElem?_append_right (by rw [hlen];omega),hlen,show q*s+j-c.n*s=(q-c.n)*s+j by omega]
  exact hy
theorem zeroCells_size (z:Array Value) (n:Nat):(Builtin.zeroCells z n).size=n*z.size:=by simp [Builtin.zeroCells]
theorem isSrcD_cases {u:TypeDesc}(h:isSrcD u=true):(∃ e,u=.slice e)\/u=.string:=by
 cases u <;> simp_all [isSrcD]
theorem run_append_fit {P:Program}{t t2 ty:TypeId}{e:TypeId}{u2:TypeDesc}{x:Value}{base:Option Addr}{n cap k:Nat}{inf:TypeInfo}{new:List Value}(hu:P.underlying t=some (.slice e)) (hu2:P.underlying t2=some u2) (hni:isSrcD u2=true)
  (hi:P.info? e=some inf) (hl:(Builtin.lenOf x).run P w=.ok k w) (hf:(Builtin.firstCells inf.size k x).run P w=.ok new.toArray w) (hle:n+k<=cap)
  (hst:(∀ a,base=some a->(storeCells (a.add (n*inf.size)) new 0).run P w=.ok () w')/\(base=none->w'=w)) :
  (Builtin.append_ #[t,t2] ty #[.slice base n cap,x]).run P w=.ok (.slice base (n+k) cap) w':=by
 rcases isSrcD_cases hni with ⟨e2,rfl⟩|rfl
 all_goals
  simp only [Builtin.append_,List.getElem?_toArray,List.getElem?_cons_zero,List.getElem?_cons_succ,Sem.run_bind,run_underlying' hu,run_underlying' hu2,Result.andThen_ok,run_sizeOf' hi,Sem.run_pure,Bool.false_eq_true,if_false,hl,hle,if_true,Bool.not_false,hf]
  cases base with
  | none=>
   have:=hst.2 rfl
   subst this
   simp
  | some a=>
   have:=hst.1 a rfl
   simp [this]
theorem run_append_grow {P:Program}{t t2 ty:TypeId}{e:TypeId}{u2:TypeDesc}{x:Value}{base:Option Addr}{n cap k:Nat}{inf:TypeInfo}{z:Value}{old new:List Value}(hu:P.underlying t=some (.slice e)) (hu2:P.underlying t2=some u2) (hni:isSrcD u2=true)
  (hi:P.info? e=some inf) (hz:inf.zero=some z) (hl:(Builtin.lenOf x).run P w=.ok k w) (hfo:(Builtin.firstCells inf.size n (.slice base n cap)).run P w.drew=.ok old.toArray w.drew) (hf:(Builtin.firstCells inf.size k x).run P w.drew=.ok new.toArray w.drew) (hgt:cap<n+k)
  (hb:0<inf.bytes) (hsm:(n+k)*inf.bytes<=maxCells) :
  ∃ nc,n+k<=nc/\(Builtin.append_ #[t,t2] ty #[.slice base n cap,x]).run P w=.ok (.slice (some ⟨w.heap.size,0,none⟩) (n+k) nc) (w.drew.alloc (.cells (old.toArray++new.toArray++Builtin.zeroCells z.cells (nc-(n+k))) e)):=by
 have hnc:∃ nc,n+k<=nc/\(choose (.appendCap (n+k) cap e)).run P w=.ok nc w.drew:=by
  refine ⟨_,?_,rfl⟩
  simp only [Question.cut]
  omega
 obtain ⟨nc,hnc1,hnc2⟩:=hnc
 refine ⟨nc,hnc1,?_⟩
 have hmc:(n+k)*inf.bytes<=140737488355328:=hsm
 have hnext:¬ Builtin.nextslicecap (n+k) cap*inf.bytes>2^48:=by
  have h1:=nextcap_le hgt
  have h2:Builtin.nextslicecap (n+k) cap*inf.bytes<=2*(n+k)*inf.bytes:=Nat.mul_le_mul_right _ h1
  rw [Nat.mul_assoc] at h2
  omega
 have hbig:¬ (((n+k:Nat):Int)>IntKind.i64.max/\(False\/inf.bytes=0)):=by
  rintro ⟨_,h⟩
  rcases h with h|h
  ·exact h
  ·omega
 have hask:(askRoom (nc*inf.bytes)).run P w.drew=.ok () w.drew:=by
  unfold askRoom
  split <;> rfl
 have hzero:(zeroValue e).run P w.drew=.ok z w.drew:=run_zero' hi hz
 rcases isSrcD_cases hni with ⟨e2,rfl⟩|rfl
 all_goals
  simp only [Builtin.append_,List.getElem?_toArray,List.getElem?_cons_zero,List.getElem?_cons_succ,Sem.run_bind,run_underlying' hu,run_underlying' hu2,Result.andThen_ok,run_sizeOf' hi,Sem.run_pure,Bool.false_eq_true,if_false,hl,Nat.not_le.2 hgt,Bool.not_false,if_true,run_typeInfo' hi]
  rw [if_neg (by simpa using hbig)]
  simp only [Sem.run_bind,run_typeInfo' hi,Result.andThen_ok]
  rw [if_neg hnext]
  simp only [Sem.run_pure,Result.andThen_ok,Sem.run_bind,run_typeInfo' hi,hnc2,hask,hfo,hf,hzero,run_newRow]
  rfl
theorem BR.ofCells' {c:Cont}{list:List Value}{cs:Array Value}{t:TypeId}{A:Addr}{cap:Nat}(hC:Cells m c 0 c.n list) (hcap:c.n<=cap) (hA0:A.off=0) (hsp:A.spot=none) (hB:B<=A.block)
  (hw:w.heap[A.block]?=some (.cells cs t (0,0))) (hsz:cs.size=cap*c.sz) (hpre:∀ (k:Nat) y,list[k]?=some y->cs.toList[k]?=some y):BR B m ⟨t,true,c⟩ ⟨some A,cap,c.sz⟩ w:=by
 refine { sz:=rfl,len:=fun i hi=>by simpa using hC.2.2 i hi,cap:=hcap,cell:=?_,own:=?_,came:=fun e=>by cases e }
 ·intro i j a hi ha
  obtain ⟨y,hy,hr,h1⟩:=hC.2.1 i j a hi (by simpa using ha)
  refine ⟨A,y,rfl,hsp,?_,hr,h1⟩
  simp only [World.cell?,hw,hA0]
  have:=hpre _ _ hy
  simpa using this
 ·intro _
  refine And.intro (fun e=>nomatch e) ?_
  intro A' hA'
  cases hA'
  exact ⟨hA0,hsp,hB,cs,hw,hsz⟩
theorem Cells.ext {m':List Pl}(he:Ext m m') {c:Cont}{i k:Nat}{list:List Value}(h:Cells m c i k list):Cells m' c i k list:=
 ⟨h.1,fun q j a hq ha=>let ⟨y,hy,hr,h1⟩:=h.2.1 q j a hq ha;⟨y,hy,hr.ext he,h1⟩,h.2.2⟩
theorem h_append (hG:GOk G.toCtx) (hρ:OpsOk m ρ ρ') (H:HR B m h w) (hB:B<=w.heap.size) {args:Array Operand}{ts:Array TypeId}(ho:o.op=.call ⟨.builtin .append,args,ts⟩) {s x:Operand}{t t2:TypeId}(ha:args.toList=[s,x]) (hts:ts.toList=[t,t2])
  (he:(aappend G.T h t t2 (ρ s) (ρ x)).eval=some (v,h')):HOk G.P B m h w ρ' o v h':=by
 have hargs:args=#[s,x]:=by apply Array.ext';simpa using ha
 have htss:ts=#[t,t2]:=by apply Array.ext';simpa using hts
 subst hargs;subst htss
 unfold aappend at he
 split at he
 ·rename_i e _ _ _ _ _ _ ti2 ht ht2
  split at he
  ·rename_i ti hsrc hte
   split at he
   ·rename_i hk c nn i k cs hdst hsr
    split at he
    ·rename_i hcs
     split at he
     ·rename_i c' hj
      obtain ⟨h0,he⟩:=Tr.eval_need.1 he
      have hnn:c.n=nn:=by simpa using h0
      obtain ⟨h1,h2,hv⟩:=need2 he
      simp only [Tr.eval,Option.some.injEq,Prod.mk.injEq] at hv
      obtain ⟨rfl,rfl⟩:=hv
      have hle:i+k<=cs.n:=by simpa using h1
      have hsm:(c.n+k)*ti.bytes<=maxCells:=by simpa using h2
      obtain ⟨inf,z,hi,hs,hby,hz,hzc⟩:=hG.c.t.i _ _ hte
      have hpos:=(hG.c.one _ _ hte).1
      have hbp:=hG.c.bytes _ _ hte
      have hut:=hG.c.t.u _ _ ht
      have hut2:=hG.c.t.u _ _ ht2
      obtain ⟨new,hnew,hlen,hfirst⟩:=src_ok G.P H hpos (hρ x) hsr hcs hle
      have hdr:HR B m h w.drew:=H.keep fun k _=>rfl
      obtain ⟨new2,hnew2,hlen2,hfirst2⟩:=src_ok G.P hdr hpos (hρ x) hsr hcs hle
      obtain ⟨hcsz,hd⟩:=dst_ok H (hρ s) hdst hnn
      have hjo:=joinC_ok hj hle
      have hexec:∀ {y:Value}{w'':World},(Builtin.append_ #[t,t2] o.type #[ρ' s,ρ' x]).run G.P w=.ok y w''->(execOp ρ' o).run G.P w=.ok (.value y) w'':=by
       intro y w'' hr
       simp only [execOp,ho,resolve,invoke,builtin,Sem.run_bind,Sem.run_pure,Result.andThen_ok,List.map_toArray,List.map_cons,List.map_nil]
       rw [hr]
       rfl
      have hkill:HR B m hk w:=by
       rcases hd with ⟨_,rfl,_⟩ | ⟨id,b,p,_,_,_,_,_,rfl,_⟩
       ·exact H
       ·exact H.kill id
      have hkown:∀ q,Own m hk q->Own m h q:=by
       rcases hd with ⟨_,rfl,_⟩ | ⟨id,b,p,_,_,_,_,_,rfl,_⟩
       ·exact fun _ hq=>hq
       ·exact fun _ hq=>Own.kill hq
      have hkl:hk.length=h.length:=by rw [<-H.len,<-hkill.len]
      have grow:∀ {old:List Value}{base:Option Addr}{cap:Nat},ρ' s=.slice base c.n cap->Cells m c 0 c.n old->(Builtin.firstCells ti.size c.n (.slice base c.n cap)).run G.P w.drew=.ok old.toArray w.drew->cap<c.n+k →
        HOk G.P B m h w ρ' o (.c (.sl h.length 0 (c.n+k))) (hk++[some ⟨e,true,c'⟩]):=by
       intro old base cap hse hold hfo hgt
       obtain ⟨nc,hnc,hrun⟩:=run_append_grow (ty:=o.type) (k:=k) hut hut2 hsrc hi hz hlen (by rw [hs];exact hfo) (by rw [hs];exact hfirst2) hgt (by rw [hby];exact hbp) (by rw [hby];exact hsm)
       have hC:=joinCells hjo hcsz hcs hold hnew2
       have hzs:z.cells.size=ti.size:=by
        have:=hG.c.t.zlen _ _ hte
        rw [<-hzc] at this
        simpa using this
       have hcell:(w.drew.alloc (.cells (old.toArray++new2.toArray++Builtin.zeroCells z.cells (nc-(c.n+k))) e)).heap[w.heap.size]?=some (.cells (old.toArray++new2.toArray++Builtin.zeroCells z.cells (nc-(c.n+k))) e (0,0)):=by
        show (w.heap.push _)[w.heap.size]?=_
        simp
       have hfr:Fr (Own m h) w (w.drew.alloc (.cells (old.toArray++new2.toArray++Builtin.zeroCells z.cells (nc-(c.n+k))) e)):=(Fr.drew _ w).trans (Fr.alloc (Own m h) _ _) fun _ hq=>.inl hq
       have hH:HR B m hk (w.drew.alloc (.cells (old.toArray++new2.toArray++Builtin.zeroCells z.cells (nc-(c.n+k))) e)):=hkill.keep fun q hq=>Below.heap_alloc w.drew _ q hq
       have hoL:old.length=c.n*ti.size:=by rw [hold.1,hcsz]
       have hnL:new2.length=k*ti.size:=by rw [hnew2.1,hcs]
       have hbr:=BR.ofCells' (B:=B) (A:=⟨w.heap.size,0,none⟩) (cap:=nc) (by rw [hjo.1];exact hC) (by rw [hjo.1];exact hnc) rfl rfl hB hcell (by
        rw [Array.size_append,Array.size_append,zeroCells_size,hzs,hjo.2.1]
        simp only [List.size_toArray,hoL,hnL]
        rw [<-Nat.add_mul,<-Nat.add_mul]
        congr 1
        omega) (fun q y hy=>by
         rw [Array.toList_append,Array.toList_append,List.getElem?_append_left (by simpa using (List.getElem?_eq_some_iff.1 hy).1)]
         simpa using hy)
       refine ⟨_,_,m++[⟨some ⟨w.heap.size,0,none⟩,nc,c'.sz⟩],.inl (hexec (by rw [hse];exact hrun)),⟨Ext.app _ _,hH.push (hbr.ext (Ext.app _ _)) ?_,hfr,?_⟩,?_⟩
       ·intro id b' p' A A' hb' ho' hp' hA hA'
        cases hA'
        obtain ⟨_,_,_,cs0,hc0,_⟩:=((hkill.blk id b' p' hb' hp').own ho').2 A' hA
        have:=(Array.getElem?_eq_some_iff.1 hc0).1
        show A'.block ≠ w.heap.size
        omega
       ·intro q hq
        rcases Own.push hH.len hq with hq | ⟨A,hA,rfl⟩
        ·exact .inl (hkown q hq)
        ·cases hA;exact .inr (Nat.le_refl _)
       ·refine ⟨⟨some ⟨w.heap.size,0,none⟩,nc,c'.sz⟩,_,_,?_,rfl,⟨hnc,fun e=>nomatch e⟩,fun _=>⟨rfl,rfl⟩,fun _=>⟨_,rfl,rfl,by simp⟩⟩
        rw [<-H.len]
        simp
      rcases hd with ⟨hse,rfl,hn0⟩ | ⟨id,b,p,hid,hbo,hp,hbr,hse,rfl,hbs,hbn,hbt,hel⟩
      ·
       have hold:Cells m c 0 c.n []:=by rw [hn0];exact ⟨by simp,fun q j a hq=>absurd hq (Nat.not_lt_zero _),fun q hq=>absurd hq (Nat.not_lt_zero _)⟩
       rcases Nat.eq_zero_or_pos k with hk0|hk0
       ·subst hk0
        have hrun:=run_append_fit (P:=G.P) (ty:=o.type) (base:=none) (n:=0) (cap:=0) (k:=0) (w':=w) hut hut2 hsrc hi hlen (by rw [hs];exact hfirst) (by omega) ⟨(fun a h=>nomatch h),fun _=>rfl⟩
        refine ⟨_,w,m++[⟨none,0,c'.sz⟩],.inl (hexec (by rw [hse];exact hrun)),⟨Ext.app _ _,H.push ?_ (fun _ _ _ _ _ _ _ _ _ h=>by cases h),Fr.refl _ _,?_⟩,?_⟩
        ·have hn:c'.n=0:=by rw [hjo.1,hn0]
         exact { sz:=rfl,len:=fun i hi=>by rw [hn] at hi;omega,cap:=by rw [hn];exact Nat.le_refl _,cell:=fun i j a hi=>by rw [hn] at hi;omega,own:=fun _=>And.intro (fun _=>rfl) (fun A h=>nomatch h),came:=fun e=>by cases e }
        ·intro q hq
         rcases Own.push H.len hq with hq | ⟨A,hA,_⟩
         ·exact .inl hq
         ·cases hA
        ·rw [hn0]
         refine ⟨⟨none,0,c'.sz⟩,none,0,?_,rfl,⟨Nat.le_refl _,fun _=>rfl⟩,fun _=>⟨rfl,rfl⟩,fun h=>by omega⟩
         rw [<-H.len]
         simp
       ·refine grow (old:=[]) (base:=none) (cap:=0) (by rw [hse,hn0]) hold ?_ (by omega)
        simp [Builtin.firstCells]
      ·
       have hbsz:b.c.sz=c.sz:=by rw [hbs,hcsz]
       have hold:∃ old:List Value,Cells m c 0 c.n old/\(∀ A,p.A=some A->A.spot=none/\∀ (q:Nat) y,old[q]?=some y->w.cell? ⟨A.block,A.off+q,none⟩=some y):=by
        rcases Nat.eq_zero_or_pos c.n with h0|h0
        ·refine ⟨[],by rw [h0];exact ⟨by simp,fun q j a hq=>absurd hq (Nat.not_lt_zero _),fun q hq=>absurd hq (Nat.not_lt_zero _)⟩,fun A hA=>⟨((hbr.own hbo).2 A hA).2.1,fun q y hy=>by simp at hy⟩⟩
        ·obtain ⟨A,cells,hA,hsp,hC,hcell⟩:=hbr.cellsFrom (i:=0) (k:=c.n) (by omega) (by omega) h0
         refine ⟨cells,⟨by rw [hC.1,hbsz],fun q j a hq ha=>?_,fun q hq=>?_⟩,fun A' hA'=>?_⟩
         ·rw [Nat.zero_add,hel q hq] at ha
          have:=hC.2.1 q j a hq (by rw [Nat.zero_add];exact ha)
          rwa [hbsz] at this
         ·have:=hC.2.2 q hq
          rw [Nat.zero_add] at this ⊢
          rw [hel q hq,this,hbsz]
         ·have:A'=A:=by rw [hA] at hA';cases hA';rfl
          subst this
          exact ⟨hsp,fun q y hy=>by have:=hcell q y hy;simpa using this⟩
       obtain ⟨old,hold,hocell⟩:=hold
       have hoL:old.length=c.n*ti.size:=by rw [hold.1,hcsz]
       rcases Nat.lt_or_ge p.cap (c.n+k) with hgt|hfit
       ·
        refine grow (old:=old) hse hold ?_ hgt
        cases hpA:p.A with
        | none=>
         have hc0:c.n=0:=by
          have:=(hbr.own hbo).1 hpA
          have:=hbr.cap
          omega
         have:old=[]:=List.length_eq_zero_iff.1 (by rw [hoL,hc0];simp)
         subst this
         simp [Builtin.firstCells]
        | some A=>
         simp only [Builtin.firstCells]
         obtain ⟨hsp,hoc⟩:=hocell A hpA
         refine run_loadCells' (by rw [hoL]) fun q y hy=>?_
         rw [add_none hsp]
         exact hoc q y hy
       ·
        have hC:=joinCells hjo hcsz hcs hold hnew
        have hnL:new.length=k*ti.size:=by rw [hnew.1,hcs]
        cases hpA:p.A with
        | none=>
         have hcap0:=(hbr.own hbo).1 hpA
         have hn0:c.n=0:=by omega
         have hk0:k=0:=by omega
         subst hk0
         have hrun:=run_append_fit (P:=G.P) (ty:=o.type) (base:=none) (n:=c.n) (cap:=p.cap) (k:=0) (w':=w) hut hut2 hsrc hi hlen (by rw [hs];exact hfirst) hfit ⟨(fun a h=>nomatch h),fun _=>rfl⟩
         refine ⟨_,w,m++[⟨none,0,c'.sz⟩],.inl (hexec (by rw [hse,hpA];exact hrun)),⟨Ext.app _ _,hkill.push ?_ (fun _ _ _ _ _ _ _ _ _ h=>by cases h),Fr.refl _ _,?_⟩,?_⟩
         ·have hn:c'.n=0:=by rw [hjo.1,hn0]
          exact { sz:=rfl,len:=fun i hi=>by rw [hn] at hi;omega,cap:=by rw [hn];exact Nat.le_refl _,cell:=fun i j a hi=>by rw [hn] at hi;omega,own:=fun _=>And.intro (fun _=>rfl) (fun A h=>nomatch h),came:=fun e=>by cases e }
         ·intro q hq
          rcases Own.push hkill.len hq with hq | ⟨A,hA,_⟩
          ·exact .inl (hkown q hq)
          ·cases hA
         ·refine ⟨⟨none,0,c'.sz⟩,none,p.cap,?_,rfl,⟨by omega,fun _=>hcap0⟩,fun _=>⟨rfl,hcap0⟩,fun h=>by omega⟩
          rw [<-H.len]
          simp
        | some A=>
         obtain ⟨hA0,hsp,hAB,cs0,hc0,hcsz0⟩:=(hbr.own hbo).2 A hpA
         have hps:p.sz=ti.size:=by rw [hbr.sz,hbs]
         have hroom:c.n*ti.size+new.length<=cs0.size:=by
          rw [hnL,hcsz0,hps,<-Nat.add_mul]
          exact Nat.mul_le_mul_right _ hfit
         have hone:∀ y ∈ new,oneV y=true:=by
          intro y hy
          obtain ⟨q,hq⟩:=List.getElem?_of_mem hy
          have hql:q<k*ti.size:=by rw [<-hnL];exact (List.getElem?_eq_some_iff.1 hq).1
          have hd1:q / ti.size<k:=Nat.div_lt_of_lt_mul (by rw [Nat.mul_comm];exact hql)
          have hd2:q % ti.size<ti.size:=Nat.mod_lt _ hpos
          have hl:=hnew.2.2 (q / ti.size) hd1
          obtain ⟨y',hy',_,h1⟩:=hnew.2.1 (q / ti.size) (q % ti.size) _ hd1 (List.getElem?_eq_getElem (by rw [hl,hcs];exact hd2))
          rw [hcs,show q / ti.size*ti.size+q % ti.size=q by rw [Nat.mul_comm];exact Nat.div_add_mod q ti.size,hq] at hy'
          cases hy'
          exact h1
         obtain ⟨w',cs',hr,hb',hcs',hother,hsize,hos,htape,hout⟩:=storeCells_run G.P A.block (c.n*ti.size) b.t new 0 w cs0 hc0 (by simpa using hroom) hone
         have hrun:=run_append_fit (P:=G.P) (ty:=o.type) (base:=some A) (n:=c.n) (cap:=p.cap) (k:=k) (w':=w') hut hut2 hsrc hi hlen (by rw [hs];exact hfirst) hfit ⟨fun a h=>by
          cases h
          rw [add_none hsp,hs,hA0,Nat.zero_add]
          exact hr,fun h=>by cases h⟩
         have hte':b.t=e:=by rw [hbt];exact lookT_t hte
         have hkill':HR B m (h.set id none) w':=H.killSet hid hp hbo hpA hother
         have hsz':cs'.size=cs0.size:=by
          have:=congrArg List.length hcs'
          simp at this
          omega
         have hbr':=BR.ofCells' (B:=B) (A:=A) (cap:=p.cap) (t:=b.t) (by rw [hjo.1];exact hC) (by rw [hjo.1];exact hfit) hA0 hsp hAB hb' (by rw [hsz',hcsz0,hps,hjo.2.1]) (fun q y hy=>by
          rw [hcs',Nat.add_zero,List.append_assoc]
          have hol:(cs0.toList.take (c.n*ti.size)).length=c.n*ti.size:=by simp;omega
          rcases Nat.lt_or_ge q old.length with hq|hq
          ·rw [List.getElem?_append_left hq] at hy
           rw [List.getElem?_append_left (by rw [hol,<-hoL];exact hq),List.getElem?_take,if_pos (by rw [<-hoL];exact hq)]
           have:=(hocell A hpA).2 q y hy
           simp only [World.cell?,hc0,hA0] at this
           simpa using this
          ·rw [List.getElem?_append_right hq] at hy
           rw [List.getElem?_append_right (by rw [hol,<-hoL];exact hq),hol,<-hoL,List.getElem?_append_left (List.getElem?_eq_some_iff.1 hy).1]
           exact hy)
         rw [hte'] at hbr'
         refine ⟨_,w',m++[⟨some A,p.cap,c'.sz⟩],.inl (hexec (by rw [hse,hpA];exact hrun)),⟨Ext.app _ _,hkill'.push (hbr'.ext (Ext.app _ _)) ?_,⟨hos,htape,hout,by omega,fun q hq hX=>hother q fun e=>hX ⟨id,b,p,A,hid,hbo,hp,hpA,e.symm⟩⟩,?_⟩,?_⟩
         ·intro id' b' p' A1 A2 hb1 ho1 hp1 hA1 hA2
          cases hA2
          obtain ⟨hne,hb1⟩:=kill_some hb1
          exact H.apart id' id b' b p' p A2 A hne hb1 hid ho1 hbo hp1 hp hA1 hpA
         ·intro q hq
          rcases Own.push hkill'.len hq with hq | ⟨A',hA',rfl⟩
          ·exact .inl (hkown q hq)
          ·cases hA'
           exact .inl ⟨id,b,p,A,hid,hbo,hp,hpA,rfl⟩
         ·refine ⟨⟨some A,p.cap,c'.sz⟩,_,_,?_,rfl,⟨hfit,fun e=>nomatch e⟩,fun _=>⟨rfl,rfl⟩,fun _=>⟨A,rfl,hsp,addr_eta hsp _⟩⟩
          rw [<-H.len]
          simp
     ·cases he
    ·cases he
   ·cases he
  ·cases he
 ·cases he
end
end
section
open Go Go.RowKit
def RenOk (g:Nat->Option Nat) (m m':List Pl):Prop:=∀ (id k:Nat),g id=some k->∀ p,m[id]?=some p->m'[k]?=some p
section
variable {g:Nat->Option Nat}{m m':List Pl}{h:AHeap}{w:World}{B:Nat}
theorem CR.ren (hg:RenOk g m m') {c:AC}{y:Value}(h:CR m c y):CR m' (renAC g c) y:=by
 cases c with
 | any=>trivial
 | v x=>exact h
 | ptr id i j=>
  obtain ⟨p,A,hp,rest⟩:=h
  simp only [renAC]
  cases e:g id with
  | none=>trivial
  | some k=>exact ⟨p,A,hg id k e p hp,rest⟩
 | sl id i n=>
  obtain ⟨p,A',c',hp,rest⟩:=h
  simp only [renAC]
  cases e:g id with
  | none=>trivial
  | some k=>exact ⟨p,A',c',hg id k e p hp,rest⟩
mutual
theorem VR.ren (hg:RenOk g m m'):∀ {v:AV}{y:Value},VR m v y->VR m' (renAV g v) y
 | .c x,y,h=>by simp only [VR,renAV] at h ⊢;exact h.ren hg
 | .agg l,y,h=>by simp only [VR,renAV] at h ⊢;obtain ⟨cs,e,hF⟩:=h;exact ⟨cs,e,by simpa using hF.map (renAC g) id fun a b hr=>hr.ren hg⟩
 | .arr n f,y,h=>by simp only [VR,renAV] at h ⊢;exact h
 | .tup l,y,h=>by simp only [VR,renAV] at h ⊢;obtain ⟨vs,e,hF⟩:=h;exact ⟨vs,e,VRs.ren hg hF⟩
theorem VRs.ren (hg:RenOk g m m'):∀ {l:List AV}{k:List Value},VRs m l k->VRs m' (renAVs g l) k
 | [],[],_=>by simp [VRs,renAVs]
 | [],_::_,h=>by simp [VRs] at h
 | _::_,[],h=>by simp [VRs] at h
 | x::l,y::k,h=>by simp only [VRs,renAVs] at h ⊢;exact ⟨VR.ren hg h.1,VRs.ren hg h.2⟩
end
theorem renC_n (g:Nat->Option Nat) (c:Cont):(renC g c).n=c.n:=by cases c <;> simp [renC,Cont.n]
theorem renC_sz (g:Nat->Option Nat) (c:Cont):(renC g c).sz=c.sz:=by cases c <;> simp [renC,Cont.sz]
theorem renC_el (g:Nat->Option Nat) (c:Cont) (i:Nat):(renC g c).el i=(c.el i).map (renAC g):=by
 cases c with
 | one l=>rfl
 | row sz n f=>simp [renC,Cont.el,ofCells,renAC]
 | lst sz l z=>
  simp only [renC,Cont.el,List.getD_eq_getElem?_getD,List.getElem?_map]
  cases l[i]? <;> rfl
theorem BR.ren (hg:RenOk g m m') {b:ABlk}{p:Pl}(hb:BR B m b p w):BR B m' (renB g b) p w:=
 {sz:=by rw [hb.sz];exact (renC_sz g b.c).symm
  len:=fun i hi=>by
   have hi':i<b.c.n:=by rw [<-renC_n g];exact hi
   show ((renC g b.c).el i).length=p.sz
   rw [renC_el,List.length_map,hb.len i hi']
  cap:=by show (renC g b.c).n<=p.cap;rw [renC_n];exact hb.cap
  cell:=fun i j c hi hc=>by
   have hi':i<b.c.n:=by rw [<-renC_n g];exact hi
   have hc':((renC g b.c).el i)[j]?=some c:=hc
   rw [renC_el,List.getElem?_map,Option.map_eq_some_iff] at hc'
   obtain ⟨a,ha,rfl⟩:=hc'
   obtain ⟨A,x,hA,hs,hx,hr,h1⟩:=hb.cell i j a hi' ha
   exact ⟨A,x,hA,hs,hx,hr.ren hg,h1⟩
  own:=hb.own
  came:=fun ho A hA hn=>hb.came ho A hA (by rw [<-renC_n g];exact hn) }
theorem closeOf_ok (h:AHeap):∀ (f:Nat) (todo acc:List Nat),∃ l,closeOf h f todo acc=acc++l/\(acc.Nodup->(acc++l).Nodup)/\∀ x ∈ l,x<h.length
 | 0,_,acc=>⟨[],by simp [closeOf],by simp,by simp⟩
 | _+1,[],acc=>⟨[],by simp [closeOf],by simp,by simp⟩
 | k+1,id::todo,acc=>by
  simp only [closeOf]
  split
  ·exact closeOf_ok h k todo acc
  ·rename_i hn
   simp only [Bool.or_eq_true,not_or,Bool.not_eq_true,decide_eq_false_iff_not,Nat.not_le] at hn
   obtain ⟨l,e,hd,hb⟩:=closeOf_ok h k (todo++refB (h[id]?).join) (acc++[id])
   refine ⟨id::l,by rw [e];simp,?_,?_⟩
   ·intro ha
    have hni:id ∉ acc:=by have:=hn.1;simpa using this
    have:=hd (List.nodup_append.2 ⟨ha,by simp,fun x hx y hy=>by simp at hy;subst hy;exact fun e=>hni (e ▸ hx)⟩)
    simpa using this
   ·intro x hx
    cases hx with
    | head=>exact hn.2
    | tail _ hx=>exact hb x hx
theorem nodup_inj {R:List Nat}(hd:R.Nodup) {i j x:Nat}(hi:R[i]?=some x) (hj:R[j]?=some x):i=j:=by
 obtain ⟨h1,h2⟩:=List.getElem?_eq_some_iff.1 hi
 obtain ⟨h3,h4⟩:=List.getElem?_eq_some_iff.1 hj
 have hp:=List.pairwise_iff_getElem.1 hd
 rcases Nat.lt_trichotomy i j with hlt|rfl|hgt
 ·exact absurd (h2.trans h4.symm) (hp i j h1 h3 hlt)
 ·rfl
 ·exact absurd (h4.trans h2.symm) (hp j i h3 h1 hgt)
theorem idxIn_some {R:List Nat}{id k:Nat}(he:idxIn R id=some k):R[k]?=some id:=by
 unfold idxIn at he
 split at he
 ·rename_i hc
  simp only [Option.some.injEq] at he
  subst he
  have hm:id ∈ R:=by simpa using hc
  have hlt:=List.idxOf_lt_length_iff.2 hm
  rw [List.getElem?_eq_getElem hlt,List.getElem_idxOf]
 ·cases he
def subPl (m:List Pl) (R:List Nat):List Pl:=R.map fun id=>m.getD id ⟨none,0,0⟩
theorem subPl_get {R:List Nat}{id k:Nat}{p:Pl}(he:R[k]?=some id) (hp:m[id]?=some p):(subPl m R)[k]?=some p:=by
 simp [subPl,he,List.getD_eq_getElem?_getD,hp]
theorem subPl_ren (R:List Nat):RenOk (idxIn R) m (subPl m R):=fun id k he p hp=>subPl_get (idxIn_some he) hp
theorem subHeap_get {R:List Nat}{k:Nat}{b:ABlk}(he:(subHeap h R)[k]?=some (some b)):∃ id b0,R[k]?=some id/\h[id]?=some (some b0)/\b=renB (idxIn R) b0:=by
 simp only [subHeap,List.getElem?_map,Option.map_eq_some_iff] at he
 obtain ⟨id,hid,he⟩:=he
 obtain ⟨b0,hb0,rfl⟩:=he
 refine ⟨id,b0,hid,?_,rfl⟩
 cases e:h[id]? with
 | none=>simp [e] at hb0
 | some o=>rw [e] at hb0;simp at hb0;rw [hb0]
theorem HR.sub (H:HR B m h w) {R:List Nat}(hd:R.Nodup) (hlt:∀ x ∈ R,x<h.length):HR B (subPl m R) (subHeap h R) w:=by
 have pl:∀ {k id:Nat}{p:Pl},R[k]?=some id->(subPl m R)[k]?=some p->m[id]?=some p:=by
  intro k id p hk hp
  have hid:id<m.length:=by rw [H.len];exact hlt id (List.mem_of_getElem? hk)
  have:=subPl_get (m:=m) hk (List.getElem?_eq_getElem hid)
  rw [this] at hp
  cases hp
  exact List.getElem?_eq_getElem hid
 refine { len:=by simp [subPl,subHeap],blk:=?_,apart:=?_ }
 ·intro k b p hb hp
  obtain ⟨id,b0,hk,hb0,rfl⟩:=subHeap_get hb
  exact (H.blk id b0 p hb0 (pl hk hp)).ren (subPl_ren R)
 ·intro k k' b b' p p' A A' hne hb hb' ho ho' hp hp' hA hA'
  obtain ⟨id,b0,hk,hb0,rfl⟩:=subHeap_get hb
  obtain ⟨id',b0',hk',hb0',rfl⟩:=subHeap_get hb'
  refine H.apart id id' b0 b0' p p' A A' ?_ hb0 hb0' ho ho' (pl hk hp) (pl hk' hp') hA hA'
  intro e
  subst e
  exact hne (nodup_inj hd hk hk')
theorem Own.sub (H:HR B m h w) {R:List Nat}(hlt:∀ x ∈ R,x<h.length) {k:Nat}(ho:Own (subPl m R) (subHeap h R) k):Own m h k:=by
 obtain ⟨i,b,p,A,hb,how,hp,hA,rfl⟩:=ho
 obtain ⟨id,b0,hk,hb0,rfl⟩:=subHeap_get hb
 refine ⟨id,b0,p,A,hb0,how,?_,hA,rfl⟩
 have hid:id<m.length:=by rw [H.len];exact hlt id (List.mem_of_getElem? hk)
 have:=subPl_get (m:=m) hk (List.getElem?_eq_getElem hid)
 rw [this] at hp
 cases hp
 exact List.getElem?_eq_getElem hid
end
end
section
open Go Go.RowKit
def SpecOk (P:Program) (f:FuncId) (F:Spec):Prop:=
 ∀ (B:Nat) args H r H',(F args H).eval=some (r,H')->∀ m w (vals:Array Value),HR B m H w->B<=w.heap.size->VRs m args vals.toList →
  Calls P f vals w fun e w'=>∃ m' x,e=.returned x/\Step B m H w m' H' w'/\VR m' r x
section
variable {m m1:List Pl}{h hs:AHeap}{w w':World}{B:Nat}{R:List Nat}
theorem merge_get {id:Nat}{b:ABlk}(hd:R.Nodup) (hlt:∀ x ∈ R,x<h.length) (he:(mergeIn h R hs)[id]?=some (some b)) :
  (id ∉ R/\id<h.length/\h[id]?=some (some b))\/(∃ (k:Nat) (b1:ABlk),hs[k]?=some (some b1)/\b=renB (backIn R h.length) b1/\backIn R h.length k=some id/\(k<R.length->R[k]?=some id)):=by
 unfold mergeIn at he
 rcases Nat.lt_or_ge id h.length with hl|hl
 ·rw [List.getElem?_append_left (by simpa using hl),List.getElem?_map,List.getElem?_range hl] at he
  simp only [Option.map_some,Option.some.injEq] at he
  split at he
  ·rename_i hc
   right
   have hm:id ∈ R:=by simpa using hc
   have hidx:=List.idxOf_lt_length_iff.2 hm
   have hR:R[R.idxOf id]?=some id:=by rw [List.getElem?_eq_getElem hidx,List.getElem_idxOf]
   cases e:hs[R.idxOf id]? with
   | none=>simp [e] at he
   | some o=>
    cases o with
    | none=>simp [e] at he
    | some b1=>
     rw [e] at he
     simp only [Option.join_some,Option.map_some,Option.some.injEq] at he
     refine ⟨R.idxOf id,b1,e,he.symm,?_,fun _=>hR⟩
     unfold backIn
     rw [if_pos hidx,List.getD_eq_getElem?_getD,hR]
     rfl
  ·rename_i hc
   left
   refine ⟨by simpa using hc,hl,?_⟩
   cases e:h[id]? with
   | none=>simp [e] at he
   | some o=>rw [e] at he;simp at he;rw [he]
 ·rw [List.getElem?_append_right (by simpa using hl)] at he
  simp only [List.length_map,List.length_range,List.getElem?_map,List.getElem?_drop,Option.map_eq_some_iff] at he
  obtain ⟨o,ho,b1,rfl,rfl⟩:=he
  right
  refine ⟨R.length+(id-h.length),b1,ho,rfl,?_,fun hk=>by omega⟩
  unfold backIn
  rw [if_neg (by omega)]
  congr 1
  omega
theorem acall_ok {P:Program}{f:FuncId}{F:Spec}(hF:SpecOk P f F) {args:List AV}{vals:Array Value}{r:AV}{h':AHeap}(H:HR B m h w) (hB:B<=w.heap.size) (hv:VRs m args vals.toList) (he:(acall F args h).eval=some (r,h')) :
  Calls P f vals w fun e w'=>∃ m' x,e=.returned x/\Step B m h w m' h' w'/\VR m' r x:=by
 rw [acall_def] at he
 obtain ⟨l,hRe,hRd,hRb⟩:=closeOf_ok h 10000 (refAVs args) []
 generalize hR:closeOf h 10000 (refAVs args) []=R at he hRe
 simp only [List.nil_append] at hRe hRd
 subst hRe
 have hd:R.Nodup:=hRd List.nodup_nil
 simp only [Tr.eval_bind] at he
 cases hs0:(F (renAVs (idxIn R) args) (subHeap h R)).eval with
 | none=>rw [hs0] at he;simp at he
 | some rh=>
  obtain ⟨rs,hs⟩:=rh
  rw [hs0] at he
  simp only [Option.bind_some,Tr.eval,Option.some.injEq,Prod.mk.injEq] at he
  obtain ⟨rfl,rfl⟩:=he
  have hsub:=H.sub hd hRb
  refine (hF B _ _ rs hs hs0 (subPl m R) w vals hsub hB (VRs.ren (subPl_ren R) hv)).mono ?_
  rintro e w' ⟨m1,x,rfl,hst,hvr⟩
  have hRm:∀ x ∈ R,x<m.length:=fun x hx=>by rw [H.len];exact hRb x hx
  have hsubl:(subPl m R).length=R.length:=by simp [subPl]
  have hm1:R.length<=m1.length:=by
   rcases Nat.eq_zero_or_pos R.length with h0|h0
   ·omega
   ·have hlt:R.length-1<(subPl m R).length:=by omega
    have:=hst.ext _ _ (List.getElem?_eq_getElem hlt)
    have:=(List.getElem?_eq_some_iff.1 this).1
    omega
  have hback:RenOk (backIn R h.length) m1 (m++m1.drop R.length):=by
   intro i k hk p hp
   unfold backIn at hk
   simp only [Option.some.injEq] at hk
   subst hk
   split
   ·rename_i hi
    obtain ⟨y,hy⟩:∃ y,R[i]?=some y:=⟨_,List.getElem?_eq_getElem hi⟩
    have hym:=hRm y (List.mem_of_getElem? hy)
    have h1:=hst.ext _ _ (subPl_get (m:=m) hy (List.getElem?_eq_getElem hym))
    rw [h1] at hp
    cases hp
    rw [List.getD_eq_getElem?_getD,hy,Option.getD_some,List.getElem?_append_left hym]
    exact List.getElem?_eq_getElem hym
   ·rename_i hi
    rw [<-H.len,List.getElem?_append_right (by omega),List.getElem?_drop,show R.length+(m.length+(i-R.length)-m.length)=i by omega]
    exact hp
  refine ⟨m++m1.drop R.length,x,rfl,?_,VR.ren hback hvr⟩
  have hownsub:∀ k,Own (subPl m R) (subHeap h R) k->Own m h k:=fun k hk=>Own.sub H hRb hk
  have hapartBlk:∀ {id:Nat}{b:ABlk}{p:Pl}{A:Addr},id ∉ R->h[id]?=some (some b)->m[id]?=some p->p.A=some A->(0<b.c.n\/b.own=true)->¬ Own (subPl m R) (subHeap h R) A.block:=by
   intro id b p A hni hb hp hA hor hown
   obtain ⟨i,b1,p1,A1,hb1,ho1,hp1,hA1,hblk⟩:=hown
   obtain ⟨id0,b0,hk0,hb0,rfl⟩:=subHeap_get hb1
   have hid0:id0 ∈ R:=List.mem_of_getElem? hk0
   have hne:id ≠ id0:=fun e=>hni (e ▸ hid0)
   have hm0:=hRm id0 hid0
   have hp0:m[id0]?=some p1:=by
    have:=subPl_get (m:=m) hk0 (List.getElem?_eq_getElem hm0)
    rw [this] at hp1
    cases hp1
    exact List.getElem?_eq_getElem hm0
   by_cases hbo:b.own=true
   ·exact H.apart id id0 b b0 p p1 A A1 hne hb hb0 hbo ho1 hp hp0 hA hA1 hblk.symm
   ·have hbf:b.own=false:=by simpa using hbo
    have hn:0<b.c.n:=by rcases hor with h0|h0;exact h0;exact absurd h0 hbo
    have h1:=(H.blk id b p hb hp).came hbf A hA hn
    have h2:=(((H.blk id0 b0 p1 hb0 hp0).own ho1).2 A1 hA1).2.2.1
    omega
  have pl1:∀ {id:Nat}{p:Pl},id<h.length->(m++m1.drop R.length)[id]?=some p->m[id]?=some p:=by
   intro id p hl hp
   rwa [List.getElem?_append_left (by rw [H.len];exact hl)] at hp
  have pl2:∀ {k id:Nat}{p:Pl},k<m1.length->backIn R h.length k=some id->(m++m1.drop R.length)[id]?=some p->m1[k]?=some p:=by
   intro k id p hk hbk hp
   have:=hback k id hbk _ (List.getElem?_eq_getElem hk)
   rw [this] at hp
   cases hp
   exact List.getElem?_eq_getElem hk
  have hslen:=hst.hr.len
  refine ⟨Ext.app _ _,{ len:=by simp only [List.length_append,List.length_drop,mergeIn,List.length_map,List.length_range];rw [hslen,H.len],blk:=?_,apart:=?_ },⟨hst.fr.os,hst.fr.tape,hst.fr.output,hst.fr.size,fun k hk hX=>hst.fr.blk k hk fun ho=>hX (hownsub k ho)⟩,?_⟩
  ·intro id b p hb hp
   rcases merge_get hd hRb hb with ⟨hni,hl,hb⟩ | ⟨k,b1,hk,rfl,hbk,_⟩
   ·have hp':=pl1 hl hp
    exact ((H.blk id b p hb hp').keep fun A hA hlt hor=>hst.fr.blk _ hlt (hapartBlk hni hb hp' hA hor)).ext (Ext.app _ _)
   ·have hk1:k<m1.length:=by rw [hslen];exact (List.getElem?_eq_some_iff.1 hk).1
    exact (hst.hr.blk k b1 p hk (pl2 hk1 hbk hp)).ren hback
  ·intro id id' b b' p p' A A' hne hb hb' ho ho' hp hp' hA hA'
   have mixed:∀ {id:Nat}{b:ABlk}{p:Pl}{A:Addr}{k:Nat}{b1:ABlk}{p1:Pl}{A1:Addr},id ∉ R->id<h.length->h[id]?=some (some b)->b.own=true->m[id]?=some p->p.A=some A →
     hs[k]?=some (some b1)->b1.own=true->m1[k]?=some p1->p1.A=some A1->A.block ≠ A1.block:=by
    intro id b p A k b1 p1 A1 hni hl hb ho hp hA hk ho1 hp1 hA1 heq
    rcases hst.own A1.block ⟨k,b1,p1,A1,hk,ho1,hp1,hA1,rfl⟩ with hown|hge
    ·rw [<-heq] at hown
     exact hapartBlk hni hb hp hA (.inr ho) hown
    ·obtain ⟨_,_,_,cs0,hc0,_⟩:=((H.blk id b p hb hp).own ho).2 A hA
     have:=(Array.getElem?_eq_some_iff.1 hc0).1
     omega
   rcases merge_get hd hRb hb with ⟨hni,hl,hb⟩ | ⟨k,b1,hk,rfl,hbk,_⟩ <;> rcases merge_get hd hRb hb' with ⟨hni',hl',hb'⟩ | ⟨k',b1',hk',rfl,hbk',_⟩
   ·exact H.apart id id' b b' p p' A A' hne hb hb' ho ho' (pl1 hl hp) (pl1 hl' hp') hA hA'
   ·have hk1:k'<m1.length:=by rw [hslen];exact (List.getElem?_eq_some_iff.1 hk').1
    exact mixed hni hl hb ho (pl1 hl hp) hA hk' ho' (pl2 hk1 hbk' hp') hA'
   ·have hk1:k<m1.length:=by rw [hslen];exact (List.getElem?_eq_some_iff.1 hk).1
    exact fun e=>mixed hni' hl' hb' ho' (pl1 hl' hp') hA' hk ho (pl2 hk1 hbk hp) hA e.symm
   ·have hk1:k<m1.length:=by rw [hslen];exact (List.getElem?_eq_some_iff.1 hk).1
    have hk1':k'<m1.length:=by rw [hslen];exact (List.getElem?_eq_some_iff.1 hk').1
    refine hst.hr.apart k k' b1 b1' p p' A A' ?_ hk hk' ho ho' (pl2 hk1 hbk hp) (pl2 hk1' hbk' hp') hA hA'
    intro e
    subst e
    rw [hbk] at hbk'
    cases hbk'
    exact hne rfl
  ·intro q hq
   obtain ⟨id,b,p,A,hb,ho,hp,hA,rfl⟩:=hq
   rcases merge_get hd hRb hb with ⟨hni,hl,hb⟩ | ⟨k,b1,hk,rfl,hbk,_⟩
   ·exact .inl ⟨id,b,p,A,hb,ho,pl1 hl hp,hA,rfl⟩
   ·have hk1:k<m1.length:=by rw [hslen];exact (List.getElem?_eq_some_iff.1 hk).1
    rcases hst.own A.block ⟨k,b1,p,A,hk,ho,pl2 hk1 hbk hp,hA,rfl⟩ with hown|hge
    ·exact .inl (hownsub _ hown)
    ·exact .inr hge
end
end
section
open Go Go.RowKit
structure XOk (G:Ctx2):Prop where
 g:GOk G.toCtx
 f:FOk G.toCtx
 mixed:G.P.follows .mixedOrders=true
 σ:∀ k F,G.σ k=some F->SpecOk G.P k F/\∃ fn,G.P.funcs[k]?=some fn/\(fn.name == "runtime.NumGoroutine")=false/\fn.body.isNone=false
def SlOk (m:List Pl) (sl:List AV) (tmps:Array Value):Prop:=sl.length=tmps.size/\∀ (t:Nat) v,sl[t]?=some v->∃ x,tmps[t]?=some x/\VR m v x
section
variable {G:Ctx2}{o:Oper}{S S':St}{m m0:List Pl}{h h0:AHeap}{w w0:World}{B:Nat}{a:Act}{v:AV}
theorem SlOk.getD {sl:List AV}{tmps:Array Value}(hs:SlOk m sl tmps) (t:Nat):VR m (sl.getD t (.c .any)) (tmps.getD t undef):=by
 rw [List.getD_eq_getElem?_getD]
 cases e:sl[t]? with
 | none=>simp [VR,CR]
 | some v=>
  obtain ⟨x,hx,hr⟩:=hs.2 t v e
  have:tmps.getD t undef=x:=by
   simp [Array.getD_eq_getD_getElem?,hx]
  rw [this]
  exact hr
theorem SlOk.ops (hs:SlOk m S.sl a.tmps):OpsOk m (evs S.sl) a.eval:=fun x=>by
 cases x with
 | tmp t=>exact hs.getD t
 | const v=>exact VR_ofConst m v
 | global g=>exact rfl
 | func f=>exact rfl
theorem SlOk.ext {m':List Pl}{sl:List AV}{tmps:Array Value}(hs:SlOk m sl tmps) (he:Ext m m'):SlOk m' sl tmps:=
 ⟨hs.1,fun t v ht=>let ⟨x,hx,hr⟩:=hs.2 t v ht;⟨x,hx,VR.ext he hr⟩⟩
theorem SlOk.put {sl:List AV}{x:Value}(hs:SlOk m sl a.tmps) (dst:Option Tmp) (hr:VR m v x):SlOk m (putA sl dst v) (a.put dst x).tmps:=by
 cases dst with
 | none=>exact hs
 | some d=>
  refine ⟨by simp [putA,Act.put,hs.1],fun t u ht=>?_⟩
  simp only [putA] at ht
  simp only [Act.put]
  by_cases e:t=d
  ·subst e
   have hlt:t<sl.length:=by simpa using (List.getElem?_eq_some_iff.1 ht).1
   rw [List.getElem?_set_self hlt] at ht
   cases ht
   exact ⟨x,by rw [Array.getElem?_setIfInBounds];simp [<-hs.1,hlt],hr⟩
  ·rw [List.getElem?_set_ne (fun e'=>e e'.symm)] at ht
   obtain ⟨y,hy,hry⟩:=hs.2 t u ht
   exact ⟨y,by rw [Array.getElem?_setIfInBounds_ne (fun e'=>e e'.symm)];exact hy,hry⟩
structure RI (B:Nat) (m0:List Pl) (h0:AHeap) (w0:World) (S:St) (a:Act) (w:World):Prop where
 hB:B<=w0.heap.size
 ex:∃ m,Step B m0 h0 w0 m S.h w/\SlOk m S.sl a.tmps
 def_:a.defers=[]
theorem put_defers (a:Act) (d:Option Tmp) (x:Value):(a.put d x).defers=a.defers:=by cases d <;> rfl
def OpOk (P:Program) (B:Nat) (m:List Pl) (h:AHeap) (w:World) (a:Act) (o:Oper) (v:AV) (h':AHeap):Prop:=
 ∀ (K:Act->World->Prop) (Q:Exit->Act->World->Prop),(∀ m' x w',Step B m h w m' h' w'->VR m' v x->K (a.put o.dst x) w')->o.wp P a w K Q
theorem OpOk.of_h {h':AHeap}(hh:HOk G.P B m h w a.eval o v h'):OpOk G.P B m h w a o v h':=by
 obtain ⟨x,w',m',hr,hst,hv⟩:=hh
 intro K Q hK
 unfold Oper.wp
 rcases hr with hr | ⟨hr,rfl⟩
 ·rw [hr];exact hK m' x w' hst hv
 ·rw [hr];exact hK m' _ w' hst hv
theorem funcOf_some {u:AV}{y:Value}{k:Nat}(h:funcOf u=some k) (hv:VR m u y):y=.func (.func k) #[] #[]:=by
 unfold funcOf at h
 split at h
 ·rename_i k' f c
  split at h
  ·rename_i hf hc
   simp only [Option.some.injEq] at h
   subst h
   have hf':f=#[]:=by apply Array.ext';simpa using hf
   have hc':c=#[]:=by apply Array.ext';simpa using hc
   subst hf';subst hc'
   exact hv
  ·cases h
 ·cases h
theorem heavy_ok (hG:XOk G) {ρ:Operand->AV}(hρ:OpsOk m ρ a.eval) (H:HR B m h w) (hB:B<=w.heap.size) {h':AHeap}(he:(aheavy G o ρ h).eval=some (v,h')):OpOk G.P B m h w a o v h':=by
 unfold aheavy at he
 split at he
 ·rename_i t ho
  split at he
  ·rename_i ti hti
   simp only [Tr.eval,Option.some.injEq,Prod.mk.injEq] at he
   obtain ⟨rfl,rfl⟩:=he
   exact .of_h (h_alloc hG.g H hB ho hti)
  ·cases he
 ·rename_i t x ho
  split at he
  ·rename_i ti hti
   split at he
   ·rename_i c hc
    simp only [Tr.eval,Option.some.injEq,Prod.mk.injEq] at he
    obtain ⟨rfl,rfl⟩:=he
    exact .of_h (h_box hG.g hρ H hB ho hc)
   ·cases he
  ·cases he
 ·rename_i t len ps ho
  split at he
  ·rename_i e _ _ _ _ _ _ ht
   split at he
   ·rename_i ti hti
    split at he
    ·rename_i l hl
     split at he
     ·rename_i hc
      simp only [Tr.eval,Option.some.injEq,Prod.mk.injEq] at he
      obtain ⟨rfl,rfl⟩:=he
      exact .of_h (h_buildSlice hG.g hρ H hB ho ht rfl hti hl hc.1 hc.2)
     ·cases he
    ·cases he
   ·cases he
  ·cases he
 ·rename_i t l c ho
  split at he
  ·rename_i e _ _ _ _ _ _ k1 n k2 n' ht hl hc
   split at he
   ·rename_i ti hti
    split at he
    ·obtain ⟨h1,he⟩:=Tr.eval_need.1 he
     obtain ⟨h2,h3,hv⟩:=need2 he
     simp only [Tr.eval,Option.some.injEq,Prod.mk.injEq] at hv
     obtain ⟨rfl,rfl⟩:=hv
     have e1:n'=n:=by simpa using h2
     subst e1
     exact .of_h (h_makeSlice hG.g hρ H hB ho ht rfl hti hl hc (by simpa using h1) (by simpa using h3))
    ·cases he
   ·cases he
  ·cases he
 ·rename_i t p x ho
  rw [Tr.eval_bind] at he
  cases hst:(astore G.T h t (ρ p) (ρ x)).eval with
  | none=>simp [hst] at he
  | some h''=>
   rw [hst] at he
   simp only [Option.bind_some,Tr.eval,Option.some.injEq,Prod.mk.injEq] at he
   obtain ⟨rfl,rfl⟩:=he
   exact .of_h (h_store hG.g hρ H ho hst)
 ·rename_i args ts ho
  split at he
  ·rename_i s x t t2 ha hts
   exact .of_h (h_append hG.g hρ H hB ho ha hts he)
  ·cases he
 ·rename_i f args ts ho
  split at he
  ·rename_i k hf
   split at he
   ·rename_i F hF
    obtain ⟨hsp,fn,hfn,hname,hbody⟩:=hG.σ k F hF
    have hvs:VRs m (args.toList.map ρ) (args.map a.eval).toList:=by
     rw [Array.toList_map]
     generalize args.toList=l
     clear he ho
     induction l with
     | nil=>simp [VRs]
     | cons x l ih=>simp only [List.map_cons,VRs];exact ⟨hρ x,ih⟩
    have hc:=acall_ok hsp H hB hvs he
    have hfv:a.eval f=.func (.func k) #[] #[]:=funcOf_some hf (hρ f)
    intro K Q hK
    have hrun:(execOp a.eval o).run G.P w=.ok (.enter k (args.map a.eval)) w:=by
     simp only [execOp,ho,resolve,hfv,Deferred.ofValue,Sem.run_bind,Sem.run_pure,Result.andThen_ok,invoke,callFunc,Array.empty_append,Array.append_empty]
     have h1:¬ fn.name = "runtime.NumGoroutine" := by simpa using hname
     have h2:¬ fn.body=none:=by intro e;rw [e] at hbody;simp at hbody
     simp [Sem.run,program,hfn,h1,h2]
    unfold Oper.wp
    rw [hrun,Oper.upon_enter]
    refine hc.mono ?_
    rintro e w' ⟨m',x,rfl,hst,hv⟩
    exact hK m' x w' hst hv
   ·cases he
  ·cases he
 ·cases he
theorem stepOp_ok (hG:XOk G) (hI:RI B m0 h0 w0 S a w) (he:(stepOp G o S).eval=some S') (K:Act->World->Prop) (Q:Exit->Act->World->Prop) (hK:∀ a' w',RI B m0 h0 w0 S' a' w'->K a' w'):o.wp G.P a w K Q:=by
 obtain ⟨hB,⟨m,hst,hs⟩,hd⟩:=hI
 have hBw:B<=w.heap.size:=Nat.le_trans hB hst.fr.size
 rw [stepOp_def] at he
 split at he
 ·rw [Tr.eval_bind] at he
  cases hl:(alight G.toCtx o (evs S.sl) S.h).eval with
  | none=>simp [hl] at he
  | some v=>
   rw [hl] at he
   simp only [Option.bind_some,Tr.eval,Option.some.injEq] at he
   subst he
   obtain ⟨x,hr,hv⟩:=light_ok hG.g hG.f hs.ops hst.hr hl
   unfold Oper.wp
   rw [hr]
   exact hK _ _ ⟨hB,⟨m,hst,hs.put o.dst hv⟩,by rw [put_defers];exact hd⟩
 ·rw [Tr.eval_bind] at he
  cases hl:(aheavy G o (evs S.sl) S.h).eval with
  | none=>simp [hl] at he
  | some vh=>
   obtain ⟨v,h'⟩:=vh
   rw [hl] at he
   simp only [Option.bind_some,Tr.eval,Option.some.injEq] at he
   subst he
   refine heavy_ok hG hs.ops hst.hr hBw hl K Q fun m' x w' hst' hv=>hK _ _ ⟨hB,⟨m',hst.trans hst',(hs.ext hst'.ext).put o.dst hv⟩,by rw [put_defers];exact hd⟩
theorem RI.skip (hI:RI B m0 h0 w0 S a w) (o:Oper):RI B m0 h0 w0 (skipOp o S) (a.put o.dst undef) w:=by
 obtain ⟨hB,⟨m,hst,hs⟩,hd⟩:=hI
 exact ⟨hB,⟨m,hst,hs.put o.dst (rfl:CR m (.v undef) undef)⟩,by rw [put_defers];exact hd⟩
theorem RI.lit (hI:RI B m0 h0 w0 S a w) {t:Nat}{b:Bool}(ht:S.sl.getD t (.c .any)=.c (.v (.bool b))):RI B m0 h0 w0 (litB S t b) a w:=by
 obtain ⟨hB,⟨m,hst,hs⟩,hd⟩:=hI
 refine ⟨hB,⟨m,hst,?_⟩,hd⟩
 refine ⟨by simp [litB,hs.1],fun u v hu=>?_⟩
 simp only [litB] at hu
 by_cases e:u=t
 ·subst e
  have hlt:u<S.sl.length:=by simpa using (List.getElem?_eq_some_iff.1 hu).1
  rw [List.getElem?_set_self hlt] at hu
  cases hu
  have hg:S.sl[u]?=some (.c (.v (.bool b))):=by
   rw [List.getD_eq_getElem?_getD,List.getElem?_eq_getElem hlt] at ht
   simp only [Option.getD_some] at ht
   rw [List.getElem?_eq_getElem hlt,ht]
  exact hs.2 u _ hg
 ·rw [List.getElem?_set_ne (fun e'=>e e'.symm)] at hu
  exact hs.2 u v hu
theorem RI.slot (hI:RI B m0 h0 w0 S a w) (t:Nat):∃ m,VR m (S.sl.getD t (.c .any)) (a.tmps.getD t undef)/\(t<a.tmps.size\/S.sl.getD t (.c .any)=.c .any):=by
 obtain ⟨_,⟨m,_,hs⟩,_⟩:=hI
 refine ⟨m,hs.getD t,?_⟩
 rcases Nat.lt_or_ge t a.tmps.size with h|h
 ·exact .inl h
 ·right
  rw [List.getD_eq_getElem?_getD,List.getElem?_eq_none (by rw [hs.1];exact h)]
  rfl
theorem RI.bool (hI:RI B m0 h0 w0 S a w) {t:Nat}{b:Bool}(ht:S.sl.getD t (.c .any)=.c (.v (.bool b))):a.tmps[t]?=some (.bool b):=by
 obtain ⟨m,hv,hor⟩:=hI.slot t
 rw [ht] at hv hor
 rcases hor with hlt|h
 ·have hv':a.tmps.getD t undef=.bool b:=hv
  rw [Array.getD_eq_getD_getElem?,Array.getElem?_eq_getElem hlt] at hv'
  rw [Array.getElem?_eq_getElem hlt,<-hv']
  rfl
 ·cases h
theorem RI.tuple (hI:RI B m0 h0 w0 S a w) {t:Nat}{vs:Array Value}(ht:S.sl.getD t (.c .any)=.c (.v (.tuple vs))):a.tmps[t]?=some (.tuple vs):=by
 obtain ⟨m,hv,hor⟩:=hI.slot t
 rw [ht] at hv hor
 rcases hor with hlt|h
 ·have hv':a.tmps.getD t undef=.tuple vs:=hv
  rw [Array.getD_eq_getD_getElem?,Array.getElem?_eq_getElem hlt] at hv'
  rw [Array.getElem?_eq_getElem hlt,<-hv']
  rfl
 ·cases h
theorem guarded_ok (hG:XOk G) {ops:Array Oper}(hI:RI B m0 h0 w0 S a w) (he:(guarded G ops o S).eval=some S') (K:Act->World->Prop) (Q:Exit->Act->World->Prop) (hK:∀ a' w',RI B m0 h0 w0 S' a' w'->K a' w') :
  if Region.wanted o (yielded ops a.tmps) then o.wp G.P a w K Q else K (a.put o.dst undef) w:=by
 unfold guarded at he
 split at he
 ·rename_i hg
  rw [if_pos (by simp [Region.wanted,hg])]
  exact stepOp_ok hG hI he K Q hK
 ·rename_i g want hg
  split at he
  ·rename_i t ht
   split at he
   ·rename_i b hb
    have hy:yielded ops a.tmps g=some b:=by
     have:=hI.bool hb
     simp [yielded,ht,this]
    have hw:Region.wanted o (yielded ops a.tmps)=(b==want):=by
     simp only [Region.wanted,hg,hy]
     cases b <;> cases want <;> rfl
    rw [Tr.eval_ite] at he
    rw [hw]
    cases b with
    | true=>
     rw [if_pos rfl] at he
     cases want with
     | true=>
      simp only [if_true] at he
      exact stepOp_ok hG (hI.lit hb) he K Q hK
     | false=>
      simp only [Bool.false_eq_true,if_false,Tr.eval,Option.some.injEq] at he
      subst he
      exact hK _ _ ((hI.lit hb).skip o)
    | false=>
     rw [if_neg (by simp)] at he
     cases want with
     | true=>
      simp only [if_true,Tr.eval,Option.some.injEq] at he
      subst he
      exact hK _ _ ((hI.lit hb).skip o)
     | false=>
      simp only [Bool.false_eq_true,if_false] at he
      exact stepOp_ok hG (hI.lit hb) he K Q hK
   ·rename_i vs hb
    have hy:yielded ops a.tmps g=none:=by
     have:=hI.tuple hb
     simp [yielded,ht,this]
    have hw:Region.wanted o (yielded ops a.tmps)=false:=by
     simp only [Region.wanted,hg,hy]
     rfl
    rw [hw]
    simp only [Tr.eval,Option.some.injEq] at he
    subst he
    exact hK _ _ (hI.skip o)
   ·cases he
  ·cases he
theorem regSeq_ok (hG:XOk G) {ops:Array Oper}{Q:Exit->Act->World->Prop}:∀ (l:List Oper) (S:St) (a:Act) (w:World),RI B m0 h0 w0 S a w->(regSeq G ops l S).eval=some S'->(∀ a' w',RI B m0 h0 w0 S' a' w'->Q .normal a' w') →
  wpList G.P ops Q l a w
 | [],S,a,w,hI,he,hK=>by
  simp only [regSeq,Tr.eval,Option.some.injEq] at he
  subst he
  exact hK a w hI
 | o::l,S,a,w,hI,he,hK=>by
  simp only [regSeq,Tr.eval_bind] at he
  cases hg:(guarded G ops o S).eval with
  | none=>simp [hg] at he
  | some S1=>
   rw [hg] at he
   simp only [Option.bind_some] at he
   refine wpList_step fun K hKK=>guarded_ok hG hI hg K Q fun a' w' hI'=>hKK a' w' (regSeq_ok hG l S1 a' w' hI' he hK)
end
end
section
open Go Go.RowKit
theorem apure_congr {P:Program}{o:Oper}{ρ ρ2:Operand->AV}(hs:∀ cs b,o.op ≠ .select cs b) (h:∀ x ∈ o.op.operands,ρ x=ρ2 x):apure P o ρ=apure P o ρ2:=by
 unfold apure
 have h1:(o.op.operands.toList.all fun x=>(scal (ρ x)).isSome)=(o.op.operands.toList.all fun x=>(scal (ρ2 x)).isSome):=by
  rw [Bool.eq_iff_iff,List.all_eq_true,List.all_eq_true]
  constructor
  ·intro hh x hx;rw [<-h x (Array.mem_toList_iff.1 hx)];exact hh x hx
  ·intro hh x hx;rw [h x (Array.mem_toList_iff.1 hx)];exact hh x hx
 have h2:execOp (fun x=>(scal (ρ x)).getD undef) o=execOp (fun x=>(scal (ρ2 x)).getD undef) o:=execOp_congr o hs fun x hx=>by rw [h x hx]
 rw [h1,h2]
theorem aload_congr {T:List TI}{t:TypeId}{x:AV}{h h':AHeap}(hh:∀ id ∈ refAV x,h.at id=h'.at id):aload T h t x=aload T h' t x:=by
 cases x with
 | c c=>
  cases c with
  | ptr id i j=>
   have h0:aload0 T h t (.c (.ptr id i j))=aload0 T h' t (.c (.ptr id i j)):=by simp only [aload0,hh id (by simp [refAV,refAC])]
   have h1:tblIn T h t id=tblIn T h' t id:=by simp only [tblIn,hh id (by simp [refAV,refAC])]
   have h2:pickIn T h t id=pickIn T h' t id:=by simp only [pickIn,hh id (by simp [refAV,refAC])]
   unfold aload
   cases j with
   | zero=>simp only [h0,h1,h2]
   | succ j=>exact h0
  | _=>simp [aload,aload0]
 | _=>simp [aload,aload0]
theorem shEq_cases {x y:Option ABlk}(h:shEq x y=true):(x=none/\y=none)\/∃ b b',x=some b/\y=some b'/\kindC b.c=kindC b'.c/\b.c.sz=b'.c.sz:=by
 cases x with
 | none=>cases y with
  | none=>exact .inl ⟨rfl,rfl⟩
  | some b=>cases h
 | some b=>cases y with
  | none=>cases h
  | some b'=>
   simp only [shEq,Bool.and_eq_true] at h
   exact .inr ⟨b,b',rfl,rfl,Nat.eq_of_beq_eq_true h.1,Nat.eq_of_beq_eq_true h.2⟩
theorem shEq_refl (x:Option ABlk):shEq x x=true:=by
 cases x with
 | none=>rfl
 | some b=>simp [shEq]
theorem alight_congr {G:Ctx}{o:Oper}{ρ ρ2:Operand->AV}{h h':AHeap}(hρ:∀ x ∈ o.op.operands,ρ x=ρ2 x) (hh:∀ id ∈ hardOf o ρ,h.at id=h'.at id) (hs:∀ id ∈ softOf o ρ,shEq (h.at id) (h'.at id)=true):alight G o ρ h=alight G o ρ2 h':=by
 obtain ⟨dst,op,type,pos,after,guard⟩:=o
 have hp:(∀ cs b,op ≠ .select cs b)->apure G.P ⟨dst,op,type,pos,after,guard⟩ ρ=apure G.P ⟨dst,op,type,pos,after,guard⟩ ρ2:=fun hs=>apure_congr hs hρ
 cases op with
 | move x=>simp only [alight,hρ x (by simp [Op.operands])]
 | assign x=>simp only [alight,hρ x (by simp [Op.operands])]
 | pick c a b=>simp only [alight,hρ a (by simp [Op.operands]),hρ b (by simp [Op.operands]),hρ c (by simp [Op.operands])]
 | load t a=>
  have ha:=hρ a (by simp [Op.operands])
  simp only [alight]
  rw [aload_congr (h':=h') (fun id hid=>hh id hid),ha]
 | nilCheck x=>simp only [alight,hρ x (by simp [Op.operands]),hp (by simp)]
 | fieldAddr s x k=>simp only [alight,hρ x (by simp [Op.operands])]
 | field s x k=>simp only [alight,hρ x (by simp [Op.operands])]
 | indexAddr t x ix=>
  have hx:=hρ x (by simp [Op.operands])
  have hix:=hρ ix (by simp [Op.operands])
  simp only [alight,<-hx,<-hix]
  have key:∀ id i n,ρ x=.c (.sl id i n)->shEq (h.at id) (h'.at id)=true:=fun id i n e=>hs id (by simp [softOf,e,refAV,refAC])
  have key2:∀ id i j,ρ x=.c (.ptr id i j)->shEq (h.at id) (h'.at id)=true:=fun id i n e=>hs id (by simp [softOf,e,refAV,refAC])
  split
  ·rename_i e _ _ _ _ _ _ id i n _ k _ hx' _
   rcases shEq_cases (key _ _ _ hx') with ⟨h1,h2⟩ | ⟨b,b',h1,h2,_,h4⟩
   ·rw [h1,h2]
   ·rw [h1,h2]
    cases lookT G.T e with
    | none=>rfl
    | some ti=>simp only [h4]
  ·rename_i mm e _ _ _ _ _ _ id i j _ k _ hx' _
   rcases shEq_cases (key2 _ _ _ hx') with ⟨h1,h2⟩ | ⟨b,b',h1,h2,h3,h4⟩
   ·rw [h1,h2]
   ·rw [h1,h2]
    obtain ⟨t1,o1,c1⟩:=b
    obtain ⟨t2,o2,c2⟩:=b'
    cases lookT G.T e with
    | none=>rfl
    | some ti=>
     simp only at h3 h4 ⊢
     cases c1 <;> cases c2 <;> simp only [kindC,Cont.sz] at h3 h4 <;> first|(exact absurd h3 (by decide))|rfl|(subst h4;rfl)
  ·rfl
 | index t x ix=>simp only [alight,hρ x (by simp [Op.operands]),hρ ix (by simp [Op.operands])]
 | slice t x lo hi mx=>
  have hx:=hρ x (by simp [Op.operands])
  have hlo:∀ y,lo=some y->ρ y=ρ2 y:=fun y hy=>hρ y (by subst hy;simp [Op.operands])
  have hhi:∀ y,hi=some y->ρ y=ρ2 y:=fun y hy=>hρ y (by subst hy;simp [Op.operands])
  have key:∀ id i n,ρ x=.c (.sl id i n)->shEq (h.at id) (h'.at id)=true:=fun id i n e=>hs id (by simp [softOf,e,refAV,refAC])
  cases lo with
  | none=>
   cases hi with
   | none=>
    simp only [alight,<-hx]
    split
    ·rfl
    ·rename_i e _ _ _ _ _ _ id i n _ hx'
     rcases shEq_cases (key _ _ _ hx') with ⟨h1,h2⟩ | ⟨b,b',h1,h2,_,h4⟩
     ·rw [h1,h2]
     ·rw [h1,h2]
      cases lookT G.T e with
      | none=>rfl
      | some ti=>simp only [h4]
    ·rfl
   | some z=>
    simp only [alight,<-hx,<-hhi z rfl]
    split
    ·rfl
    ·rename_i e _ _ _ _ _ _ id i n _ hx'
     rcases shEq_cases (key _ _ _ hx') with ⟨h1,h2⟩ | ⟨b,b',h1,h2,_,h4⟩
     ·rw [h1,h2]
     ·rw [h1,h2]
      cases lookT G.T e with
      | none=>rfl
      | some ti=>simp only [h4]
    ·rfl
  | some y=>
   cases hi with
   | none=>
    simp only [alight,<-hx,<-hlo y rfl]
    split
    ·rfl
    ·rename_i e _ _ _ _ _ _ id i n _ hx'
     rcases shEq_cases (key _ _ _ hx') with ⟨h1,h2⟩ | ⟨b,b',h1,h2,_,h4⟩
     ·rw [h1,h2]
     ·rw [h1,h2]
      cases lookT G.T e with
      | none=>rfl
      | some ti=>simp only [h4]
    ·rfl
   | some z=>
    simp only [alight,<-hx,<-hhi z rfl,<-hlo y rfl]
    split
    ·rfl
    ·rename_i e _ _ _ _ _ _ id i n _ hx'
     rcases shEq_cases (key _ _ _ hx') with ⟨h1,h2⟩ | ⟨b,b',h1,h2,_,h4⟩
     ·rw [h1,h2]
     ·rw [h1,h2]
      cases lookT G.T e with
      | none=>rfl
      | some ti=>simp only [h4]
    ·rfl
 | extract x k=>simp only [alight,hρ x (by simp [Op.operands])]
 | build t ps=>
  have:(ps.toList.map fun p=>(p.1,ρ p.2))=(ps.toList.map fun p=>(p.1,ρ2 p.2)):=List.map_congr_left fun p hp'=>by
   rw [hρ p.2 (by simp only [Op.operands,List.mem_toArray,List.mem_map];exact ⟨p,hp',rfl⟩)]
  simp only [alight,this]
 | binOp op t x y t'=>simp only [alight,hρ x (by simp [Op.operands]),hρ y (by simp [Op.operands]),hp (by simp)]
 | unOp op t x=>simp only [alight,hp (by simp)]
 | convert s d x=>
  have hx:=hρ x (by simp [Op.operands])
  simp only [alight,<-hx,hp (by simp)]
  split
  ·rename_i id i n hx'
   rw [hh id (by simp [hardOf,hx',refAV,refAC])]
  ·rfl
 | makeInterface t x=>simp only [alight,hp (by simp)]
 | call c=>
  obtain ⟨callee,args,ts⟩:=c
  cases callee with
  | value f=>rfl
  | invoke r m=>rfl
  | builtin b=>
   cases b with
   | len=>
    have:∀ x,args.toList=[x]->ρ x=ρ2 x:=fun x e=>hρ x (by
     have hx:x ∈ args:=by rw [<-Array.mem_toList_iff,e];simp
     simp [Op.operands,Call.operands,hx])
    simp only [alight]
    split
    ·rename_i x t e _;rw [this x e,hp (by simp)]
    ·rfl
   | max=>simp only [alight,hp (by simp)]
   | min=>simp only [alight,hp (by simp)]
   | _=>rfl
 | _=>rfl
theorem aheavy_congr {G:Ctx2}{o:Oper}{ρ ρ2:Operand->AV}{h:AHeap}(hρ:∀ x ∈ o.op.operands,ρ x=ρ2 x):aheavy G o ρ h=aheavy G o ρ2 h:=by
 obtain ⟨dst,op,type,pos,after,guard⟩:=o
 cases op with
 | box t x=>simp only [aheavy,hρ x (by simp [Op.operands])]
 | buildSlice t len ps=>
  have:(ps.toList.map fun p=>(p.1,ρ p.2))=(ps.toList.map fun p=>(p.1,ρ2 p.2)):=List.map_congr_left fun p hp'=>by
   rw [hρ p.2 (by simp only [Op.operands,List.mem_toArray,List.mem_map];exact ⟨p,hp',rfl⟩)]
  simp only [aheavy,this]
 | makeSlice t l c=>simp only [aheavy,hρ l (by simp [Op.operands]),hρ c (by simp [Op.operands])]
 | store t p x=>simp only [aheavy,hρ p (by simp [Op.operands]),hρ x (by simp [Op.operands])]
 | call c=>
  obtain ⟨callee,args,ts⟩:=c
  cases callee with
  | value f=>
   have:args.toList.map ρ=args.toList.map ρ2:=List.map_congr_left fun x hx=>hρ x (by
    have hx':x ∈ args:=Array.mem_toList_iff.1 hx
    simp [Op.operands,Call.operands,hx'])
   simp only [aheavy,hρ f (by simp [Op.operands,Call.operands]),this]
  | invoke r m=>rfl
  | builtin b=>
   cases b with
   | append=>
    simp only [aheavy]
    split
    ·rename_i s x t t2 e _
     have hs:s ∈ args:=by rw [<-Array.mem_toList_iff,e];simp
     have hx:x ∈ args:=by rw [<-Array.mem_toList_iff,e];simp
     rw [hρ s (by simp [Op.operands,Call.operands,hs]),hρ x (by simp [Op.operands,Call.operands,hx])]
    ·rfl
   | _=>rfl
 | _=>rfl
theorem aheavy_keeps {G:Ctx2}{o:Oper}{ρ:Operand->AV}{h h':AHeap}{v:AV}(he:(aheavy G o ρ h).eval=some (v,h')):h.length<=h'.length/\∀ id,id<h.length->id ∉ writesOf o ρ h->h'[id]?=h[id]?:=by
 have snoc:∀ {x:Option ABlk},h.length<=(h++[x]).length/\∀ id,id<h.length->(h++[x])[id]?=h[id]?:=fun {x}=>⟨by simp,fun id hid=>List.getElem?_append_left hid⟩
 unfold aheavy at he
 split at he
 ·split at he
  ·simp only [Tr.eval,Option.some.injEq,Prod.mk.injEq] at he
   obtain ⟨_,rfl⟩:=he
   exact ⟨snoc.1,fun id hid _=>snoc.2 id hid⟩
  ·cases he
 ·split at he
  ·split at he
   ·simp only [Tr.eval,Option.some.injEq,Prod.mk.injEq] at he
    obtain ⟨_,rfl⟩:=he
    exact ⟨snoc.1,fun id hid _=>snoc.2 id hid⟩
   ·cases he
  ·cases he
 ·split at he
  ·split at he
   ·split at he
    ·split at he
     ·simp only [Tr.eval,Option.some.injEq,Prod.mk.injEq] at he
      obtain ⟨_,rfl⟩:=he
      exact ⟨snoc.1,fun id hid _=>snoc.2 id hid⟩
     ·cases he
    ·cases he
   ·cases he
  ·cases he
 ·split at he
  ·split at he
   ·split at he
    ·obtain ⟨_,he⟩:=Tr.eval_need.1 he
     obtain ⟨_,_,hv⟩:=need2 he
     simp only [Tr.eval,Option.some.injEq,Prod.mk.injEq] at hv
     obtain ⟨_,rfl⟩:=hv
     exact ⟨snoc.1,fun id hid _=>snoc.2 id hid⟩
    ·cases he
   ·cases he
  ·cases he
 ·rename_i t p x ho
  rw [Tr.eval_bind] at he
  cases hst:(astore G.T h t (ρ p) (ρ x)).eval with
  | none=>simp [hst] at he
  | some h''=>
   rw [hst] at he
   simp only [Option.bind_some,Tr.eval,Option.some.injEq,Prod.mk.injEq] at he
   obtain ⟨_,rfl⟩:=he
   have hset:∃ id b,id ∈ refAV (ρ p)/\h''=setAt h id b:=by
    unfold astore at hst
    split at hst
    ·rename_i id i j ti hp _
     have hm:id ∈ refAV (ρ p):=by simp [hp,refAV,refAC]
     split at hst
     ·split at hst
      ·split at hst
       ·simp only [Tr.eval,Option.some.injEq] at hst;exact ⟨id,_,hm,hst.symm⟩
       ·cases hst
      ·split at hst
       ·split at hst
        ·simp only [Tr.eval,Option.some.injEq] at hst;exact ⟨id,_,hm,hst.symm⟩
        ·cases hst
       ·cases hst
      ·split at hst
       ·split at hst
        ·obtain ⟨_,hst⟩:=Tr.eval_need.1 hst
         simp only [Tr.eval,Option.some.injEq] at hst;exact ⟨id,_,hm,hst.symm⟩
        ·cases hst
       ·cases hst
      ·split at hst
       ·split at hst
        ·obtain ⟨_,hst⟩:=Tr.eval_need.1 hst
         simp only [Tr.eval,Option.some.injEq] at hst;exact ⟨id,_,hm,hst.symm⟩
        ·cases hst
       ·cases hst
     ·cases hst
    ·cases hst
   obtain ⟨id,b,hm,rfl⟩:=hset
   refine ⟨by simp [setAt],fun i hi hn=>?_⟩
   have hne:i ≠ id:=fun e=>hn (by rw [e];simpa [writesOf,ho] using hm)
   exact List.getElem?_set_ne (fun e=>hne e.symm)
 ·rename_i args ts ho
  split at he
  ·rename_i s x t t2 ha _
   unfold aappend at he
   split at he
   ·split at he
    ·split at he
     ·rename_i hk c nn i m cs hdst _
      split at he
      ·split at he
       ·obtain ⟨_,he⟩:=Tr.eval_need.1 he
        obtain ⟨_,_,hv⟩:=need2 he
        simp only [Tr.eval,Option.some.injEq,Prod.mk.injEq] at hv
        obtain ⟨_,rfl⟩:=hv
        have hd:hk=h\/∃ id,id ∈ refAV (ρ s)/\hk=h.set id none:=by
         unfold dstOf at hdst
         split at hdst
         ·simp only [Option.some.injEq,Prod.mk.injEq] at hdst;exact .inl hdst.1.symm
         ·rename_i id n hs
          split at hdst
          ·split at hdst
           ·simp only [Option.some.injEq,Prod.mk.injEq] at hdst
            exact .inr ⟨id,by simp [hs,refAV,refAC],hdst.1.symm⟩
           ·cases hdst
          ·cases hdst
         ·cases hdst
        rcases hd with rfl | ⟨id,hm,rfl⟩
        ·exact ⟨snoc.1,fun id hid _=>snoc.2 id hid⟩
        ·refine ⟨by simp,fun i hi hn=>?_⟩
         have hne:i ≠ id:=fun e=>hn (by rw [e];simp [writesOf,ho,ha,hm])
         rw [List.getElem?_append_left (by simpa using hi)]
         exact List.getElem?_set_ne (fun e=>hne e.symm)
       ·cases he
      ·cases he
     ·cases he
    ·cases he
   ·cases he
  ·cases he
 ·rename_i f args ts ho
  split at he
  ·split at he
   ·rename_i F _
    rw [acall_def] at he
    simp only [Tr.eval_bind] at he
    obtain ⟨l,hRe,hRd,hRb⟩:=closeOf_ok h 10000 (refAVs (args.toList.map ρ)) []
    generalize hR:closeOf h 10000 (refAVs (args.toList.map ρ)) []=R at he
    cases h1:(F (renAVs (idxIn R) (args.toList.map ρ)) (subHeap h R)).eval with
    | none=>rw [h1] at he;simp at he
    | some r=>
     rw [h1] at he
     simp only [Option.bind_some,Tr.eval,Option.some.injEq,Prod.mk.injEq] at he
     obtain ⟨_,rfl⟩:=he
     refine ⟨by simp [mergeIn],fun i hi hn=>?_⟩
     have hni:i ∉ R:=by rw [<-hR];simpa [writesOf,ho] using hn
     unfold mergeIn
     rw [List.getElem?_append_left (by simpa using hi),List.getElem?_map,List.getElem?_range hi]
     simp only [Option.map_some]
     rw [if_neg (by simpa using hni)]
     rw [List.getElem?_eq_getElem hi]
     rfl
   ·cases he
  ·cases he
 ·cases he
end
section
open Go Go.RowKit
def mark:Pl:=⟨none,1,0⟩
def ExtM (m m':List Pl):Prop:=m.length<=m'.length/\∀ (id:Nat) p,m[id]?=some p->p=mark\/m'[id]?=some p
theorem CR.extM {m m':List Pl}(h:ExtM m m') {c:AC}{y:Value}(hr:CR m c y):CR m' c y:=by
 cases c with
 | any=>trivial
 | v x=>exact hr
 | ptr id i j=>
  obtain ⟨p,A,hp,hA,rest⟩:=hr
  rcases h.2 _ _ hp with rfl|h1
  ·cases hA
  ·exact ⟨p,A,h1,hA,rest⟩
 | sl id i n=>
  obtain ⟨p,A',c',hp,hy,⟨hn,hnil⟩,hz,hpos⟩:=hr
  rcases h.2 _ _ hp with rfl|h1
  ·have hn0:n=0:=by
    rcases Nat.eq_zero_or_pos n with h0|h0
    ·exact h0
    ·obtain ⟨A,hA,_⟩:=hpos h0
     cases hA
   subst hn0
   have hi:i ≠ 0:=by
    intro e
    obtain ⟨h1,h2⟩:=hz e
    have h3:=hnil h1
    rw [h2] at h3
    cases h3
   have hlt:id<m'.length:=Nat.lt_of_lt_of_le (List.getElem?_eq_some_iff.1 hp).1 h.1
   exact ⟨m'[id],A',c',List.getElem?_eq_getElem hlt,hy,⟨hn,hnil⟩,fun e=>absurd e hi,fun h=>absurd h (Nat.lt_irrefl _)⟩
  ·exact ⟨p,A',c',h1,hy,⟨hn,hnil⟩,hz,hpos⟩
mutual
theorem VR.imp {m m':List Pl}(h:∀ c y,CR m c y->CR m' c y):∀ {v:AV}{y:Value},VR m v y->VR m' v y
 | .c x,y,hr=>by simp only [VR] at hr ⊢;exact h _ _ hr
 | .agg l,y,hr=>by simp only [VR] at hr ⊢;obtain ⟨cs,e,hF⟩:=hr;exact ⟨cs,e,hF.imp fun a b=>h a b⟩
 | .arr n f,y,hr=>by simp only [VR] at hr ⊢;exact hr
 | .tup l,y,hr=>by simp only [VR] at hr ⊢;obtain ⟨vs,e,hF⟩:=hr;exact ⟨vs,e,VRs.imp h hF⟩
theorem VRs.imp {m m':List Pl}(h:∀ c y,CR m c y->CR m' c y):∀ {l:List AV}{k:List Value},VRs m l k->VRs m' l k
 | [],[],_=>by simp [VRs]
 | [],_::_,hr=>by simp [VRs] at hr
 | _::_,[],hr=>by simp [VRs] at hr
 | x::l,y::k,hr=>by simp only [VRs] at hr ⊢;exact ⟨VR.imp h hr.1,VRs.imp h hr.2⟩
end
theorem BR.imp {B:Nat}{m m':List Pl}{b:ABlk}{p:Pl}{w:World}(hb:BR B m b p w) (he:∀ (i j:Nat) c x,i<b.c.n->(b.c.el i)[j]?=some c->CR m c x->CR m' c x):BR B m' b p w:=
 {sz:=hb.sz,len:=hb.len,cap:=hb.cap,
  cell:=fun i j c hi hc=>by
   obtain ⟨A,x,hA,hs,hx,hr,h1⟩:=hb.cell i j c hi hc
   exact ⟨A,x,hA,hs,hx,he i j c x hi hc hr,h1⟩
  own:=hb.own,came:=hb.came }
structure Nul (N:Nat->Prop) (h k:AHeap):Prop where
 len:k.length=h.length
 off:∀ id,N id->k[id]?=some none
 on:∀ id,¬ N id->k[id]?=h[id]?
section
variable {N:Nat->Prop}{h k h':AHeap}
theorem Nul.at_ (H:Nul N h k) {id:Nat}(hn:¬ N id):k.at id=h.at id:=by
 unfold AHeap.at
 rw [H.on id hn]
theorem Nul.lt (H:Nul N h k) {id:Nat}(hn:N id):id<h.length:=by
 rw [<-H.len]
 exact (List.getElem?_eq_some_iff.1 (H.off id hn)).1
theorem Nul.set (H:Nul N h k) {id:Nat}(hn:¬ N id) (b:Option ABlk):Nul N (h.set id b) (k.set id b):=by
 refine ⟨by simp [H.len],fun i hi=>?_,fun i hi=>?_⟩
 ·have hne:id ≠ i:=fun e=>hn (e ▸ hi)
  rw [List.getElem?_set_ne hne]
  exact H.off i hi
 ·by_cases e:id=i
  ·subst e
   simp [List.getElem?_set,H.len,H.on id hn]
  ·rw [List.getElem?_set_ne e,List.getElem?_set_ne e]
   exact H.on i hi
theorem Nul.app (H:Nul N h k) (l:AHeap):Nul N (h++l) (k++l):=by
 refine ⟨by simp [H.len],fun i hi=>?_,fun i hi=>?_⟩
 ·have hlt:i<k.length:=by rw [H.len];exact H.lt hi
  rw [List.getElem?_append_left hlt]
  exact H.off i hi
 ·rw [List.getElem?_append,List.getElem?_append,H.len,H.on i hi]
theorem astore_nul {T:List TI}{t:TypeId}{p x:AV}(H:Nul N h k) (hr:∀ id ∈ refAV p,¬ N id) (he:(astore T h t p x).eval=some h'):∃ k',(astore T k t p x).eval=some k'/\Nul N h' k':=by
 unfold astore at he
 split at he
 ·rename_i id i j ti hti
  have hn:¬ N id:=hr id (by simp [refAV,refAC])
  have hat:=H.at_ hn
  unfold astore
  simp only [hti]
  rw [hat]
  split at he
  ·rename_i bt c hat2
   split at he
   ·split at he
    ·rename_i hc
     simp only [Tr.eval,Option.some.injEq] at he
     subst he
     rw [if_pos hc]
     exact ⟨_,rfl,H.set hn _⟩
    ·cases he
   ·split at he
    ·rename_i cs hcs
     split at he
     ·rename_i hc
      simp only [Tr.eval,Option.some.injEq] at he
      subst he
      rw [if_pos hc]
      exact ⟨_,rfl,H.set hn _⟩
     ·cases he
    ·cases he
   ·rename_i sz n f hnot
    split at he
    ·rename_i cs hcs
     split at he
     ·rename_i hc
      obtain ⟨h1,he⟩:=Tr.eval_need.1 he
      simp only [Tr.eval,Option.some.injEq] at he
      subst he
      rw [if_pos hc]
      exact ⟨_,Tr.eval_need.2 ⟨h1,rfl⟩,H.set hn _⟩
     ·cases he
    ·cases he
   ·split at he
    ·rename_i cs hcs
     split at he
     ·rename_i hc
      obtain ⟨h1,he⟩:=Tr.eval_need.1 he
      simp only [Tr.eval,Option.some.injEq] at he
      subst he
      rw [if_pos hc]
      exact ⟨_,Tr.eval_need.2 ⟨h1,rfl⟩,H.set hn _⟩
     ·cases he
    ·cases he
  ·cases he
 ·cases he
theorem srcOf_nul {ti:TI}{x:AV}(H:Nul N h k) (hr:∀ id ∈ refAV x,¬ N id):srcOf k ti x=srcOf h ti x:=by
 unfold srcOf
 split
 ·rename_i id i n
  rw [H.at_ (hr id (by simp [refAV,refAC]))]
 ·rfl
 ·rfl
 ·rfl
theorem dstOf_nul {ti:TI}{x:AV}{c:Cont}{nn:Nat}(H:Nul N h k) (hr:∀ id ∈ refAV x,¬ N id) (he:dstOf h ti x=some (h',c,nn)):∃ k',dstOf k ti x=some (k',c,nn)/\Nul N h' k':=by
 unfold dstOf at he
 split at he
 ·simp only [Option.some.injEq,Prod.mk.injEq] at he
  obtain ⟨rfl,rfl,rfl⟩:=he
  exact ⟨k,rfl,H⟩
 ·rename_i id n
  have hn:¬ N id:=hr id (by simp [refAV,refAC])
  unfold dstOf
  simp only
  rw [H.at_ hn]
  split at he
  ·split at he
   ·rename_i hc
    simp only [Option.some.injEq,Prod.mk.injEq] at he
    obtain ⟨rfl,rfl,rfl⟩:=he
    rw [if_pos hc]
    exact ⟨_,rfl,H.set hn _⟩
   ·cases he
  ·cases he
 ·cases he
theorem aappend_nul {T:List TI}{t t2:TypeId}{s x:AV}{v:AV}(H:Nul N h k) (hs:∀ id ∈ refAV s,¬ N id) (hx:∀ id ∈ refAV x,¬ N id) (he:(aappend T h t t2 s x).eval=some (v,h')) :
  ∃ k',(aappend T k t t2 s x).eval=some (v,k')/\Nul N h' k':=by
 unfold aappend at he ⊢
 split at he
 ·split at he
  ·split at he
   ·rename_i hk c nn i mm cs hdst hsrc
    obtain ⟨k1,hd,hN⟩:=dstOf_nul H hs hdst
    have hsr:=hsrc
    rw [<-srcOf_nul H hx] at hsr
    simp only [hd,hsr]
    split at he
    ·rename_i hsz
     rw [if_pos hsz]
     split at he
     ·rename_i c' hj
      obtain ⟨h1,he⟩:=Tr.eval_need.1 he
      obtain ⟨h2,h3,hv⟩:=need2 he
      simp only [Tr.eval,Option.some.injEq,Prod.mk.injEq] at hv
      obtain ⟨rfl,rfl⟩:=hv
      refine ⟨k1++[some ⟨_,true,c'⟩],?_,hN.app _⟩
      rw [H.len]
      exact Tr.eval_need.2 ⟨h1,Tr.eval_need.2 ⟨h2,Tr.eval_need.2 ⟨h3,rfl⟩⟩⟩
     ·cases he
    ·cases he
   ·cases he
  ·cases he
 ·cases he
theorem closeOf_nul (H:Nul N h k):∀ (f:Nat) (todo acc:List Nat),(∀ id ∈ closeOf h f todo acc,¬ N id)->closeOf k f todo acc=closeOf h f todo acc
 | 0,_,_,_=>rfl
 | _+1,[],_,_=>rfl
 | f+1,id::todo,acc,hn=>by
  simp only [closeOf] at hn ⊢
  rw [H.len]
  split at hn
  ·rename_i hc
   rw [if_pos hc,if_pos hc]
   exact closeOf_nul H f todo acc hn
  ·rename_i hc
   rw [if_neg hc,if_neg hc]
   have hid:¬ N id:=by
    obtain ⟨l,e,_,_⟩:=closeOf_ok h f (todo++refB (h[id]?).join) (acc++[id])
    refine hn id ?_
    rw [e]
    simp
   rw [H.on id hid]
   exact closeOf_nul H f _ _ hn
theorem mergeIn_nul {R:List Nat}{hs:AHeap}(H:Nul N h k) (hR:∀ id ∈ R,¬ N id):Nul N (mergeIn h R hs) (mergeIn k R hs):=by
 unfold mergeIn
 rw [H.len]
 refine Nul.app ⟨by simp,fun i hi=>?_,fun i hi=>?_⟩ _
 ·have hlt:=H.lt hi
  rw [List.getElem?_map,List.getElem?_range hlt,Option.map_some]
  have hc:R.contains i=false:=by
   cases hc:R.contains i with
   | false=>rfl
   | true=>exact absurd hi (hR i (by simpa using hc))
  rw [if_neg (by rw [hc];simp),H.off i hi]
  rfl
 ·rw [List.getElem?_map,List.getElem?_map]
  rcases Nat.lt_or_ge i h.length with hlt|hge
  ·rw [List.getElem?_range hlt]
   simp only [Option.map_some]
   rw [H.on i hi]
  ·rw [List.getElem?_eq_none (by simpa using hge)]
   rfl
theorem acall_nul {F:Spec}{args:List AV}{v:AV}(H:Nul N h k) (hr:∀ id ∈ closeOf h 10000 (refAVs args) [],¬ N id) (he:(acall F args h).eval=some (v,h')):∃ k',(acall F args k).eval=some (v,k')/\Nul N h' k':=by
 have hc:=closeOf_nul H 10000 (refAVs args) [] hr
 rw [acall_def] at he ⊢
 simp only [hc]
 generalize closeOf h 10000 (refAVs args) []=R at he hr
 have hsub:subHeap k R=subHeap h R:=List.map_congr_left fun id hid=>by rw [H.on id (hr id hid)]
 rw [hsub]
 simp only [Tr.eval_bind] at he ⊢
 cases hs0:(F (renAVs (idxIn R) args) (subHeap h R)).eval with
 | none=>rw [hs0] at he;simp at he
 | some rh=>
  rw [hs0] at he
  simp only [Option.bind_some,Tr.eval,Option.some.injEq,Prod.mk.injEq] at he ⊢
  obtain ⟨rfl,rfl⟩:=he
  exact ⟨_,⟨by rw [H.len],rfl⟩,mergeIn_nul H hr⟩
theorem refAVs_mem {x:AV}:∀ {l:List AV},x ∈ l->∀ id ∈ refAV x,id ∈ refAVs l
 | [],h,_,_=>by cases h
 | y::l,h,id,hid=>by
  simp only [refAVs,List.mem_append]
  rcases List.mem_cons.1 h with rfl|h
  ·exact .inl hid
  ·exact .inr (refAVs_mem h id hid)
theorem aheavy_nul {G:Ctx2}{o:Oper}{ρ:Operand->AV}{v:AV}(H:Nul N h k) (hq:isQuiet o.op=false) (hr:∀ id ∈ reachOf o ρ h,¬ N id) (he:(aheavy G o ρ h).eval=some (v,h')):∃ k',(aheavy G o ρ k).eval=some (v,k')/\Nul N h' k':=by
 unfold aheavy at he ⊢
 split at he
 ·rename_i t ho;simp [ho,isQuiet] at hq
 ·rename_i t x ho;simp [ho,isQuiet] at hq
 ·rename_i t l ps ho;simp [ho,isQuiet] at hq
 ·rename_i t l c ho;simp [ho,isQuiet] at hq
 ·rename_i t p x ho
  rw [Tr.eval_bind] at he ⊢
  cases hst:(astore G.T h t (ρ p) (ρ x)).eval with
  | none=>simp [hst] at he
  | some h''=>
   rw [hst] at he
   simp only [Option.bind_some,Tr.eval,Option.some.injEq,Prod.mk.injEq] at he
   obtain ⟨rfl,rfl⟩:=he
   obtain ⟨k',h1,h2⟩:=astore_nul H (fun id hid=>hr id (by simpa [reachOf,ho] using hid)) hst
   rw [h1]
   exact ⟨k',rfl,h2⟩
 ·rename_i args ts ho
  split at he
  ·rename_i s x t t2 ha hts
   refine aappend_nul H (fun id hid=>hr id ?_) (fun id hid=>hr id ?_) he
   ·simp only [reachOf,ho];exact refAVs_mem (x:=ρ s) (by rw [ha];simp) id hid
   ·simp only [reachOf,ho];exact refAVs_mem (x:=ρ x) (by rw [ha];simp) id hid
  ·cases he
 ·rename_i f args ts ho
  split at he
  ·rename_i kk hf
   split at he
   ·rename_i F hF
    exact acall_nul H (fun id hid=>hr id (by simpa [reachOf,ho] using hid)) he
   ·cases he
  ·cases he
 ·cases he
end
end
section
open Go Go.RowKit
theorem CR.refs {m:List Pl}{c:AC}{y:Value}(h:CR m c y):∀ id ∈ refAC c,id<m.length:=by
 intro id hid
 cases c with
 | any=>simp [refAC] at hid
 | v x=>simp [refAC] at hid
 | ptr i a b=>
  simp only [refAC,List.mem_singleton] at hid
  subst hid
  obtain ⟨p,_,hp,_⟩:=h
  exact (List.getElem?_eq_some_iff.1 hp).1
 | sl i a b=>
  simp only [refAC,List.mem_singleton] at hid
  subst hid
  obtain ⟨p,_,_,hp,_⟩:=h
  exact (List.getElem?_eq_some_iff.1 hp).1
mutual
theorem VR.refs {m:List Pl}:∀ {v:AV}{y:Value},VR m v y->∀ id ∈ refAV v,id<m.length
 | .c x,y,h,id,hid=>CR.refs (by simpa only [VR] using h) id (by simpa [refAV] using hid)
 | .agg l,y,h,id,hid=>by
  simp only [VR] at h
  obtain ⟨cs,_,hF⟩:=h
  simp only [refAV,List.mem_flatMap] at hid
  obtain ⟨c,hc,hid⟩:=hid
  obtain ⟨q,hq⟩:=List.getElem?_of_mem hc
  obtain ⟨z,_,hr⟩:=hF.get q c hq
  exact hr.refs id hid
 | .arr n f,y,h,id,hid=>by simp [refAV] at hid
 | .tup l,y,h,id,hid=>by
  simp only [VR] at h
  obtain ⟨vs,_,hF⟩:=h
  exact VRs.refs hF id (by simpa [refAV] using hid)
theorem VRs.refs {m:List Pl}:∀ {l:List AV}{k:List Value},VRs m l k->∀ id ∈ refAVs l,id<m.length
 | [],_,_,id,hid=>by simp [refAVs] at hid
 | x::l,[],h,_,_=>by simp [VRs] at h
 | x::l,y::k,h,id,hid=>by
  simp only [VRs] at h
  simp only [refAVs,List.mem_append] at hid
  rcases hid with hid|hid
  ·exact VR.refs h.1 id hid
  ·exact VRs.refs h.2 id hid
end
inductive Mk where
 | ptr
 | sl (n:Nat)
def Mk.av (id:Nat):Mk->AV
 | .ptr=>.c (.ptr id 0 0)
 | .sl n=>.c (.sl id 0 n)
theorem cellsOf_refs {x:AV}{l:List AC}(h:cellsOf x=some l):∀ c ∈ l,∀ id ∈ refAC c,id ∈ refAV x:=by
 unfold cellsOf at h
 split at h
 ·split at h
  ·simp only [Option.some.injEq] at h
   subst h
   intro c hc id hid
   simp only [List.mem_singleton] at hc
   subst hc
   exact hid
  ·cases h
 ·split at h
  ·simp only [Option.some.injEq] at h
   subst h
   intro c hc id hid
   exact List.mem_flatMap.2 ⟨c,hc,hid⟩
  ·cases h
 ·cases h
theorem partsSl_refs {ρ:Operand->AV}:∀ {ps:List (Nat × Operand)}{s i:Nat}{l:List (List AC)},partsSl (ps.map fun p=>(p.1,ρ p.2)) s i=some l->∀ x ∈ l,∀ c ∈ x,∀ id ∈ refAC c,∃ p ∈ ps,id ∈ refAV (ρ p.2)
 | [],s,i,l,h=>by simp [partsSl] at h;subst h;simp
 | p::ps,s,i,l,h=>by
  simp only [List.map_cons,partsSl] at h
  split at h
  ·rename_i lx r hcx hpr
   split at h
   ·simp only [Option.some.injEq] at h
    subst h
    intro x hx c hc id hid
    rcases List.mem_cons.1 hx with rfl|hx
    ·exact ⟨p,by simp,cellsOf_refs hcx c hc id hid⟩
    ·obtain ⟨q,hq,h1⟩:=partsSl_refs hpr x hx c hc id hid
     exact ⟨q,by simp [hq],h1⟩
   ·cases h
  ·cases h
theorem quiet_form {G:Ctx2}{o:Oper}{ρ:Operand->AV}{h h':AHeap}{v:AV}(hq:isQuiet o.op=true) (he:(aheavy G o ρ h).eval=some (v,h')) :
  ∃ (b:ABlk) (mk:Mk),h'=h++[some b]/\v=mk.av h.length/\(∀ k:AHeap,(aheavy G o ρ k).eval=some (mk.av k.length,k++[some b])) ∧
   ∀ (i j:Nat) c,i<b.c.n->(b.c.el i)[j]?=some c->∀ id ∈ refAC c,∃ x ∈ o.op.operands,id ∈ refAV (ρ x):=by
 have flat:∀ (l:List Value) (j:Nat) c,(ofCells l)[j]?=some c->∀ id ∈ refAC c,False:=by
  intro l j c hc id hid
  simp only [ofCells,List.getElem?_map,Option.map_eq_some_iff] at hc
  obtain ⟨x,_,rfl⟩:=hc
  simp [refAC] at hid
 unfold aheavy at he
 split at he
 ·rename_i t ho
  split at he
  ·rename_i ti hti
   simp only [Tr.eval,Option.some.injEq,Prod.mk.injEq] at he
   obtain ⟨rfl,rfl⟩:=he
   refine ⟨_,.ptr,rfl,rfl,fun k=>by simp only [aheavy,ho,hti];rfl,?_⟩
   intro i j c hi hc id hid
   exfalso
   simp only [zeroCont] at hc
   split at hc
   ·exact flat _ j c hc id hid
   ·exact flat _ j c hc id hid
  ·cases he
 ·rename_i t x ho
  split at he
  ·rename_i ti hti
   split at he
   ·rename_i c0 hc0
    simp only [Tr.eval,Option.some.injEq,Prod.mk.injEq] at he
    obtain ⟨rfl,rfl⟩:=he
    refine ⟨_,.ptr,rfl,rfl,fun k=>by simp only [aheavy,ho,hti,hc0];rfl,?_⟩
    intro i j c hi hc id hid
    unfold newBlk at hc0
    split at hc0
    ·split at hc0
     ·simp only [Option.some.injEq] at hc0
      subst hc0
      exact (flat _ j c hc id hid).elim
     ·cases hc0
    ·cases hc0
    ·cases hl:cellsOf (ρ x) with
     | none=>simp [hl] at hc0
     | some l=>
      rw [hl] at hc0
      simp only [Option.bind_some] at hc0
      split at hc0
      ·simp only [Option.some.injEq] at hc0
       subst hc0
       exact ⟨x,by simp [ho,Op.operands],cellsOf_refs hl c (List.mem_of_getElem? hc) id hid⟩
      ·cases hc0
   ·cases he
  ·cases he
 ·rename_i t len ps ho
  split at he
  ·rename_i e _ _ _ _ _ _ ht
   split at he
   ·rename_i ti hti
    split at he
    ·rename_i l hl
     split at he
     ·rename_i hc
      simp only [Tr.eval,Option.some.injEq,Prod.mk.injEq] at he
      obtain ⟨rfl,rfl⟩:=he
      refine ⟨_,.sl len,rfl,rfl,fun k=>by simp only [aheavy,ho,ht,hti,hl];rw [if_pos hc];rfl,?_⟩
      intro i j c hi hc id hid
      have hi':i<l.length:=hi
      have hce:l[i][j]?=some c:=by simpa [Cont.el,List.getD_eq_getElem?_getD,hi'] using hc
      obtain ⟨p,hp,h1⟩:=partsSl_refs hl l[i] (List.getElem_mem hi') c (List.mem_of_getElem? hce) id hid
      exact ⟨p.2,by simp only [ho,Op.operands,List.mem_toArray,List.mem_map];exact ⟨p,hp,rfl⟩,h1⟩
     ·cases he
    ·cases he
   ·cases he
  ·cases he
 ·rename_i t l c ho
  split at he
  ·rename_i e _ _ _ _ _ _ k1 n k2 n' ht hl hc
   split at he
   ·rename_i ti hti
    split at he
    ·rename_i hf
     obtain ⟨h1,he⟩:=Tr.eval_need.1 he
     obtain ⟨h2,h3,hv⟩:=need2 he
     simp only [Tr.eval,Option.some.injEq,Prod.mk.injEq] at hv
     obtain ⟨rfl,rfl⟩:=hv
     refine ⟨_,.sl n.toNat,rfl,rfl,fun k=>?_,?_⟩
     ·simp only [aheavy,ho,ht,hl,hc,hti]
      rw [if_pos hf]
      exact Tr.eval_need.2 ⟨h1,Tr.eval_need.2 ⟨h2,Tr.eval_need.2 ⟨h3,rfl⟩⟩⟩
     ·intro i j c hi hc id hid
      exact (flat _ j c hc id hid).elim
    ·cases he
   ·cases he
  ·cases he
 ·rename_i t p x ho;simp [ho,isQuiet] at hq
 ·rename_i args ts ho;simp [ho,isQuiet] at hq
 ·rename_i f args ts ho;simp [ho,isQuiet] at hq
 ·cases he
section
variable {G:Ctx2}{o:Oper}{m:List Pl}{h h' k:AHeap}{w:World}{B:Nat}{a:Act}{v:AV}{ρ:Operand->AV}
theorem quiet_put (hG:XOk G) (hρ:OpsOk m ρ a.eval) (H:HR B m k w) (hB:B<=w.heap.size) {b:ABlk}{mk:Mk}(hk:(aheavy G o ρ k).eval=some (mk.av k.length,k++[some b]))
  (hrefs:∀ (i j:Nat) c,i<b.c.n->(b.c.el i)[j]?=some c->∀ id ∈ refAC c,∃ x ∈ o.op.operands,id ∈ refAV (ρ x)) {id:Nat}(hid:k[id]?=some none) (hm:m[id]?=some mark)
  (K:Act->World->Prop) (Q:Exit->Act->World->Prop) (hK:∀ p x w',HR B (m.set id p) (k.set id (some b)) w'->ExtM m (m.set id p)->Fr (Own m k) w w'->(∀ q,Own (m.set id p) (k.set id (some b)) q->Own m k q\/w.heap.size<=q) →
   VR (m.set id p) (mk.av id) x->K (a.put o.dst x) w'):o.wp G.P a w K Q:=by
 refine heavy_ok hG hρ H hB hk K Q fun m' x w' hst hv=>?_
 have hlen:m'.length=m.length+1:=by rw [hst.hr.len,H.len];simp
 have hidm:id<m.length:=(List.getElem?_eq_some_iff.1 hm).1
 have hidk:id<k.length:=by rw [<-H.len];exact hidm
 have hpl:m.length<m'.length:=by omega
 generalize hp:m'[m.length]=p
 have hpk:m'[k.length]?=some p:=by rw [<-H.len,List.getElem?_eq_getElem hpl,hp]
 have hold:∀ i,i<m.length->m'[i]?=m[i]?:=fun i hi=>by
  rw [List.getElem?_eq_getElem hi]
  exact hst.ext i _ (List.getElem?_eq_getElem hi)
 have hne:∀ i,i ≠ id->(m.set id p)[i]?=m[i]?:=fun i hi=>List.getElem?_set_ne (fun e=>hi e.symm)
 have heq:(m.set id p)[id]?=some p:=List.getElem?_set_self hidm
 have hkne:∀ i,i ≠ id->(k.set id (some b))[i]?=k[i]?:=fun i hi=>List.getElem?_set_ne (fun e=>hi e.symm)
 have hkeq:(k.set id (some b))[id]?=some (some b):=List.getElem?_set_self hidk
 have hext:ExtM m (m.set id p):=by
  refine ⟨by simp,fun i q hq=>?_⟩
  by_cases e:i=id
  ·subst e
   rw [hm] at hq
   cases hq
   exact .inl rfl
  ·exact .inr (by rw [hne i e];exact hq)
 have back:∀ c y,(∀ i ∈ refAC c,i<m.length)->CR m' c y->CR (m.set id p) c y:=by
  intro c y hr hc
  refine CR.extM hext ?_
  cases c with
  | any=>trivial
  | v x=>exact hc
  | ptr i _ _=>
   obtain ⟨q,A,hq,rest⟩:=hc
   rw [hold i (hr i (by simp [refAC]))] at hq
   exact ⟨q,A,hq,rest⟩
  | sl i _ _=>
   obtain ⟨q,A,c',hq,rest⟩:=hc
   rw [hold i (hr i (by simp [refAC]))] at hq
   exact ⟨q,A,c',hq,rest⟩
 have at':∀ {i:Nat}{b1:ABlk}{q:Pl},(k.set id (some b))[i]?=some (some b1)->(m.set id p)[i]?=some q →
   ∃ i',(k++[some b])[i']?=some (some b1)/\m'[i']?=some q/\((i=id/\i'=k.length)\/(i ≠ id/\i'=i/\i<k.length)):=by
  intro i b1 q hb hq
  by_cases e:i=id
  ·subst e
   rw [hkeq] at hb
   rw [heq] at hq
   cases hb
   cases hq
   exact ⟨k.length,by simp,hpk,.inl ⟨rfl,rfl⟩⟩
  ·rw [hkne i e] at hb
   rw [hne i e] at hq
   have hlt:i<k.length:=(List.getElem?_eq_some_iff.1 hb).1
   exact ⟨i,by rw [List.getElem?_append_left hlt];exact hb,by rw [hold i (by rw [H.len];exact hlt)];exact hq,.inr ⟨e,rfl,hlt⟩⟩
 refine hK p x w' { len:=by simp [H.len],blk:=?_,apart:=?_ } hext hst.fr ?_ ?_
 ·intro i b1 q hb hq
  obtain ⟨i',hb',hq',hor⟩:=at' hb hq
  have hbr:=hst.hr.blk i' b1 q hb' hq'
  refine hbr.imp fun a1 j c y hi hc hcr=>back c y ?_ hcr
  rcases hor with ⟨rfl,rfl⟩ | ⟨hi1,rfl,hlt⟩
  ·have:b1=b:=by rw [hkeq] at hb;cases hb;rfl
   subst this
   intro r hr
   obtain ⟨x1,_,hx1⟩:=hrefs a1 j c hi hc r hr
   exact VR.refs (hρ x1) r hx1
  ·rw [hkne i' hi1] at hb
   rw [hne i' hi1] at hq
   obtain ⟨_,_,_,_,_,hcr0,_⟩:=(H.blk i' b1 q hb hq).cell a1 j c hi hc
   exact hcr0.refs
 ·intro i j b1 b2 q1 q2 A1 A2 hij hb1 hb2 ho1 ho2 hq1 hq2 hA1 hA2
  obtain ⟨i',hb1',hq1',hor1⟩:=at' hb1 hq1
  obtain ⟨j',hb2',hq2',hor2⟩:=at' hb2 hq2
  refine hst.hr.apart i' j' b1 b2 q1 q2 A1 A2 ?_ hb1' hb2' ho1 ho2 hq1' hq2' hA1 hA2
  rcases hor1 with ⟨rfl,rfl⟩ | ⟨_,rfl,h1⟩ <;> rcases hor2 with ⟨rfl,rfl⟩ | ⟨_,rfl,h2⟩
  ·exact absurd rfl hij
  ·omega
  ·omega
  ·exact hij
 ·intro q hq
  obtain ⟨i,b1,q1,A,hb1,ho1,hq1,hA,rfl⟩:=hq
  obtain ⟨i',hb1',hq1',_⟩:=at' hb1 hq1
  exact hst.own _ ⟨i',b1,q1,A,hb1',ho1,hq1',hA,rfl⟩
 ·cases mk with
  | ptr=>
   have hv':CR m' (.ptr k.length 0 0) x:=hv
   obtain ⟨q,A,hq,rest⟩:=hv'
   rw [hpk] at hq
   cases hq
   exact ⟨p,A,heq,rest⟩
  | sl n=>
   have hv':CR m' (.sl k.length 0 n) x:=hv
   obtain ⟨q,A,c',hq,rest⟩:=hv'
   rw [hpk] at hq
   cases hq
   exact ⟨p,A,c',heq,rest⟩
end
end
section
open Go Go.RowKit
theorem pkAt_bit (w D y b:Nat):(pkAt w D y).testBit b=(decide (b<w)&&D.testBit (w*y+b)):=by
 simp [pkAt,Nat.testBit_mod_two_pow,Nat.testBit_shiftRight]
theorem pk_insert {w D y0 v:Nat}{f:Nat->Nat}(h:∀ y,pkAt w D y=f y) (h0:f y0=0) (hv:v<2^w):∀ y,pkAt w (D ||| (v <<< (w*y0))) y=if y=y0 then v else f y:=by
 intro y
 apply Nat.eq_of_testBit_eq
 intro b
 rw [pkAt_bit,Nat.testBit_or,Nat.testBit_shiftLeft]
 have hy:(decide (b<w)&&D.testBit (w*y+b))=(f y).testBit b:=by rw [<-pkAt_bit,h]
 by_cases hb:b<w
 ·by_cases e:y=y0
  ·subst e
   rw [h0,Nat.zero_testBit] at hy
   simp only [hb,decide_true,Bool.true_and] at hy
   simp [hb,hy]
  ·simp only [e,if_false,<-hy,hb,decide_true,Bool.true_and]
   have:(decide (w*y0<=w*y+b)&&v.testBit (w*y+b-w*y0))=false:=by
    rcases Nat.lt_or_gt_of_ne e with h1|h1
    ·have h2:w*(y+1)<=w*y0:=Nat.mul_le_mul_left _ h1
     rw [Nat.mul_add,Nat.mul_one] at h2
     have:¬ w*y0<=w*y+b:=by omega
     simp [this]
    ·have h2:w*(y0+1)<=w*y:=Nat.mul_le_mul_left _ h1
     rw [Nat.mul_add,Nat.mul_one] at h2
     have h3:v<2^(w*y+b-w*y0):=Nat.lt_of_lt_of_le hv (Nat.pow_le_pow_right (by decide) (by omega))
     rw [Nat.testBit_lt_two_pow h3]
     simp
   rw [this,Bool.or_false]
 ·simp only [hb,decide_false,Bool.false_and] at hy ⊢
  by_cases e:y=y0
  ·simp only [e,if_true]
   exact (Nat.testBit_lt_two_pow (Nat.lt_of_lt_of_le hv (Nat.pow_le_pow_right (by decide) (by omega)))).symm
  ·simp only [e,if_false]
   exact hy
theorem edgeFold_bit (f:Nat->Nat) (i:Nat):∀ (l:List Edge) (s:Nat),(l.foldl (fun s e=>if Region.binds .any e then s ||| (1 <<< e.on) ||| f e.on else s) s).testBit i=true ↔
  s.testBit i=true\/∃ e ∈ l,Region.binds .any e=true/\(e.on=i\/(f e.on).testBit i=true)
 | [],s=>by simp
 | e::l,s=>by
  rw [List.foldl_cons,edgeFold_bit f i l]
  by_cases hb:Region.binds .any e=true
  ·simp only [hb,if_true,Nat.testBit_or,Bool.or_eq_true,Nat.one_shiftLeft,Nat.testBit_two_pow,decide_eq_true_eq]
   constructor
   ·rintro (((h|h)|h) | ⟨e',h1,h2⟩)
    ·exact .inl h
    ·exact .inr ⟨e,by simp,hb,.inl h⟩
    ·exact .inr ⟨e,by simp,hb,.inr h⟩
    ·exact .inr ⟨e',by simp [h1],h2⟩
   ·rintro (h | ⟨e',h1,h2,h3⟩)
    ·exact .inl (.inl (.inl h))
    ·rcases List.mem_cons.1 h1 with rfl|h1
     ·rcases h3 with h3|h3
      ·exact .inl (.inl (.inr h3))
      ·exact .inl (.inr h3)
     ·exact .inr ⟨e',h1,h2,h3⟩
  ·simp only [hb,Bool.false_eq_true,if_false]
   constructor
   ·rintro (h | ⟨e',h1,h2⟩)
    ·exact .inl h
    ·exact .inr ⟨e',by simp [h1],h2⟩
   ·rintro (h | ⟨e',h1,h2,h3⟩)
    ·exact .inl h
    ·rcases List.mem_cons.1 h1 with rfl|h1
     ·exact absurd h2 hb
     ·exact .inr ⟨e',h1,h2,h3⟩
theorem edgeMask_bit (f:Nat->Nat) (o:Oper) (i:Nat):(edgeMask f o).testBit i=true ↔ ∃ e ∈ o.after,Region.binds .any e=true/\(e.on=i\/(f e.on).testBit i=true):=by
 unfold edgeMask
 rw [edgeFold_bit]
 simp
theorem edgeMask_congr {f g:Nat->Nat}{o:Oper}(h:∀ e ∈ o.after,Region.binds .any e=true->f e.on=g e.on):edgeMask f o=edgeMask g o:=by
 apply Nat.eq_of_testBit_eq
 intro i
 rw [Bool.eq_iff_iff,edgeMask_bit,edgeMask_bit]
 constructor
 ·rintro ⟨e,h1,h2,h3⟩;exact ⟨e,h1,h2,by rwa [<-h e h1 h2]⟩
 ·rintro ⟨e,h1,h2,h3⟩;exact ⟨e,h1,h2,by rwa [h e h1 h2]⟩
theorem predsGo_get {n:Nat}:∀ (l:List Oper) (Q:List Nat) (acc:Nat),(∀ y,pkAt n acc y=Q.getD y 0)->(∀ m ∈ predsGo n l Q.length acc,m<2^n) →
  (predsGo n l Q.length acc).length=l.length/\∀ (k:Nat) o m,l[k]?=some o->(predsGo n l Q.length acc)[k]?=some m->m=edgeMask (fun y=>(Q++(predsGo n l Q.length acc).take k).getD y 0) o
 | [],Q,acc,_,_=>⟨rfl,fun k o m h=>by simp at h⟩
 | o::l,Q,acc,h,hb=>by
  simp only [predsGo,natL_eq] at hb ⊢
  generalize hm:edgeMask (pkAt n acc) o=m at hb ⊢
  have hmb:m<2^n:=hb m (by simp)
  have hQ:(Q++[m]).length=Q.length+1:=by simp
  have hins:=pk_insert h (y0:=Q.length) (v:=m) (by simp) hmb
  have hg:∀ y,pkAt n (acc ||| m <<< (n*Q.length)) y=(Q++[m]).getD y 0:=by
   intro y
   rw [hins y]
   by_cases e:y=Q.length
   ·subst e;simp
   ·simp only [e,if_false,List.getD_eq_getElem?_getD]
    rcases Nat.lt_or_ge y Q.length with h1|h1
    ·rw [List.getElem?_append_left h1]
    ·rw [List.getElem?_eq_none h1,List.getElem?_eq_none (by simp;omega)]
  have ih:=predsGo_get l (Q++[m]) _ hg (by rw [hQ];exact fun x hx=>hb x (by simp [hx]))
  rw [hQ] at ih
  obtain ⟨ih1,ih2⟩:=ih
  refine ⟨by simp [ih1],fun k o' m' ho' hm'=>?_⟩
  cases k with
  | zero=>
   simp only [List.getElem?_cons_zero,Option.some.injEq] at ho' hm'
   subst ho'
   subst hm'
   rw [<-hm]
   exact edgeMask_congr fun e _ _=>by rw [h];simp
  | succ k=>
   have:=ih2 k o' m' (by simpa using ho') (by simpa using hm')
   rw [this]
   exact edgeMask_congr fun e _ _=>by simp
theorem backOk_get:∀ (P:List Nat) (k:Nat),backOk P k=true->∀ (j m:Nat),P[j]?=some m->m<2^(k+j)
 | [],_,_,j,m,h=>by simp at h
 | x::P,k,h,j,m,hj=>by
  simp only [backOk,Bool.and_eq_true] at h
  cases j with
  | zero=>
   simp only [List.getElem?_cons_zero,Option.some.injEq] at hj
   subst hj
   simpa [Nat.blt_eq] using h.1
  | succ j=>
   have:=backOk_get P (k+1) h.2 j m (by simpa using hj)
   rwa [show k+(j+1)=k+1+j by omega]
theorem preds_get {ops:Array Oper}(h:backOk (predsOf ops.toList) 0=true):(predsOf ops.toList).length=ops.size/\∀ (j:Nat) o,ops[j]?=some o →
  (predsOf ops.toList).getD j 0=edgeMask (fun y=>(predsOf ops.toList).getD y 0) o/\(predsOf ops.toList).getD j 0<2^j:=by
 have hP:predsOf ops.toList=predsGo ops.size ops.toList 0 0:=by unfold predsOf;rw [natL_eq];simp
 have hlen0:(predsGo ops.size ops.toList 0 0).length<=ops.size:=by
  have:∀ (l:List Oper) (j acc:Nat),(predsGo ops.size l j acc).length=l.length:=by
   intro l
   induction l with
   | nil=>intro j acc;rfl
   | cons o l ih=>intro j acc;simp only [predsGo,natL_eq,List.length_cons,ih]
  rw [this]
  simp
 have hb:=backOk_get _ _ h
 have hall:∀ m ∈ predsGo ops.size ops.toList 0 0,m<2^ops.size:=by
  intro m hm
  obtain ⟨j,hj⟩:=List.getElem?_of_mem hm
  have h1:=hb j m (by rw [hP];exact hj)
  have h2:=(List.getElem?_eq_some_iff.1 hj).1
  exact Nat.lt_of_lt_of_le h1 (Nat.pow_le_pow_right (by decide) (by omega))
 obtain ⟨h1,h2⟩:=predsGo_get (n:=ops.size) ops.toList [] 0 (fun y=>by simp [pkAt]) hall
 simp only [List.length_nil,List.nil_append] at h1 h2
 rw [hP]
 refine ⟨by rw [h1];simp,fun j o ho=>?_⟩
 have hj:j<(predsGo ops.size ops.toList 0 0).length:=by rw [h1];simpa using (Array.getElem?_eq_some_iff.1 ho).1
 have hg:=List.getElem?_eq_getElem hj
 have e1:(predsGo ops.size ops.toList 0 0).getD j 0=(predsGo ops.size ops.toList 0 0)[j]:=by rw [List.getD_eq_getElem?_getD,hg];rfl
 have hlt:(predsGo ops.size ops.toList 0 0)[j]<2^j:=by
  have:=hb j _ (by rw [hP];exact hg)
  rwa [Nat.zero_add] at this
 refine ⟨?_,by rw [e1];exact hlt⟩
 rw [e1]
 have h3:=h2 j o _ (by simpa using ho) hg
 rw [h3] at hlt ⊢
 refine edgeMask_congr fun e he hbe=>?_
 have hbit:=(edgeMask_bit (fun y=>((predsGo ops.size ops.toList 0 0).take j).getD y 0) o e.on).2 ⟨e,he,hbe,.inl rfl⟩
 have hon:e.on<j:=by
  rcases Nat.lt_or_ge e.on j with h4|h4
  ·exact h4
  ·rw [Nat.testBit_lt_two_pow (Nat.lt_of_lt_of_le hlt (Nat.pow_le_pow_right (by decide) h4))] at hbit
   cases hbit
 simp only [List.getD_eq_getElem?_getD,List.getElem?_take,hon,if_true]
theorem walkPi_ok {P:List Nat}{lm qm n:Nat}:∀ (l:List Nat) (acc:Nat),walkPi P lm qm n l acc=true →
  (∀ q ∈ l,q<n/\acc.testBit q=false)/\l.Nodup/\(∀ i,i<n->acc.testBit i=true\/i ∈ l) ∧
  ∀ (p q:Nat),l[p]?=some q->(∀ i,(P.getD q 0).testBit i=true->acc.testBit i=true\/∃ p',p'<p/\l[p']?=some i) ∧
   (qm.testBit q=true->∀ j,lm.testBit j=true->(acc.testBit j=true\/∃ p',p'<p/\l[p']?=some j)->(P.getD q 0).testBit j=true)
 | [],acc,h=>by
  have he:=Nat.eq_of_beq_eq_true h
  refine ⟨by simp,.nil,fun i hi=>.inl ?_,fun p q hq=>by simp at hq⟩
  rw [he,Nat.testBit_two_pow_sub_one]
  simpa using hi
 | q::l,acc,h=>by
  simp only [walkPi,natL_eq,Bool.and_eq_true] at h
  obtain ⟨⟨⟨⟨h1,h2⟩,h3⟩,h4⟩,h5⟩:=h
  obtain ⟨a1,a2,a3,a4⟩:=walkPi_ok l _ h5
  have hbit:∀ i,(acc ||| 1 <<< q).testBit i=true ↔ acc.testBit i=true\/q=i:=fun i=>by
   rw [Nat.testBit_or,Nat.one_shiftLeft,Nat.testBit_two_pow]
   simp
  have hq2:acc.testBit q=false:=by simpa using h2
  have hm:∀ i,(P.getD q 0).testBit i=true->acc.testBit i=true:=fun i hi=>by
   have e:=Nat.eq_of_beq_eq_true h3
   rw [<-e,Nat.testBit_and,Bool.and_eq_true] at hi
   exact hi.2
  refine ⟨?_,?_,?_,?_⟩
  ·intro x hx
   rcases List.mem_cons.1 hx with rfl|hx
   ·exact ⟨by simpa [Nat.blt_eq] using h1,hq2⟩
   ·obtain ⟨b1,b2⟩:=a1 x hx
    refine ⟨b1,?_⟩
    cases e:acc.testBit x with
    | false=>rfl
    | true=>rw [(hbit x).2 (.inl e)] at b2;cases b2
  ·refine List.nodup_cons.2 ⟨fun hx=>?_,a2⟩
   have:=(a1 q hx).2
   rw [(hbit q).2 (.inr rfl)] at this
   cases this
  ·intro i hi
   rcases a3 i hi with h6|h6
   ·rcases (hbit i).1 h6 with h7|h7
    ·exact .inl h7
    ·exact .inr (by simp [h7])
   ·exact .inr (by simp [h6])
  ·intro p x hx
   cases p with
   | zero=>
    simp only [List.getElem?_cons_zero,Option.some.injEq] at hx
    subst hx
    refine ⟨fun i hi=>.inl (hm i hi),fun hqm j hj hor=>?_⟩
    rcases hor with h6 | ⟨p',h6,_⟩
    ·rw [hqm] at h4
     simp only [Bool.not_true,Bool.false_or] at h4
     have e:=Nat.eq_of_beq_eq_true h4
     rw [<-e,Nat.testBit_or,Nat.testBit_and,h6,hj]
     simp
    ·omega
   | succ p=>
    obtain ⟨b1,b2⟩:=a4 p x (by simpa using hx)
    refine ⟨fun i hi=>?_,fun hqm j hj hor=>b2 hqm j hj ?_⟩
    ·rcases b1 i hi with h6 | ⟨p',h6,h7⟩
     ·rcases (hbit i).1 h6 with h8|h8
      ·exact .inl h8
      ·exact .inr ⟨0,by omega,by simp [h8]⟩
     ·exact .inr ⟨p'+1,by omega,by simpa using h7⟩
    ·rcases hor with h6 | ⟨p',h6,h7⟩
     ·exact .inl ((hbit j).2 (.inl h6))
     ·cases p' with
      | zero=>
       simp only [List.getElem?_cons_zero,Option.some.injEq] at h7
       exact .inl ((hbit j).2 (.inr h7))
      | succ p'=>exact .inr ⟨p',by omega,by simpa using h7⟩
theorem maskOf_bit (p:Oper->Bool):∀ (l:List Oper) (i k:Nat) o,l[k]?=some o->p o=true->(maskOf p l i).testBit (i+k)=true
 | [],_,_,_,h,_=>by simp at h
 | x::l,i,k,o,h,hp=>by
  simp only [maskOf,Nat.testBit_or,Bool.or_eq_true]
  cases k with
  | zero=>
   simp only [List.getElem?_cons_zero,Option.some.injEq] at h
   subst h
   left
   simp [hp,Nat.one_shiftLeft,Nat.testBit_two_pow]
  | succ k=>
   right
   have:=maskOf_bit p l (i+1) k o (by simpa using h) hp
   rwa [show i+(k+1)=i+1+k by omega]
theorem dstsOk_ok:∀ (l:List Oper) (m:Nat),dstsOk l m=true->(∀ (k:Nat) o x,l[k]?=some o->o.dst=some x->m.testBit x=false) ∧
  ∀ (i j:Nat) o o' x,l[i]?=some o->l[j]?=some o'->o.dst=some x->o'.dst=some x->i=j
 | [],m,_=>⟨fun k o x h=>by simp at h,fun i j o o' x h=>by simp at h⟩
 | o::l,m,h=>by
  unfold dstsOk at h
  split at h
  ·rename_i x hx
   simp only [natL_eq,Bool.and_eq_true] at h
   obtain ⟨a1,a2⟩:=dstsOk_ok l _ h.2
   have hbit:∀ y,(m ||| 1 <<< x).testBit y=false->m.testBit y=false/\x ≠ y:=fun y hy=>by
    rw [Nat.testBit_or,Nat.one_shiftLeft,Nat.testBit_two_pow,Bool.or_eq_false_iff] at hy
    exact ⟨hy.1,by simpa using hy.2⟩
   refine ⟨fun k o' y ho hy=>?_,fun i j o1 o2 y h1 h2 hy1 hy2=>?_⟩
   ·cases k with
    | zero=>
     simp only [List.getElem?_cons_zero,Option.some.injEq] at ho
     subst ho
     rw [hx] at hy
     cases hy
     simpa using h.1
    | succ k=>exact (hbit y (a1 k o' y (by simpa using ho) hy)).1
   ·cases i with
    | zero=>
     cases j with
     | zero=>rfl
     | succ j=>
      simp only [List.getElem?_cons_zero,Option.some.injEq] at h1
      subst h1
      rw [hx] at hy1
      cases hy1
      exact absurd rfl (hbit x (a1 j o2 x (by simpa using h2) hy2)).2
    | succ i=>
     cases j with
     | zero=>
      simp only [List.getElem?_cons_zero,Option.some.injEq] at h2
      subst h2
      rw [hx] at hy2
      cases hy2
      exact absurd rfl (hbit x (a1 i o1 x (by simpa using h1) hy1)).2
     | succ j=>rw [a2 i j o1 o2 y (by simpa using h1) (by simpa using h2) hy1 hy2]
  ·rename_i hx
   obtain ⟨a1,a2⟩:=dstsOk_ok l m h
   refine ⟨fun k o' y ho hy=>?_,fun i j o1 o2 y h1 h2 hy1 hy2=>?_⟩
   ·cases k with
    | zero=>
     simp only [List.getElem?_cons_zero,Option.some.injEq] at ho
     subst ho
     rw [hx] at hy
     cases hy
    | succ k=>exact a1 k o' y (by simpa using ho) hy
   ·cases i with
    | zero=>
     simp only [List.getElem?_cons_zero,Option.some.injEq] at h1
     subst h1
     rw [hx] at hy1
     cases hy1
    | succ i=>
     cases j with
     | zero=>
      simp only [List.getElem?_cons_zero,Option.some.injEq] at h2
      subst h2
      rw [hx] at hy2
      cases hy2
     | succ j=>rw [a2 i j o1 o2 y (by simpa using h1) (by simpa using h2) hy1 hy2]
theorem defsOf_get:∀ (l:List Oper) (i D:Nat) (f:Nat->Nat),(∀ y,pkAt 12 D y=f y)->(∀ (k:Nat) o x,l[k]?=some o->o.dst=some x->f x=0) →
  (∀ (i j:Nat) o o' x,l[i]?=some o->l[j]?=some o'->o.dst=some x->o'.dst=some x->i=j)->i+l.length<4095 →
  (∀ (k:Nat) o x,l[k]?=some o->o.dst=some x->pkAt 12 (defsOf l i D) x=i+k+1)/\∀ y,(∀ (k:Nat) o,l[k]?=some o->o.dst ≠ some y)->pkAt 12 (defsOf l i D) y=f y
 | [],i,D,f,h,_,_,_=>⟨fun k o x h=>by simp at h,fun y _=>h y⟩
 | o::l,i,D,f,h,h0,hu,hn=>by
  simp only [List.length_cons] at hn
  unfold defsOf
  split
  ·rename_i x hx
   rw [natL_eq]
   have hins:=pk_insert h (y0:=x) (v:=i+1) (h0 0 o x (by simp) hx) (by show i+1<4096;omega)
   have hnx:∀ (k:Nat) o',l[k]?=some o'->o'.dst ≠ some x:=fun k o' ho' hd=>by
    have:=hu 0 (k+1) o o' x (by simp) (by simpa using ho') hx hd
    omega
   obtain ⟨a1,a2⟩:=defsOf_get l (i+1) _ (fun y=>if y=x then i+1 else f y) hins (fun k o' y ho' hy=>by
    have hne:y ≠ x:=fun e=>hnx k o' ho' (e ▸ hy)
    simp only [hne,if_false]
    exact h0 (k+1) o' y (by simpa using ho') hy) (fun a b o1 o2 y h1 h2 hy1 hy2=>by
    have:=hu (a+1) (b+1) o1 o2 y (by simpa using h1) (by simpa using h2) hy1 hy2
    omega) (by omega)
   refine ⟨fun k o' y ho' hy=>?_,fun y hy=>?_⟩
   ·cases k with
    | zero=>
     simp only [List.getElem?_cons_zero,Option.some.injEq] at ho'
     subst ho'
     rw [hx] at hy
     cases hy
     rw [a2 x hnx]
     simp
    | succ k=>
     rw [a1 k o' y (by simpa using ho') hy]
     omega
   ·have hne:y ≠ x:=fun e=>hy 0 o (by simp) (e ▸ hx)
    rw [a2 y (fun k o' ho'=>hy (k+1) o' (by simpa using ho'))]
    simp [hne]
  ·rename_i hx
   obtain ⟨a1,a2⟩:=defsOf_get l (i+1) D f h (fun k o' y ho' hy=>h0 (k+1) o' y (by simpa using ho') hy) (fun a b o1 o2 y h1 h2 hy1 hy2=>by
    have:=hu (a+1) (b+1) o1 o2 y (by simpa using h1) (by simpa using h2) hy1 hy2
    omega) (by omega)
   refine ⟨fun k o' y ho' hy=>?_,fun y hy=>a2 y fun k o' ho'=>hy (k+1) o' (by simpa using ho')⟩
   cases k with
   | zero=>
    simp only [List.getElem?_cons_zero,Option.some.injEq] at ho'
    subst ho'
    rw [hx] at hy
    cases hy
   | succ k=>
    rw [a1 k o' y (by simpa using ho') hy]
    omega
theorem looksOk_get {P:List Nat}{ops:Array Oper}{D:Nat}:∀ (l:List Oper) (ms:List Nat) (i:Nat),looksOk P ops D l ms i=true->∀ (k:Nat) o,l[k]?=some o →
  ∀ y ∈ looksAt ops o,∀ j,pkAt 12 D y=j+1->i+k=j\/(ms.getD k 0).testBit j=true\/before P (i+k) j=true
 | [],_,_,_,k,o,h=>by simp at h
 | o::l,[],_,h,_,_,_=>by simp [looksOk] at h
 | o::l,m::ms,i,h,k,o',ho=>by
  simp only [looksOk,Bool.and_eq_true] at h
  cases k with
  | zero=>
   simp only [List.getElem?_cons_zero,Option.some.injEq] at ho
   subst ho
   intro y hy j hj
   have:=List.all_eq_true.1 h.1 y hy
   simp only [hj] at this
   simp only [Bool.or_eq_true] at this
   rcases this with (h1|h1)|h1
   ·exact .inl (Nat.eq_of_beq_eq_true h1)
   ·exact .inr (.inl (by simpa using h1))
   ·exact .inr (.inr h1)
  | succ k=>
   intro y hy j hj
   have:=looksOk_get l ms (i+1) h.2 k o' (by simpa using ho) y hy j hj
   rw [show i+1+k=i+(k+1) by omega] at this
   simpa using this
theorem loudsOf_mem:∀ (l:List Oper) (i k:Nat) o,l[k]?=some o->isLoud o=true->i+k ∈ loudsOf l i
 | [],_,_,_,h,_=>by simp at h
 | x::l,i,k,o,h,hl=>by
  unfold loudsOf
  cases k with
  | zero=>
   simp only [List.getElem?_cons_zero,Option.some.injEq] at h
   subst h
   simp [hl]
  | succ k=>
   have:=loudsOf_mem l (i+1) k o (by simpa using h) hl
   rw [show i+1+k=i+(k+1) by omega] at this
   cases isLoud x <;> simp [this]
theorem pairsOk_ok {P:List Nat}:∀ {L:List Nat},pairsOk P L=true->∀ a ∈ L,∀ b ∈ L,a ≠ b->before P a b=true\/before P b a=true
 | [],_,a,ha,_,_,_=>by simp at ha
 | x::L,h,a,ha,b,hb,hne=>by
  simp only [pairsOk,Bool.and_eq_true] at h
  have h1:=fun j hj=>List.all_eq_true.1 h.1 j hj
  simp only [Bool.or_eq_true] at h1
  rcases List.mem_cons.1 ha with e1|m1 <;> rcases List.mem_cons.1 hb with e2|m2
  ·exact absurd (e1.trans e2.symm) hne
  ·rw [e1];exact h1 b m2
  ·rw [e2];exact (h1 a m1).symm
  ·exact pairsOk_ok h.2 a m1 b m2 hne
end
section
open Go Go.RowKit
def Loud (o:Oper):Prop:=isLight o.op=false/\isQuiet o.op=false
structure OrdOk (ops:Array Oper) (π:List Nat):Prop where
 len:π.length=ops.size
 mem:∀ i,i<ops.size->i ∈ π
 inj:∀ p,p<ops.size->π.idxOf (π.getD p 0)=p
 lt:∀ p,p<ops.size->π.getD p 0<ops.size
 dir:∀ (j:Nat) o,ops[j]?=some o->∀ e ∈ o.after,Region.binds .any e=true->before (predsOf ops.toList) e.on j=true
 step:∀ j,j<ops.size->∀ i,before (predsOf ops.toList) i j=true->∃ o,ops[j]?=some o/\∃ e ∈ o.after,Region.binds .any e=true/\(e.on=i\/before (predsOf ops.toList) i e.on=true)
 pos:∀ j,j<ops.size->∀ i,before (predsOf ops.toList) i j=true->i<ops.size/\π.idxOf i<π.idxOf j
 dst:∀ (i j:Nat) o o' x,ops[i]?=some o->ops[j]?=some o'->o.dst=some x->o'.dst=some x->i=j
 look:∀ (i j:Nat) o o' y,i ≠ j->ops[i]?=some o->ops[j]?=some o'->o'.dst=some y->y ∈ looksAt ops o->before (predsOf ops.toList) j i=true\/before (predsOf ops.toList) i j=true
 heavy:∀ (i j:Nat) o o',i ≠ j->ops[i]?=some o->ops[j]?=some o'->Loud o->Loud o'->before (predsOf ops.toList) i j=true\/before (predsOf ops.toList) j i=true
 quiet:∀ (i j:Nat) o o',ops[i]?=some o->ops[j]?=some o'->isQuiet o.op=true->Loud o'->π.idxOf j<π.idxOf i->before (predsOf ops.toList) j i=true
theorem getElem?_lt {ops:Array Oper}{i:Nat}{o:Oper}(h:ops[i]?=some o):i<ops.size:=(Array.getElem?_eq_some_iff.1 h).1
theorem orderOk_ok {ops:Array Oper}{π:List Nat}(h:orderOk ops π=true):OrdOk ops π:=by
 simp only [orderOk,orderOkP,natL_eq,Bool.and_eq_true] at h
 obtain ⟨⟨⟨⟨⟨⟨h1,h2⟩,h3⟩,h4⟩,h5⟩,h6⟩,h7⟩:=h
 have hlen:π.length=ops.size:=Nat.eq_of_beq_eq_true h1
 have hsz:ops.size<4095:=by simpa [Nat.blt_eq] using h2
 obtain ⟨hPl,hP⟩:=preds_get h3
 obtain ⟨w1,w2,w3,w4⟩:=walkPi_ok _ _ h4
 obtain ⟨_,hd⟩:=dstsOk_ok _ _ h5
 have hmem:∀ i,i<ops.size->i ∈ π:=fun i hi=>by
  rcases w3 i hi with h|h
  ·rw [Nat.zero_testBit] at h;cases h
  ·exact h
 have hidx:∀ (p q:Nat),π[p]?=some q->π.idxOf q=p:=fun p q hq=>by
  have hm:=List.mem_of_getElem? hq
  have hlt:=List.idxOf_lt_length_iff.2 hm
  exact nodup_inj w2 (by rw [List.getElem?_eq_getElem hlt,List.getElem_idxOf]) hq
 have hget:∀ p,p<ops.size->π[p]?=some (π.getD p 0):=fun p hp=>by
  rw [List.getD_eq_getElem?_getD,List.getElem?_eq_getElem (by rw [hlen];exact hp)]
  rfl
 have hat:∀ i,i<ops.size->π[π.idxOf i]?=some i:=fun i hi=>by
  have hlt:=List.idxOf_lt_length_iff.2 (hmem i hi)
  rw [List.getElem?_eq_getElem hlt,List.getElem_idxOf]
 have hlist:∀ (i:Nat) o,ops[i]?=some o->ops.toList[i]?=some o:=fun i o h=>by simpa using h
 have hbits:∀ (j:Nat) o,ops[j]?=some o->∀ i,before (predsOf ops.toList) i j=true ↔ ∃ e ∈ o.after,Region.binds .any e=true/\(e.on=i\/before (predsOf ops.toList) i e.on=true):=fun j o ho i=>by
  unfold before
  rw [(hP j o ho).1,edgeMask_bit]
 have hdefs:=defsOf_get ops.toList 0 0 (fun _=>0) (fun y=>by simp [pkAt]) (fun _ _ _ _ _=>rfl) hd (by simpa using hsz)
 refine ⟨hlen,hmem,fun p hp=>hidx p _ (hget p hp),fun p hp=>(w1 _ (List.mem_of_getElem? (hget p hp))).1,?_,?_,?_,?_,?_,?_,?_⟩
 ·intro j o hj e he hb
  exact (hbits j o hj e.on).2 ⟨e,he,hb,.inl rfl⟩
 ·intro j hj i hi
  have ho:=Array.getElem?_eq_getElem hj
  exact ⟨_,ho,(hbits j _ ho i).1 hi⟩
 ·intro j hj i hi
  obtain ⟨h8,_⟩:=w4 (π.idxOf j) j (hat j hj)
  rcases h8 i hi with h9 | ⟨p',h9,h10⟩
  ·rw [Nat.zero_testBit] at h9;cases h9
  ·exact ⟨(w1 i (List.mem_of_getElem? h10)).1,by rw [hidx p' i h10];exact h9⟩
 ·intro i j o o' x hi hj hx hx'
  exact hd i j o o' x (hlist i o hi) (hlist j o' hj) hx hx'
 ·intro i j o o' y hne hi hj hy hl
  have h8:=hdefs.1 j o' y (hlist j o' hj) hy
  rw [Nat.zero_add] at h8
  have h9:=looksOk_get _ _ _ h6 i o (hlist i o hi) y hl j h8
  rw [Nat.zero_add] at h9
  rcases h9 with h9|h9|h9
  ·exact absurd h9 hne
  ·exact .inl h9
  ·exact .inr h9
 ·intro i j o o' hne hi hj hl hl'
  have m1:=loudsOf_mem _ 0 i o (hlist i o hi) (by simp [isLoud,hl.1,hl.2])
  have m2:=loudsOf_mem _ 0 j o' (hlist j o' hj) (by simp [isLoud,hl'.1,hl'.2])
  rw [Nat.zero_add] at m1 m2
  exact pairsOk_ok h7 i m1 j m2 hne
 ·intro i j o o' hi hj hq hl hlt
  have b1:=maskOf_bit (fun o=>isQuiet o.op) _ 0 i o (hlist i o hi) hq
  have b2:=maskOf_bit isLoud _ 0 j o' (hlist j o' hj) (by simp [isLoud,hl.1,hl.2])
  rw [Nat.zero_add] at b1 b2
  exact (w4 (π.idxOf i) i (hat i (getElem?_lt hi))).2 b1 j b2 (.inr ⟨π.idxOf j,hlt,hat j (getElem?_lt hj)⟩)
def Yes (ops:Array Oper) (o:Oper) (S:St):Prop:=match o.guard with
 | none=>True
 | some (g,want)=>∃ t,(ops[g]?).bind (·.dst)=some t/\S.sl.getD t (.c .any)=.c (.v (.bool want))
def No (ops:Array Oper) (o:Oper) (S:St):Prop:=match o.guard with
 | none=>False
 | some (g,want)=>∃ t,(ops[g]?).bind (·.dst)=some t/\(S.sl.getD t (.c .any)=.c (.v (.bool !want))\/∃ vs,S.sl.getD t (.c .any)=.c (.v (.tuple vs)))
def Logged (i:Nat) (o:Oper) (S S':St) (l:Log):Prop:=readsIn o S=true/\(isLight o.op=true->(i,hardOf o (evs S.sl),softOf o (evs S.sl)) ∈ l.lights)/\(isLight o.op=false->isQuiet o.op=true->(i,S.h.length) ∈ l.quiets) ∧
 (Loud o->∃ t:Bool,(t=true->∀ id ∈ writesOf o (evs S.sl) S.h,S'.h[id]?=S.h[id]?)/\(i,turnsOf t o S,breaksOf (turnsOf t o S) S.h S'.h,reachOf o (evs S.sl) S.h) ∈ l.louds)
def StepAt (G:Ctx2) (ops:Array Oper) (l:Log) (i:Nat) (S S':St):Prop:=
 ∃ o,ops[i]?=some o/\((Yes ops o S/\(stepOp G o S).eval=some S'/\Logged i o S S' l)\/(No ops o S/\S'=skipOp o S))
def Trace (G:Ctx2) (ops:Array Oper) (l:Log):List Nat->St->St->Prop
 | [],S,S'=>S'=S
 | i::rest,S,S'=>∃ S1,StepAt G ops l i S S1/\Trace G ops l rest S1 S'
def LogLe (l l':Log):Prop:=(∀ x ∈ l.lights,x ∈ l'.lights)/\(∀ x ∈ l.louds,x ∈ l'.louds)/\∀ x ∈ l.quiets,x ∈ l'.quiets
theorem lit_same {S:St}{t:Nat}{b:Bool}(h:S.sl.getD t (.c .any)=.c (.v (.bool b))):litB S t b=S:=by
 obtain ⟨sl,hp⟩:=S
 simp only [litB]
 congr 1
 simp only at h
 rw [List.getD_eq_getElem?_getD] at h
 apply List.ext_getElem?
 intro i
 by_cases e:i=t
 ·subst e
  rcases Nat.lt_or_ge i sl.length with hl|hl
  ·rw [List.getElem?_set_self hl,List.getElem?_eq_getElem hl]
   rw [List.getElem?_eq_getElem hl] at h
   simp only [Option.getD_some] at h
   rw [h]
  ·rw [List.getElem?_eq_none (by simpa using hl),List.getElem?_eq_none hl]
 ·rw [List.getElem?_set_ne (fun e'=>e e'.symm)]
theorem stepLog_some {G:Ctx2}{i:Nat}{o:Oper}{S S1:St}{l l1:Log}(h:(stepLog G i o S l).eval=some (S1,l1)):readsIn o S=true/\(stepOp G o S).eval=some S1/\∃ t:Bool,(t=true->∀ id ∈ writesOf o (evs S.sl) S.h,S1.h[id]?=S.h[id]?)/\l1=logOf t i o S S1 l:=by
 unfold stepLog at h
 split at h
 ·rename_i hr
  rw [Tr.eval_bind] at h
  cases h1:(stepOp G o S).eval with
  | none=>simp [h1] at h
  | some S'=>
   rw [h1] at h
   simp only [Option.bind_some] at h
   split at h
   ·obtain ⟨h2,h⟩:=Tr.eval_need.1 h
    simp only [yes,decide_eq_true_eq] at h2
    simp only [Tr.eval,Option.some.injEq,Prod.mk.injEq] at h
    obtain ⟨rfl,rfl⟩:=h
    exact ⟨hr,rfl,true,fun _=>List.map_inj_left.1 h2,rfl⟩
   ·simp only [Tr.eval,Option.some.injEq,Prod.mk.injEq] at h
    obtain ⟨rfl,rfl⟩:=h
    exact ⟨hr,rfl,false,fun e=>(by cases e),rfl⟩
 ·cases h
theorem logOf_le (t:Bool) (i:Nat) (o:Oper) (S S':St) (l:Log):LogLe l (logOf t i o S S' l):=by
 unfold logOf
 split
 ·exact ⟨fun x hx=>by simp [hx],fun x hx=>hx,fun x hx=>hx⟩
 ·split
  ·exact ⟨fun x hx=>hx,fun x hx=>hx,fun x hx=>by simp [hx]⟩
  ·exact ⟨fun x hx=>hx,fun x hx=>by simp [hx],fun x hx=>hx⟩
theorem LogLe.trans {a b c:Log}(h:LogLe a b) (k:LogLe b c):LogLe a c:=⟨fun x hx=>k.1 x (h.1 x hx),fun x hx=>k.2.1 x (h.2.1 x hx),fun x hx=>k.2.2 x (h.2.2 x hx)⟩
theorem logged_of {t:Bool}{i:Nat}{o:Oper}{S S':St}{l l':Log}(ht:t=true->∀ id ∈ writesOf o (evs S.sl) S.h,S'.h[id]?=S.h[id]?) (hr:readsIn o S=true) (h:LogLe (logOf t i o S S' l) l'):Logged i o S S' l':=by
 unfold logOf at h
 refine ⟨hr,fun hl=>?_,fun hl hq=>?_,fun hl=>⟨t,ht,?_⟩⟩
 ·rw [if_pos hl] at h
  exact h.1 _ (by simp)
 ·rw [if_neg (by rw [hl];simp),if_pos hq] at h
  exact h.2.2 _ (by simp)
 ·rw [if_neg (by rw [hl.1];simp),if_neg (by rw [hl.2];simp)] at h
  exact h.2.1 _ (by simp)
theorem regRun_ok {G:Ctx2}{ops:Array Oper}:∀ (π:List Nat) (S:St) (l:Log) (S':St) (l':Log),(regRun G ops π S l).eval=some (S',l')->LogLe l l'/\Trace G ops l' π S S'
 | [],S,l,S',l',h=>by
  simp only [regRun,Tr.eval,Option.some.injEq,Prod.mk.injEq] at h
  obtain ⟨rfl,rfl⟩:=h
  exact ⟨⟨fun _ h=>h,fun _ h=>h,fun _ h=>h⟩,rfl⟩
 | i::rest,S,l,S',l',h=>by
  simp only [regRun] at h
  split at h
  ·cases h
  ·rename_i o ho
   have run:∀ S0,S0=S->Yes ops o S->((stepLog G i o S0 l).bind fun r=>regRun G ops rest r.1 r.2).eval=some (S',l')->LogLe l l'/\Trace G ops l' (i::rest) S S':=by
    intro S0 hS hy hh
    subst hS
    rw [Tr.eval_bind] at hh
    cases h1:(stepLog G i o S0 l).eval with
    | none=>simp [h1] at hh
    | some r=>
     obtain ⟨S1,l1⟩:=r
     rw [h1] at hh
     simp only [Option.bind_some] at hh
     obtain ⟨hr,hst,t,hte,rfl⟩:=stepLog_some h1
     obtain ⟨hle,htr⟩:=regRun_ok rest S1 _ S' l' hh
     exact ⟨(logOf_le t i o S0 S1 l).trans hle,S1,⟨o,ho,.inl ⟨hy,hst,logged_of hte hr hle⟩⟩,htr⟩
   have skip:∀ S0,S0=S->No ops o S->(regRun G ops rest (skipOp o S0) l).eval=some (S',l')->LogLe l l'/\Trace G ops l' (i::rest) S S':=by
    intro S0 hS hn hh
    subst hS
    obtain ⟨hle,htr⟩:=regRun_ok rest _ l S' l' hh
    exact ⟨hle,_,⟨o,ho,.inr ⟨hn,rfl⟩⟩,htr⟩
   split at h
   ·rename_i hg
    exact run S rfl (by simp [Yes,hg]) h
   ·rename_i g want hg
    split at h
    ·rename_i t ht
     split at h
     ·rename_i b hb
      rw [Tr.eval_ite] at h
      cases b with
      | true=>
       rw [if_pos rfl] at h
       cases want with
       | true=>
        simp only [if_true] at h
        exact run _ (lit_same hb) (by simp only [Yes,hg];exact ⟨t,ht,hb⟩) h
       | false=>
        simp only [Bool.false_eq_true,if_false] at h
        exact skip _ (lit_same hb) (by simp only [No,hg];exact ⟨t,ht,.inl hb⟩) h
      | false=>
       rw [if_neg (by simp)] at h
       cases want with
       | true=>
        simp only [if_true] at h
        exact skip _ (lit_same hb) (by simp only [No,hg];exact ⟨t,ht,.inl hb⟩) h
       | false=>
        simp only [Bool.false_eq_true,if_false] at h
        exact run _ (lit_same hb) (by simp only [Yes,hg];exact ⟨t,ht,hb⟩) h
     ·rename_i vs hb
      exact skip S rfl (by simp only [No,hg];exact ⟨t,ht,.inr ⟨vs,hb⟩⟩) h
     ·cases h
    ·cases h
theorem Trace.states {G:Ctx2}{ops:Array Oper}{l:Log}:∀ {π:List Nat}{S S':St},Trace G ops l π S S'->∃ st:Nat->St,st 0=S/\st π.length=S'/\∀ (p i:Nat),π[p]?=some i->StepAt G ops l i (st p) (st (p+1))
 | [],S,S',h=>⟨fun _=>S,rfl,h.symm,fun p i hi=>by simp at hi⟩
 | i::rest,S,S',h=>by
  obtain ⟨S1,h1,h2⟩:=h
  obtain ⟨st,e0,en,hst⟩:=Trace.states h2
  refine ⟨fun p=>match p with | 0=>S|p+1=>st p,rfl,en,fun p j hj=>?_⟩
  cases p with
  | zero=>
   simp only [List.getElem?_cons_zero,Option.some.injEq] at hj
   subst hj
   show StepAt G ops l i S (st 0)
   rw [e0]
   exact h1
  | succ p=>exact hst p j (by simpa using hj)
end
end Go.Proofs.Ytcpahifgdppkbaa.QAI
