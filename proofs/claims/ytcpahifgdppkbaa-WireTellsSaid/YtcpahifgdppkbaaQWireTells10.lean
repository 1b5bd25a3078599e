/- Lemmas. -/
import Derived.Test.YtcpahifgdppkbaaQWireTells9
set_option linter.unusedVariables false
set_option linter.unusedSimpArgs false
set_option maxRecDepth 100000
namespace Go.Proofs.Ytcpahifgdppkbaa.QAI
section
open Go Go.RowKit Go.ChangeShapes Go.WideShapes Go.ChangeAt
inductive Shq where
 | s (x:Shp)
 | box (ks:List Kd) (e:TypeId) (eks:List Kd)
inductive Inq where
 | s (i:In)
 | box (cs:List Value) (k:Nat) (f:Nat->List Value)
def InqOk:Shq->Inq->Prop
 | .s x,.s i=>InOk x i
 | .box ks _ eks,.box cs k f=>F2 Kd.ok ks cs/\k<=maxLen/\∀ i,F2 Kd.ok eks (f i)
 | _,_=>False
def InqsOk:List Shq->List Inq->Prop
 | [],[]=>True
 | s::ss,i::is=>InqOk s i/\InqsOk ss is
 | _,_=>False
def avQ (id:Nat):Shq->Inq->AV
 | .s x,.s i=>avIn id x i
 | .box _ _ _,.box cs k _=>.agg (ofCells cs++[.sl id 0 k])
 | _,_=>.c .any
def blkQ:Shq->Inq->AHeap
 | .s x,.s i=>blkIn x i
 | .box _ e eks,.box _ k f=>[some ⟨e,false,.row eks.length k f⟩]
 | _,_=>[]
def avsQ:Nat->List Shq->List Inq->List AV
 | id,s::ss,i::is=>avQ id s i::avsQ (id+(blkQ s i).length) ss is
 | _,_,_=>[]
def blksQ:List Shq->List Inq->AHeap
 | s::ss,i::is=>blkQ s i++blksQ ss is
 | _,_=>[]
def boxOk (P:Program) (t:TypeId) (ks:List Kd) (e:TypeId) (eks:List Kd):Bool:=
 match P.underlying t with
 | some (.struct fs)=>match fs.toList.reverse with
  | l::r=>(flatFs P (flatIn P 9) r.reverse 0==some ks)&&l.offset==ks.length&&P.cellsOf l.type==1&&P.cellsOf t==ks.length+1&&sliceIs (P.underlying l.type) e&&flatIn P 9 e==some eks&&eks.length==P.cellsOf e&&decide (0<eks.length)
  | []=>false
 | _=>false
def shqOk (P:Program) (t:TypeId):Shq->Bool
 | .s x=>shpOk P t x
 | .box ks e eks=>P.readableRec t&&decide (t<P.types.size)&&boxOk P t ks e eks
def shqsOk (P:Program):List TypeId->List Shq->Bool
 | [],[]=>true
 | t::ts,s::ss=>shqOk P t s&&shqsOk P ts ss
 | _,_=>false
theorem shqOk_two {P:Program}{t:TypeId}{s:Shq}(h:shqOk P t s=true):P.readableRec t=true/\t<P.types.size:=by
 cases s with
 | s x=>
  have h':shpOk P t x=true:=h
  unfold shpOk at h'
  simp only [Bool.and_eq_true,decide_eq_true_eq] at h'
  exact h'.1
 | box ks e eks=>
  have h':(P.readableRec t&&decide (t<P.types.size)&&boxOk P t ks e eks)=true:=h
  simp only [Bool.and_eq_true,decide_eq_true_eq] at h'
  exact h'.1
section
variable {H:Type}{enc:TypeId × Value->H}{P:Program}{W:World}{base:Nat}
theorem came_slice {t e:TypeId}{ks:List Kd}{fuel:Nat}{cells:List Value}{y:DataW H × List MemPlace}(hu:P.underlying t=some (.slice e)) (hk:flatIn P 9 e=some ks) (hc:ks.length=P.cellsOf e) (hpos:0<ks.length)
  (hf:DataW.trod enc P W 0 (fun _=>true) true fuel t cells=some y) (hlt:∀ x ∈ y.2,x.block<W.heap.size) :
  ∃ (v:Value) (k:Nat) (f:Nat->List Value) (pl:Pl),cells=[v]/\k<=maxLen/\(∀ i,F2 Kd.ok ks (f i))/\Came W.heap.size W (some ⟨e,false,.row ks.length k f⟩) pl/\∀ m0 mr:List Pl,CR (m0++(pl::mr)) (.sl m0.length 0 k) v:=by
 rcases DataW.trod_slice hu hf with ⟨hcs,hx⟩ | ⟨a,len,cap,elems,rest,n,_,hcs,hx,_,hl,hm,hlen,hel,_,_⟩
 ·refine ⟨_,0,fun _=>ks.map Kd.zero,⟨none,0,ks.length⟩,hcs,Nat.zero_le _,fun i=>Kd.zeros_ok ks,⟨_,rfl,rfl,fun m=>?_⟩,fun m0 mr=>?_⟩
  ·exact { sz:=rfl,len:=fun i hi=>absurd hi (Nat.not_lt_zero _),cap:=Nat.le_refl _,cell:=fun i j c hi=>absurd hi (Nat.not_lt_zero _),own:=fun h=>(by cases h),came:=fun _ A h=>(by cases h) }
  ·exact ⟨⟨none,0,ks.length⟩,none,0,by simp,rfl,⟨Nat.le_refl _,fun _=>rfl⟩,fun _=>⟨rfl,rfl⟩,fun h=>absurd h (Nat.lt_irrefl _)⟩
 ·subst hx
  have each:∀ i,i<len->∃ cs,W.cells? 0 (a.add (i*P.cellsOf e)) (P.cellsOf e)=some cs/\F2 Kd.ok ks cs/\∀ j,j<P.cellsOf e->W.cell? ((a.add (i*P.cellsOf e)).add j)=cs[j]?:=by
   intro i hi
   have:=hel i hi
   rw [List.getElem?_eq_getElem (by omega),Option.bind_eq_some_iff] at this
   obtain ⟨cs,hcs,hy⟩:=this
   exact ⟨cs,hcs,(trod_flat 9 e ks hk _ _ _ hy).1,(World.cells?_some hcs).2.2⟩
  let f:Nat->List Value:=fun i=>if i<len then (W.cells? 0 (a.add (i*P.cellsOf e)) (P.cellsOf e)).getD [] else ks.map Kd.zero
  have hfi:∀ i,i<len->F2 Kd.ok ks (f i)/\∀ j,j<P.cellsOf e->W.cell? ((a.add (i*P.cellsOf e)).add j)=(f i)[j]?:=by
   intro i hi
   obtain ⟨cs,h1,h2,h3⟩:=each i hi
   have:f i=cs:=by simp only [f,h1,Option.getD_some,hi,if_true]
   rw [this]
   exact ⟨h2,h3⟩
  have hall:∀ i,F2 Kd.ok ks (f i):=by
   intro i
   by_cases hi:i<len
   ·exact (hfi i hi).1
   ·simp only [f,hi,if_false]
    exact Kd.zeros_ok ks
  have hsp:0<len->a.spot=none:=by
   intro h0
   obtain ⟨h1,h2⟩:=hfi 0 h0
   have h3:=h2 0 (by omega)
   have hl0:(f 0).length=ks.length:=h1.length.symm
   rw [List.getElem?_eq_getElem (by omega)] at h3
   simpa [Addr.add] using World.cell?_spot h3
  refine ⟨_,len,f,⟨some a,cap,ks.length⟩,hcs,Nat.le_trans hl hm,hall,⟨_,rfl,rfl,fun m=>?_⟩,fun m0 mr=>?_⟩
  ·refine { sz:=rfl,len:=fun i hi=>?_,cap:=hl,cell:=?_,own:=fun h=>(by cases h),came:=?_ }
   ·show (ofCells (f i)).length=ks.length
    rw [ofCells,List.length_map]
    exact (hfi i hi).1.length.symm
   ·intro i j c hi hcj
    obtain ⟨h1,h2⟩:=hfi i hi
    have hcj':((f i).map AC.v)[j]?=some c:=hcj
    rw [List.getElem?_map,Option.map_eq_some_iff] at hcj'
    obtain ⟨x,hx,rfl⟩:=hcj'
    have hj:j<P.cellsOf e:=by
     have:=(List.getElem?_eq_some_iff.1 hx).1
     have:=h1.length
     omega
    have h3:=h2 j hj
    have hs0:=hsp (by have:i<len:=hi;omega)
    refine ⟨a,x,rfl,hs0,?_,rfl,?_⟩
    ·obtain ⟨b,off,spot⟩:=a
     simp only at hs0
     subst hs0
     rw [add_plain,add_plain,hx] at h3
     rw [<-h3]
     simp [hc,Nat.add_assoc]
    ·have hj2:j<ks.length:=by omega
     obtain ⟨y,hy,hok⟩:=h1.get j ks[j] (by simp [hj2])
     rw [hx] at hy
     cases hy
     exact Kd.one hok
   ·intro _ A hA hn
    cases hA
    have hn':0<len:=hn
    have:MemPlace.cell a.block a.off ∈ MemPlace.row a ((elems.length+rest.length)*P.cellsOf e):=by
     refine MemPlace.mem_row.2 ⟨0,?_,by simp⟩
     have:0<P.cellsOf e:=by omega
     exact Nat.mul_pos (by omega) this
    exact hlt _ (List.mem_append_left _ this)
  ·refine ⟨⟨some a,cap,ks.length⟩,some a,cap,by simp,rfl,⟨hl,fun e=>nomatch e⟩,fun _=>⟨rfl,rfl⟩,fun hpos'=>?_⟩
   have hs0:=hsp hpos'
   refine ⟨a,rfl,hs0,?_⟩
   obtain ⟨b,off,spot⟩:=a
   simp only at hs0
   subst hs0
   simp
theorem F2_append {α β:Type}{R:α->β->Prop}{a:List α}{b:List β}{c:List α}{d:List β}(h:F2 R a b) (k:F2 R c d):F2 R (a++c) (b++d):=h.append k
theorem came_oneq {t:TypeId}{s:Shq}{v:Value}{d:DataW H}{p:List MemPlace}(hs:shqOk P t s=true) (hval:Value.okWide P W .any base t v) (ht:DataW.Trod enc P W 0 (fun _=>true) true t v d p) (hlt:∀ x ∈ p,x.block<W.heap.size) (hwt:(DataW.weights P t d).all (·<=reachBytes)=true) :
  ∃ (i:Inq) (ml:List Pl),InqOk s i/\F2 (Came W.heap.size W) (blkQ s i) ml/\∀ m0:List Pl,∀ mr,VR (m0++(ml++mr)) (avQ m0.length s i) v:=by
 cases s with
 | s x=>
  obtain ⟨i,ml,h1,h2,h3⟩:=came_one hs hval ht hlt hwt
  exact ⟨.s i,ml,h1,h2,h3⟩
 | box ks e eks=>
  have hs':(P.readableRec t&&decide (t<P.types.size)&&boxOk P t ks e eks)=true:=hs
  rw [Bool.and_eq_true] at hs'
  have hb:=hs'.2
  obtain ⟨fuel,hf⟩:=ht
  unfold boxOk at hb
  split at hb
  ·rename_i fs hu
   split at hb
   ·rename_i l r hr
    simp only [Bool.and_eq_true,beq_iff_eq,decide_eq_true_eq] at hb
    obtain ⟨⟨⟨⟨⟨⟨⟨b1,b2⟩,b3⟩,b4⟩,b5⟩,b6⟩,b7⟩,b8⟩:=hb
    have hfs:fs.toList=r.reverse++[l]:=by
     have:=congrArg List.reverse hr
     simpa using this
    obtain ⟨cs,rfl,_⟩:=okWide_struct hu hval
    have hf':DataW.trod enc P W 0 (fun _=>true) true fuel t cs.toList=some (d,p):=hf
    obtain ⟨xs,n,_,hx,hlen,hxs,hfi⟩:=DataW.trod_struct hu hf'
    have hsz:fs.size=r.length+1:=by
     have:=congrArg List.length hfs
     simpa using this
    have each:∀ i,i<fs.size->∃ f y,fs.toList[i]?=some f/\xs[i]?=some y/\DataW.trod enc P W 0 (fun _=>true) true n f.type ((cs.toList.drop f.offset).take (P.cellsOf f.type))=some y:=by
     intro i hi
     have h1:fs.toList[i]?=some fs.toList[i]:=by simp [hi]
     have h2:=hfi i fs.toList[i] (by rw [<-Array.getElem?_toList];exact h1)
     have hix:i<xs.length:=by omega
     rw [List.getElem?_eq_getElem hix] at h2
     exact ⟨_,_,h1,List.getElem?_eq_getElem hix,h2⟩
    have hfirst:=flatFs_ok (cs:=cs.toList) (w:=W) (base:=0) (spare:=fun _=>true) (held:=true) (enc:=enc) (n:=n) (fun t a ha cs x=>trod_flat 9 t a ha n cs x) b1 fun f hf2=>by
     obtain ⟨i,hi,rfl⟩:=List.getElem_of_mem hf2
     have hi':i<r.length:=by simpa using hi
     obtain ⟨f,y,g1,_,g3⟩:=each i (by omega)
     rw [hfs,List.getElem?_append_left hi,List.getElem?_eq_getElem hi] at g1
     cases g1
     exact ⟨y,g3⟩
    rw [List.drop_zero] at hfirst
    obtain ⟨f,y,g1,g2,g3⟩:=each r.length (by omega)
    rw [hfs,List.getElem?_append_right (by simp)] at g1
    simp at g1
    subst g1
    have hy:y ∈ xs:=List.mem_of_getElem? g2
    have hp:∀ x ∈ y.2,x.block<W.heap.size:=fun x hx2=>hlt x (by
     have:p=xs.flatMap (·.2):=congrArg Prod.snd hx
     rw [this,List.mem_flatMap]
     exact ⟨y,hy,hx2⟩)
    obtain ⟨v,k,f,pl,c1,c2,c3,c4,c5⟩:=came_slice (sliceIs_ok b5) b6 b7 b8 g3 hp
    rw [b2,b3] at c1
    have hcs:cs.toList=cs.toList.take ks.length++[v]:=by
     have h1:=List.take_append_drop ks.length cs.toList
     have h2:(cs.toList.drop ks.length).length=1:=by rw [List.length_drop,hlen,b4];omega
     rw [List.take_of_length_le (by omega)] at c1
     rw [c1] at h1
     exact h1.symm
    refine ⟨.box (cs.toList.take ks.length) k f,[pl],⟨hfirst,c2,c3⟩,.cons c4 .nil,fun m0 mr=>⟨cs,rfl,?_⟩⟩
    rw [hcs]
    exact F2_append (by rw [List.take_left' (by rw [List.length_take,hlen,b4];omega)];exact F2_ofCells _ _) (.cons (c5 m0 mr) .nil)
   ·cases hb
  ·cases hb
theorem came_allq:∀ {ts:List TypeId}{ss:List Shq}{vs:List Value}{ds:List (DataW H)}{p:List MemPlace},shqsOk P ts ss=true->(∀ (j:Nat) t v,ts[j]?=some t->vs[j]?=some v->Value.okWide P W .any base t v) →
  DataW.TrodAll enc P W 0 (fun _=>true) true ts vs ds p->(∀ x ∈ p,x.block<W.heap.size)->(DataW.weightsEach P ts ds).all (·<=reachBytes)=true →
  ∃ (is:List Inq) (ml:List Pl),InqsOk ss is/\F2 (Came W.heap.size W) (blksQ ss is) ml/\∀ m0:List Pl,∀ mr,VRs (m0++(ml++mr)) (avsQ m0.length ss is) vs
 | [],[],vs,ds,p,_,_,h,_,_=>by
  obtain ⟨h1,rfl,rfl⟩:=trodAll_nil h
  have:vs=[]:=by simpa using h1
  subst this
  exact ⟨[],[],trivial,.nil,fun _ _=>trivial⟩
 | [],_::_,_,_,_,hs,_,_,_,_=>by cases hs
 | _::_,[],_,_,_,hs,_,_,_,_=>by cases hs
 | t::ts,s::ss,vs,ds,p,hs,hval,h,hlt,hwt=>by
  simp only [shqsOk,Bool.and_eq_true] at hs
  obtain ⟨v,vs',d,ds',p1,p2,rfl,rfl,rfl,h1,h2⟩:=trodAll_cons h
  simp only [DataW.weightsEach,List.all_append,Bool.and_eq_true] at hwt
  obtain ⟨i,ml,a1,a2,a3⟩:=came_oneq hs.1 (hval 0 t v rfl rfl) h1 (fun x hx=>hlt x (List.mem_append_left _ hx)) hwt.1
  obtain ⟨is,ml',b1,b2,b3⟩:=came_allq hs.2 (fun j t' v' ht' hv'=>hval (j+1) t' v' (by simpa using ht') (by simpa using hv')) h2 (fun x hx=>hlt x (List.mem_append_right _ hx)) hwt.2
  refine ⟨i::is,ml++ml',⟨a1,b1⟩,a2.append b2,fun m0 mr=>?_⟩
  have e1:=a3 m0 (ml'++mr)
  have e2:=b3 (m0++ml) mr
  rw [List.length_append,<-a2.length] at e2
  simp only [avsQ]
  refine ⟨?_,?_⟩
  ·simpa [List.append_assoc] using e1
  ·simpa [List.append_assoc] using e2
theorem Below.trodAllq {W':World}(hl:laidOutB P=true):∀ {ts:List TypeId}{ss:List Shq}{vs:List Value}{ds:List (DataW H)}{p:List MemPlace},shqsOk P ts ss=true →
  DataW.TrodAll enc P W 0 (fun _=>true) true ts vs ds p->(∀ x ∈ p,x.block<W.heap.size)->Below W.heap.size W W'->DataW.TrodAll enc P W' 0 (fun b=>decide (b<W.heap.size)) true ts vs ds p
 | [],[],vs,ds,p,_,h,_,_=>by
  obtain ⟨h1,rfl,rfl⟩:=trodAll_nil h
  have:vs=[]:=by simpa using h1
  subst this
  exact trodAll_mk0
 | [],_::_,_,_,_,hs,_,_,_=>by cases hs
 | _::_,[],_,_,_,hs,_,_,_=>by cases hs
 | t::ts,s::ss,vs,ds,p,hs,h,hlt,hb=>by
  simp only [shqsOk,Bool.and_eq_true] at hs
  obtain ⟨v,vs',d,ds',p1,p2,rfl,rfl,rfl,h1,h2⟩:=trodAll_cons h
  have hso:=shqOk_two hs.1
  exact trodAll_cons_mk (Below.trod hl hso.1 hso.2 h1 hb fun x hx=>hlt x (List.mem_append_left _ hx)) (Below.trodAllq hl hs.2 h2 (fun x hx=>hlt x (List.mem_append_right _ hx)) hb)
end
theorem law_callsQ {H:Type}{enc:TypeId × Value->H}{W:World}{base:Nat}{K:Known}(hK:KnownOk K) {f:Nat}{fn:Func}(hf:Try.prog.funcs[f]?=some fn) {ts:List TypeId}{ss:List Shq}{args:Array Value}{ds:List (DataW H)}{p:List MemPlace}(hs:shqsOk Try.prog ts ss=true)
  (hval:∀ (j:Nat) t v,ts[j]?=some t->args.toList[j]?=some v->Value.okWide Try.prog W .any base t v) (hA:DataW.TrodAll enc Try.prog W 0 (fun _=>true) true ts args.toList ds p) (hlt:∀ x ∈ p,x.block<W.heap.size) (hwt:(DataW.weightsEach Try.prog ts ds).all (·<=reachBytes)=true)
  (he:∀ is,InqsOk ss is->∃ keep tm d ℓ,LoopsSem (GT K keep 0 tm) (blksQ ss is).length ℓ/\(lfun (GT K keep 0 tm) ℓ d fn (avsQ 0 ss is) (blksQ ss is)).eval=some (Bo true,blksQ ss is)) :
  Calls Try.prog f args W fun e w'=>e=.returned (.bool true)/\Below W.heap.size W w':=by
 obtain ⟨is,ml,h1,h2,h3⟩:=came_allq hs hval hA hlt hwt
 obtain ⟨hH,ho⟩:=came_hr h2
 have hv:VRs ml (avsQ 0 ss is) args.toList:=by simpa using h3 [] []
 have he':(trueS K fn (avsQ 0 ss is) (blksQ ss is)).eval=some (Bo true,blksQ ss is):=Tr.eval_ask.2 ⟨he is h1,rfl⟩
 refine (trueS_ok hK hf _ _ _ _ _ he' ml W args hH (Nat.le_refl _) hv).mono fun e w' h=>?_
 obtain ⟨m',x,rfl,hst,hr⟩:=h
 have:x=.bool true:=hr
 subst this
 refine ⟨rfl,hst.fr.below fun k _=>?_⟩
 rintro ⟨id,b,p,A,hb,hown,_⟩
 rw [ho id b hb] at hown
 cases hown
end
section
open Go Go.RowKit Go.ChangeShapes Go.WideShapes Go.ChangeAt
theorem ins_reply {ss:List Shp}{is:List In}(h:InsOk (.agg [.int .i64,.int .i64,.int .i64,.int .i64,.int .i64,.int .i64,.int .i64,.int .i64,.int .i64,.int .i64]::ss) is):∃ (r:Rd) (is':List In),is=.agg [.int .i64 r.k,.int .i64 r.e,.int .i64 r.a,.int .i64 r.n,.int .i64 r.p,.int .i64 r.t,.int .i64 r.x,.int .i64 r.y,.int .i64 r.w,.int .i64 r.h]::is'/\InsOk ss is':=by
 obtain ⟨i,is',rfl,h1,h2⟩:=ins_cons h
 cases i with
 | agg cs=>
  have h1':F2 Kd.ok [.int .i64,.int .i64,.int .i64,.int .i64,.int .i64,.int .i64,.int .i64,.int .i64,.int .i64,.int .i64] cs:=h1
  cases h1' with
  | cons p1 h1'=>cases h1' with
   | cons p2 h1'=>cases h1' with
    | cons p3 h1'=>cases h1' with
     | cons p4 h1'=>cases h1' with
      | cons p5 h1'=>cases h1' with
       | cons p6 h1'=>cases h1' with
        | cons p7 h1'=>cases h1' with
         | cons p8 h1'=>cases h1' with
          | cons p9 h1'=>cases h1' with
           | cons p10 h1'=>cases h1' with
            | nil=>
             obtain ⟨a1,rfl,_⟩:=p1
             obtain ⟨a2,rfl,_⟩:=p2
             obtain ⟨a3,rfl,_⟩:=p3
             obtain ⟨a4,rfl,_⟩:=p4
             obtain ⟨a5,rfl,_⟩:=p5
             obtain ⟨a6,rfl,_⟩:=p6
             obtain ⟨a7,rfl,_⟩:=p7
             obtain ⟨a8,rfl,_⟩:=p8
             obtain ⟨a9,rfl,_⟩:=p9
             obtain ⟨a10,rfl,_⟩:=p10
             exact ⟨⟨a1,a2,a3,a4,a5,a6,a7,a8,a9,a10⟩,is',rfl,h2⟩
 | _=>cases h1
theorem ins_u8 {ss:List Shp}{is:List In}(h:InsOk (.one (.int .u8)::ss) is):∃ (a:Int) (is':List In),is=.one (.int .u8 a)::is'/\InsOk ss is'/\0<=a/\a<256:=by
 obtain ⟨i,is',rfl,h1,h2⟩:=ins_cons h
 cases i with
 | one v=>
  obtain ⟨⟨a,rfl,hw⟩,_⟩:=h1
  refine ⟨a,is',rfl,h2,?_⟩
  simp only [Lit.wf,Bool.and_eq_true,decide_eq_true_eq] at hw
  have e1:IntKind.u8.min=0:=by decide
  have e2:IntKind.u8.max=255:=by decide
  omega
 | _=>cases h1
end
section
open Go Go.RowKit Go.ChangeShapes Go.WideShapes Go.ChangeAt
theorem inq_cons {s:Shq}{ss:List Shq}{is:List Inq}(h:InqsOk (s::ss) is):∃ i is',is=i::is'/\InqOk s i/\InqsOk ss is':=by
 cases is with
 | nil=>cases h
 | cons i is=>exact ⟨i,is,rfl,h.1,h.2⟩
theorem inq_nil {is:List Inq}(h:InqsOk [] is):is=[]:=by
 cases is with
 | nil=>rfl
 | cons i is=>cases h
theorem inq_s {x:Shp}{ss:List Shq}{is:List Inq}(h:InqsOk (.s x::ss) is):∃ i is',is=.s i::is'/\InsOk [x] [i]/\InqsOk ss is':=by
 obtain ⟨i,is',rfl,h1,h2⟩:=inq_cons h
 cases i with
 | s i=>exact ⟨i,is',rfl,⟨h1,trivial⟩,h2⟩
 | box cs k f=>cases h1
theorem inq_query {ss:List Shq}{is:List Inq}(h:InqsOk (.box [.int .i64,.int .i64,.int .i64,.int .i64,.int .i64,.int .i64] 121 [.int .i64,.int .i64,.int .i64,.int .i64,.str]::ss) is) :
  ∃ (q:Qd) (m:Nat) (P:Nat->Opp) (is':List Inq),is=.box [.int .i64 q.k,.int .i64 q.n,.int .i64 q.p,.int .i64 q.t,.int .i64 q.x,.int .i64 q.y] m (fun j=>encO (P j))::is'/\InqsOk ss is':=by
 obtain ⟨i,is',rfl,h1,h2⟩:=inq_cons h
 cases i with
 | s i=>cases h1
 | box cs k f=>
  obtain ⟨h3,_,h4⟩:F2 Kd.ok [.int .i64,.int .i64,.int .i64,.int .i64,.int .i64,.int .i64] cs/\k<=maxLen/\∀ i,F2 Kd.ok [.int .i64,.int .i64,.int .i64,.int .i64,.str] (f i):=h1
  have hf:∀ i,∃ o:Opp,f i=encO o:=fun i=>by
   have h5:=h4 i
   revert h5
   generalize f i=L
   intro h5
   cases h5 with
   | cons p1 h5=>cases h5 with
    | cons p2 h5=>cases h5 with
     | cons p3 h5=>cases h5 with
      | cons p4 h5=>cases h5 with
       | cons p5 h5=>cases h5 with
        | nil=>
         obtain ⟨a1,rfl,_⟩:=p1
         obtain ⟨a2,rfl,_⟩:=p2
         obtain ⟨a3,rfl,_⟩:=p3
         obtain ⟨a4,rfl,_⟩:=p4
         obtain ⟨s,rfl,_⟩:=p5
         exact ⟨⟨a1,a2,a3,a4,s⟩,rfl⟩
  have ef:f=fun j=>encO (hf j).choose:=funext fun j=>(hf j).choose_spec
  cases h3 with
  | cons p1 h3=>cases h3 with
   | cons p2 h3=>cases h3 with
    | cons p3 h3=>cases h3 with
     | cons p4 h3=>cases h3 with
      | cons p5 h3=>cases h3 with
       | cons p6 h3=>cases h3 with
        | nil=>
         obtain ⟨a1,rfl,_⟩:=p1
         obtain ⟨a2,rfl,_⟩:=p2
         obtain ⟨a3,rfl,_⟩:=p3
         obtain ⟨a4,rfl,_⟩:=p4
         obtain ⟨a5,rfl,_⟩:=p5
         obtain ⟨a6,rfl,_⟩:=p6
         exact ⟨⟨a1,a2,a3,a4,a5,a6,[]⟩,k,fun j=>(hf j).choose,is',by rw [<-ef],h2⟩
theorem ins_bytes {e:TypeId}{ss:List Shp}{is:List In}(h:InsOk (.rows e [.int .u8]::ss) is):∃ (k:Nat) (B:Nat->Int) (is':List In),is=.rows k (fun j=>ub (B j))::is'/\InsOk ss is'/\rng B:=by
 obtain ⟨i,is',rfl,h1,h2⟩:=ins_cons h
 cases i with
 | rows k f=>
  obtain ⟨_,h1⟩:=h1
  have:∀ i,∃ a:Int,f i=ub a/\0<=a/\a<256:=fun i=>by
   have h5:=h1 i
   revert h5
   generalize f i=L
   intro h5
   cases h5 with
   | cons p1 h5=>cases h5 with
    | nil=>
     obtain ⟨a,rfl,hw⟩:=p1
     refine ⟨a,rfl,?_⟩
     simp only [Lit.wf,Bool.and_eq_true,decide_eq_true_eq] at hw
     have e1:IntKind.u8.min=0:=by decide
     have e2:IntKind.u8.max=255:=by decide
     omega
  refine ⟨k,fun i=>(this i).choose,is',?_,h2,fun i=>(this i).choose_spec.2⟩
  congr 2
  funext i
  exact (this i).choose_spec.1
 | _=>cases h1
def wireTellsS:List Shq:=[.box [.int .i64,.int .i64,.int .i64,.int .i64,.int .i64,.int .i64] 121 [.int .i64,.int .i64,.int .i64,.int .i64,.str],.s (.agg [.int .i64,.int .i64,.int .i64,.int .i64,.int .i64,.int .i64,.int .i64,.int .i64,.int .i64,.int .i64]),.s (.rows 5 [.int .u8]),.s (.one (.int .i64)),.s (.rows 2 [.int .i64]),.s (.one (.int .i64)),.s (.one (.int .u8))]
theorem wireTells_core:∀ is,InqsOk wireTellsS is->∃ keep tm d ℓ,LoopsSem (GT KTE keep 0 tm) (blksQ wireTellsS is).length ℓ/\(lfun (GT KTE keep 0 tm) ℓ d Try.f38 (avsQ 0 wireTellsS is) (blksQ wireTellsS is)).eval=some (Bo true,blksQ wireTellsS is):=by
 intro is0 h0
 obtain ⟨q,m,P,is1,rfl,h1⟩:=inq_query h0
 obtain ⟨i2,is2,rfl,g2,h2⟩:=inq_s h1
 obtain ⟨a,_,e2,_⟩:=ins_reply g2
 cases e2
 obtain ⟨i3,is3,rfl,g3,h3⟩:=inq_s h2
 obtain ⟨r,B,_,e3,_,hB⟩:=ins_bytes g3
 cases e3
 obtain ⟨i4,is4,rfl,g4,h4⟩:=inq_s h3
 obtain ⟨n,_,e4,_⟩:=ins_i64 g4
 cases e4
 obtain ⟨i5,is5,rfl,g5,h5⟩:=inq_s h4
 obtain ⟨K,f,_,e5,_⟩:=ins_ints g5
 cases e5
 obtain ⟨i6,is6,rfl,g6,h6⟩:=inq_s h5
 obtain ⟨w,_,e6,_⟩:=ins_i64 g6
 cases e6
 obtain ⟨i7,is7,rfl,g7,h7⟩:=inq_s h6
 obtain ⟨y,_,e7,_⟩:=ins_u8 g7
 cases e7
 obtain rfl:=inq_nil h7
 exact wireTells_true q m P a r B n w y K f hB
end
end Go.Proofs.Ytcpahifgdppkbaa.QAI
