/- Lemmas. -/
import Derived.Calls
import Derived.Orders
import Derived.Below
import Derived.Laws.StructEq
import Derived.DeepKeys3
import Derived.Laws.BytesArg
import Derived.Laws.Tables
import Derived.Laws.MakeOwn
set_option linter.unusedVariables false
set_option linter.unusedSimpArgs false
set_option maxRecDepth 100000
namespace Go.Proofs.Ytcpahifgdppkbaa.QAI
def dN : Nat → Nat → List Bool
  | 0, _ => []
  | k + 1, n => (n % 2 == 1) :: dN k (n / 2)
section
open Go
inductive AC where
 | any
 | v (x:Value)
 | ptr (id i j:Nat)
 | sl (id i n:Nat)
 deriving Inhabited
inductive AV where
 | c (x:AC)
 | agg (l:List AC)
 | arr (n:Nat) (f:Nat->Value)
 | tup (l:List AV)
instance:Inhabited AV:=⟨.c .any⟩
inductive Cont where
 | one (l:List AC)
 | row (sz n:Nat) (f:Nat->List Value)
 | lst (sz:Nat) (l:List (List AC)) (z:List AC)
structure ABlk where
 t:TypeId
 own:Bool
 c:Cont
abbrev AHeap:=List (Option ABlk)
structure TI where
 t:TypeId
 u:TypeDesc
 size:Nat
 bytes:Nat
 zero:List Value
 agg:Bool
 flat:Bool
 shape:Option (Nat × Nat)
def ofCells (l:List Value):List AC:=l.map AC.v
def Cont.n:Cont->Nat
 | .one _=>1
 | .row _ n _=>n
 | .lst _ l _=>l.length
def Cont.sz:Cont->Nat
 | .one l=>l.length
 | .row sz _ _=>sz
 | .lst sz _ _=>sz
def Cont.el:Cont->Nat->List AC
 | .one l=>fun _=>l
 | .row _ _ f=>fun i=>ofCells (f i)
 | .lst _ l z=>fun i=>l.getD i z
inductive Tr (α:Type) where
 | ret (a:α)
 | ite (b:Bool) (t e:Tr α)
 | fail
def Tr.bind {α β:Type}:Tr α->(α->Tr β)->Tr β
 | .ret a,f=>f a
 | .ite b t e,f=>.ite b (t.bind f) (e.bind f)
 | .fail,_=>.fail
def Tr.eval {α:Type}:Tr α->Option α
 | .ret a=>some a
 | .ite b t e=>cond b t.eval e.eval
 | .fail=>none
def Tr.need {α:Type}(b:Bool) (t:Tr α):Tr α:=.ite b t .fail
def Tr.opt {α:Type}:Option α->Tr α
 | some a=>.ret a
 | none=>.fail
structure St where
 sl:List AV
 h:AHeap
def lookT (T:List TI) (t:TypeId):Option TI:=T.find? (fun i=>i.t==t)
def ofConst:Value->AV
 | .agg cs=>.agg (ofCells cs.toList)
 | x=>.c (.v x)
def evs (sl:List AV):Operand->AV
 | .tmp t=>sl.getD t (.c .any)
 | .const x=>ofConst x
 | .global g=>.c (.v (.pointer (some ⟨g,0,none⟩)))
 | .func f=>.c (.v (.func (.func f) #[] #[]))
def pureRun (P:Program) {α:Type}:Sem α->Option α
 | .pure a=>some a
 | .program k=>pureRun P (k P)
 | _=>none
def scal:AV->Option Value
 | .c (.v x)=>some x
 | _=>none
def isInt:AV->Option (IntKind × Int)
 | .c (.v (.int k n))=>some (k,n)
 | _=>none
def oneV:Value->Bool
 | .agg _=>false
 | .tuple _=>false
 | _=>true
def acOk:AC->Bool
 | .any=>false
 | .v x=>oneV x
 | _=>true
def cellsOf:AV->Option (List AC)
 | .c x=>if acOk x then some [x] else none
 | .agg l=>if l.all acOk then some l else none
 | _=>none
def AHeap.at (h:AHeap) (id:Nat):Option ABlk:=(h[id]?).join
def cut (i:TI) (l:List AC) (j:Nat):Option AV:=
 if i.agg then (if (l.drop j).length<i.size then none else some (.agg ((l.drop j).take i.size)))
 else (l[j]?).map AV.c
def aload0 (T:List TI) (h:AHeap) (t:TypeId):AV->Tr AV
 | .c (.ptr id i j)=>
  match lookT T t,h.at id with
  | some ti,some b=>
   match b.c,ti.shape with
   | .row 1 n f,some (m,1)=>if i=0/\j=0 then .need (decide (n=m)) (.ret (.arr n fun k=>(f k).headD undef)) else .fail
   | .one l,_=>if i=0 then .opt (cut ti l j) else .fail
   | c,_=>.need (decide (i<c.n)) (.opt (cut ti (c.el i) j))
  | _,_=>.fail
 | _=>.fail
def strsOf:List (List AC)->Option (List ByteArray)
 | []=>some []
 | [.v (.string s)]::l=>(strsOf l).map (s::·)
 | _=>none
def intsOf (k:IntKind):List (List AC)->Option (List Int)
 | []=>some []
 | [.v (.int k' a)]::l=>if k'=k then (intsOf k l).map (a::·) else none
 | _=>none
def tblOf:List (List AC)->Option (Nat->Value)
 | [.v (.string s)]::x::l=>(strsOf ([.v (.string s)]::x::l)).map fun ss i=>.string (ss.getD i ⟨#[]⟩)
 | [.v (.int k a)]::x::l=>(intsOf k ([.v (.int k a)]::x::l)).map fun xs i=>.int k (xs.getD i 0)
 | _=>none
def tblIn (T:List TI) (h:AHeap) (t:TypeId) (id:Nat):Option (Nat × (Nat->Value)):=
 match lookT T t,h.at id with
 | some ti,some ⟨_,_,.lst 1 l _⟩=>if ti.agg then none else (tblOf l).map fun f=>(l.length,f)
 | _,_=>none
def pickL (ti:TI) (i:Nat):List (List AC)->Nat->Tr AV
 | [],_=>.fail
 | x::l,k=>.ite (decide (i=k)) (.opt (cut ti x 0)) (pickL ti i l (k+1))
def isSl:AC->Bool
 | .sl _ _ _=>true
 | _=>false
def pickIn (T:List TI) (h:AHeap) (t:TypeId) (id:Nat):Option (TI × List (List AC)):=
 match lookT T t,h.at id with
 | some ti,some ⟨_,_,.lst _ (x::y::l) _⟩=>if ti.agg&&(x::y::l).any (fun c=>c.any isSl) then some (ti,x::y::l) else none
 | _,_=>none
def aload (T:List TI) (h:AHeap) (t:TypeId) (x:AV):Tr AV:=
 match x with
 | .c (.ptr id i 0)=>match tblIn T h t id with
  | some (n,f)=>.need (decide (i<n)) (.ret (.c (.v (f i))))
  | none=>match pickIn T h t id with
   | some (ti,l)=>pickL ti i l 0
   | none=>aload0 T h t x
 | _=>aload0 T h t x
def bt (s:ByteArray) (i:Int):Int:=((s.data.toList.getD i.toNat 0).toNat:Int)
def fieldOf (T:List TI) (t:TypeId) (k:Nat):Option Field:=
 match lookT T t with
 | some ⟨_,.struct fs,_,_,_,_,_,_⟩=>fs.toList[k]?
 | _=>none
def apure (P:Program) (o:Oper) (ρ:Operand->AV):Tr AV:=
 if o.op.operands.toList.all fun x=>(scal (ρ x)).isSome then
  match pureRun P (execOp (fun x=>((scal (ρ x)).getD undef)) o) with
  | some (.value v)=>.ret (ofConst v)
  | _=>.fail
 else .fail
def ceq:AC->AC->Option Bool
 | .v (.int k a),.v (.int k' b)=>if k=k' then some (a==b) else none
 | .v (.bool a),.v (.bool b)=>some (a==b)
 | .v (.string a),.v (.string b)=>some (a==b)
 | _,_=>none
def kindAC:AC->Nat
 | .v (.int _ _)=>1
 | .v (.bool _)=>2
 | .v (.string _)=>3
 | _=>0
def ceqs:List AC->List AC->Option Bool
 | [],[]=>some true
 | a::as,b::bs=>match ceq a b,ceqs as bs with
  | some x,some y=>some (x&&y)
  | _,_=>none
 | _,_=>none
def decInt (a b:Int) (n:Nat):Bool:=decide (0<=a)&&decide (a<=b)&&decide (b<=(n:Int))
structure Ctx where
 P:Program
 T:List TI
 eqs:List (TypeId × List Nat)
def fills (z:List AC):List (Nat × List AC)->Option (List AC)
 | []=>some z
 | (off,l)::rest=>if off+l.length<=z.length then fills (z.take off++l++z.drop (off+l.length)) rest else none
def partsAt (T:List TI) (fs:List Field):List (Nat × AV)->Option (List (Nat × List AC))
 | []=>some []
 | (k,x)::rest=>
  match fs[k]?,cellsOf x,partsAt T fs rest with
  | some f,some l,some r=>
   match lookT T f.type with
   | some ti=>if l.length=ti.size then some ((f.offset,l)::r) else none
   | none=>none
  | _,_,_=>none
def valOf:AC->Option Value
 | .v x=>some x
 | _=>none
def valsOf:List AC->Option (List Value)
 | []=>some []
 | a::l=>match valOf a,valsOf l with
  | some x,some r=>some (x::r)
  | _,_=>none
def valss:List (List AC)->Option (List (List Value))
 | []=>some []
 | a::l=>match valsOf a,valss l with
  | some x,some r=>some (x::r)
  | _,_=>none
def partsA (s:Nat):List (Nat × AV)->Option (List (Nat × List AC))
 | []=>some []
 | (k,x)::rest=>
  match cellsOf x,partsA s rest with
  | some l,some r=>if l.length=s then some ((k*s,l)::r) else none
  | _,_=>none
def isU8:List Value->Bool
 | [.int .u8 _]=>true
 | _=>false
def u8Of:List Value->UInt8
 | [.int _ x]=>UInt8.ofNat x.toNat
 | _=>0
def allB (n:Nat) (p:Nat->Bool):Bool:=(List.range n).all p
def bytesOf (f:Nat->List Value) (i n:Nat):ByteArray:=⟨((List.range n).map fun k=>u8Of (f (i+k))).toArray⟩
def valRow (c:Cont):Option (Nat × (Nat->List Value)):=
 match c with
 | .row 1 n f=>some (n,f)
 | .lst 1 l _=>(valss l).map fun vs=>(l.length,fun i=>vs.getD i [])
 | _=>none
def alight (G:Ctx) (o:Oper) (ρ:Operand->AV) (h:AHeap):Tr AV:=
 match o.op with
 | .move x | .assign x=>.ret (ρ x)
 | .pick c a b=>
  match ρ c with
  | .c (.v (.bool t))=>.ite t (.ret (ρ a)) (.ret (ρ b))
  | _=>.fail
 | .load t a=>aload G.T h t (ρ a)
 | .nilCheck x=>
  match ρ x with
  | .c (.ptr id i j)=>.ret (.c (.ptr id i j))
  | _=>apure G.P o ρ
 | .fieldAddr s x k=>
  match ρ x,fieldOf G.T s k with
  | .c (.ptr id i j),some f=>match lookT G.T f.type with
   | some _=>.ret (.c (.ptr id i (j+f.offset)))
   | none=>.fail
  | _,_=>.fail
 | .field t x k=>
  match ρ x,fieldOf G.T t k with
  | .agg l,some f=>match lookT G.T f.type with
   | some ti=>.opt (cut ti l f.offset)
   | none=>.fail
  | _,_=>.fail
 | .indexAddr t x ix=>
  match lookT G.T t,ρ x,isInt (ρ ix) with
  | some ⟨_,.slice e,_,_,_,_,_,_⟩,.c (.sl id i n),some (_,k)=>
   match lookT G.T e,h.at id with
   | some ti,some b=>if b.c.sz=ti.size then .need (decide (0<=k)) (.need (decide (k<(n:Int))) (.ret (.c (.ptr id (i+k.toNat) 0)))) else .fail
   | _,_=>.fail
  | some ⟨_,.array m e,_,_,_,_,_,_⟩,.c (.ptr id i j),some (_,k)=>
   match lookT G.T e,h.at id with
   | some ti,some b=>.need (decide (0<=k)) (.need (decide (k<(m:Int))) (match b.c with
    | .row sz n _=>if sz=ti.size/\i=0/\j=0 then .ret (.c (.ptr id k.toNat 0)) else .fail
    | .one _=>.ret (.c (.ptr id i (j+k.toNat*ti.size)))
    | _=>.fail))
   | _,_=>.fail
  | _,_,_=>.fail
 | .index t x ix=>
  match lookT G.T t,ρ x,isInt (ρ ix) with
  | some ⟨_,.string,_,_,_,_,_,_⟩,.c (.v (.string s)),some (_,k)=>
   .need (decide (0<=k)) (.need (decide (k<(s.size:Int))) (.ret (.c (.v (.int .u8 (bt s k))))))
  | some ⟨_,.array m e,_,_,_,_,_,_⟩,.arr n f,some (_,k)=>
   match lookT G.T e with
   | some ti=>if ti.size=1/\ti.agg=false/\n=m then .need (decide (0<=k)) (.need (decide (k<(m:Int))) (.ret (.c (.v (f k.toNat))))) else .fail
   | none=>.fail
  | _,_,_=>.fail
 | .slice t x lo hi mx=>
  match mx,lookT G.T t,ρ x with
  | none,some ⟨_,.string,_,_,_,_,_,_⟩,.c (.v (.string s))=>
   match (match lo with|some x=>isInt (ρ x)|none=>some (.i64,0)),(match hi with|some x=>isInt (ρ x)|none=>some (.i64,(s.size:Int))) with
   | some (_,a),some (_,b)=>.need (decInt a b s.size) (.ret (.c (.v (.string (s.extract a.toNat b.toNat)))))
   | _,_=>.fail
  | none,some ⟨_,.slice e,_,_,_,_,_,_⟩,.c (.sl id i n)=>
   match lookT G.T e,h.at id with
   | some ti,some bb=>if bb.c.sz=ti.size then (match (match lo with|some x=>isInt (ρ x)|none=>some (.i64,0)),(match hi with|some x=>isInt (ρ x)|none=>some (.i64,(n:Int))) with
   | some (_,a),some (_,b)=>.need (decInt a b n) (.ret (.c (.sl id (i+a.toNat) (b.toNat-a.toNat))))
   | _,_=>.fail) else .fail
   | _,_=>.fail
  | _,_,_=>.fail
 | .extract x k=>
  match ρ x with
  | .tup l=>.opt l[k]?
  | _=>.fail
 | .build t ps=>
  match lookT G.T t with
  | some ⟨_,.struct fs,_,_,zero,_,_,sh⟩=>
   match partsAt G.T fs.toList (ps.toList.map fun p=>(p.1,ρ p.2)) with
   | some []=>match sh with
    | some (n,_)=>.ret (.arr n fun _=>zero.headD undef)
    | none=>.opt ((fills (ofCells zero) []).map AV.agg)
   | some l=>.opt ((fills (ofCells zero) l).map AV.agg)
   | none=>.fail
  | some ⟨_,.array _ e,_,_,zero,_,_,some (n,_)⟩=>
   match ps.toList,lookT G.T e with
   | [],some _=>.ret (.arr n fun _=>zero.headD undef)
   | _,some te=>match partsA te.size (ps.toList.map fun p=>(p.1,ρ p.2)) with
    | some l=>.opt (((fills (ofCells zero) l).bind valsOf).map fun vs=>AV.arr n fun i=>vs.getD i undef)
    | none=>.fail
   | _,_=>.fail
  | _=>.fail
 | .binOp op t x y _=>
  match op,ρ x,ρ y with
  | .eql,.agg a,.agg b=>if G.eqs.contains (t,a.map kindAC) then .opt ((ceqs a b).map fun r=>.c (.v (.bool r))) else .fail
  | .neq,.agg a,.agg b=>if G.eqs.contains (t,a.map kindAC) then .opt ((ceqs a b).map fun r=>.c (.v (.bool !r))) else .fail
  | .rem,.c (.v (.int k a)),.c (.v (.int k' b))=>if k=k' then .need (decide (b ≠ 0)) (.ret (.c (.v (.int k (a.tmod b))))) else .fail
  | .quo,.c (.v (.int k a)),.c (.v (.int k' b))=>if k=k' then .need (decide (b ≠ 0)) (.ret (.c (.v (.int k (k.wrap (a.tdiv b)))))) else .fail
  | .shl,.c (.v (.int k a)),.c (.v (.int _ b))=>.need (decide (0<=b)) (.ret (.c (.v (.int k (k.wrap (a*2^(min b.toNat k.bits)))))))
  | .shr,.c (.v (.int k a)),.c (.v (.int _ b))=>.need (decide (0<=b)) (.ret (.c (.v (.int k (a.fdiv (2^(min b.toNat k.bits)))))))
  | .add,.c (.v (.string a)),.c (.v (.string b))=>.need (decide (((a.size+b.size:Nat):Int)<=IntKind.i64.max)) (.ret (.c (.v (.string (a++b)))))
  | _,_,_=>apure G.P o ρ
 | .call ⟨.builtin .len,args,ts⟩=>
  match args.toList,ts.toList with
  | [x],[t]=>match ρ x,lookT G.T t with
   | .c (.sl _ _ n),some ⟨_,.slice _,_,_,_,_,_,_⟩=>.ret (.c (.v (.int .i64 (n:Int))))
   | .c (.v (.string s)),some ⟨_,.string,_,_,_,_,_,_⟩=>.ret (.c (.v (.int .i64 (s.size:Int))))
   | _,_=>apure G.P o ρ
  | _,_=>.fail
 | .convert s d x=>
  match ρ x with
  | .c (.sl id i n)=>match lookT G.T s,lookT G.T d with
   | some ⟨_,.slice e,_,_,_,_,_,_⟩,some ⟨_,.string,_,_,_,_,_,_⟩=>
    match lookT G.T e,(h.at id).bind fun b=>valRow b.c with
    | some ⟨_,.int .u8,_,_,_,_,_,_⟩,some (m,f)=>.need (decide (i+n<=m)) (.need (allB n fun k=>isU8 (f (i+k))) (.ret (.c (.v (.string (bytesOf f i n))))))
    | _,_=>.fail
   | _,_=>.fail
  | _=>apure G.P o ρ
 | .unOp .. | .makeInterface ..=>apure G.P o ρ
 | .call ⟨.builtin .max,_,_⟩ | .call ⟨.builtin .min,_,_⟩=>apure G.P o ρ
 | _=>.fail
def isLight:Op->Bool
 | .alloc .. | .box .. | .buildSlice .. | .store .. | .makeSlice .. | .call ⟨.value _,_,_⟩ | .call ⟨.builtin .append,_,_⟩ | .call ⟨.builtin .copy,_,_⟩=>false
 | .convert ..=>true
 | _=>true
def selV (b:Bool):Value->Value->Value
 | .int k a,.int k' a'=>if k=k' then .int k (bif b then a else a') else bif b then .int k a else .int k' a'
 | .bool a,.bool a'=>.bool (bif b then a else a')
 | .string a,.string a'=>.string (bif b then a else a')
 | x,y=>bif b then x else y
def selL (b:Bool):List Value->List Value->List Value
 | x::xs,y::ys=>selV b x y::selL b xs ys
 | [],[]=>[]
 | xs,ys=>bif b then xs else ys
theorem selV_eq (b:Bool) (x y:Value):selV b x y=bif b then x else y:=by
 unfold selV
 split
 ·split
  ·rename_i h;subst h;cases b <;> rfl
  ·rfl
 ·cases b <;> rfl
 ·cases b <;> rfl
 ·rfl
theorem selL_eq (b:Bool):∀ xs ys:List Value,selL b xs ys=bif b then xs else ys
 | [],[]=>by cases b <;> rfl
 | [],_::_=>rfl
 | _::_,[]=>rfl
 | x::xs,y::ys=>by
  simp only [selL,selV_eq,selL_eq b xs ys]
  cases b <;> rfl
def updC (f:Nat->List Value) (n:Nat) (x:List Value):Nat->List Value:=fun k=>selL (decide (k=n)) x (f k)
def upd (f:Nat->List Value) (n:Nat) (x:List Value):Nat->List Value:=fun k=>selL (decide (k=n)) x (f k)
theorem upd_def (f:Nat->List Value) (n:Nat) (x:List Value):upd f n x=fun k=>if k=n then x else f k:=by
 funext k
 unfold upd
 rw [selL_eq]
 by_cases h:k=n <;> simp [h]
def cat {α:Type}(z:α) (f:Nat->α) (n:Nat) (g:Nat->α) (i m:Nat):Nat->α:=fun k=>if k<n then f k else if k<n+m then g (i+(k-n)) else z
def catZ (z:List Value) (g:Nat->List Value) (i m:Nat):Nat->List Value:=fun k=>selL (decide (k<m)) (g (i+k)) z
def updL (f:Nat->List Value) (n:Nat):List (List Value)->Nat->List Value
 | []=>f
 | x::xs=>updL (upd f n x) (n+1) xs
def newBlk (ti:TI) (v:AV):Option Cont:=
 match ti.shape,v with
 | some (n,1),.arr m f=>if m=n then some (.row 1 n fun k=>[f k]) else none
 | some _,_=>none
 | none,x=>(cellsOf x).bind fun l=>if l.length=ti.size then some (.one l) else none
def zeroCont (ti:TI):Cont:=
 match ti.shape with
 | some (n,sz)=>.row sz n fun _=>ti.zero.take sz
 | none=>.one (ofCells ti.zero)
def setAt (h:AHeap) (id:Nat) (b:ABlk):AHeap:=h.set id (some b)
def splice {α:Type}(l:List α) (j:Nat) (c:List α):List α:=l.take j++c++l.drop (j+c.length)
def astore (T:List TI) (h:AHeap) (t:TypeId) (p x:AV):Tr AHeap:=
 match p,lookT T t with
 | .c (.ptr id i j),some ti=>
  match h.at id with
  | some ⟨bt,true,c⟩=>
   match c,x with
   | .row 1 n _,.arr m g=>if i=0/\j=0/\ti.size=m/\n=m then .ret (setAt h id ⟨bt,true,.row 1 n fun k=>[g k]⟩) else .fail
   | .one l,x=>match cellsOf x with
    | some cs=>if i=0/\cs.length=ti.size/\j+cs.length<=l.length then .ret (setAt h id ⟨bt,true,.one (splice l j cs)⟩) else .fail
    | none=>.fail
   | .row sz n f,x=>match (cellsOf x).bind valsOf with
    | some cs=>if cs.length=ti.size/\j+cs.length<=sz then .need (decide (i<n)) (.ret (setAt h id ⟨bt,true,.row sz n (updC f i (splice (f i) j cs))⟩)) else .fail
    | none=>.fail
   | .lst sz l z,x=>match cellsOf x with
    | some cs=>if cs.length=ti.size/\j+cs.length<=sz then .need (decide (i<l.length)) (.ret (setAt h id ⟨bt,true,.lst sz (l.set i (splice (l.getD i z) j cs)) z⟩)) else .fail
    | none=>.fail
  | _=>.fail
 | _,_=>.fail
def maxCells:Nat:=140737488355328
def srcOf (h:AHeap) (ti:TI):AV->Option (Nat × Nat × Cont)
 | .c (.sl id i n)=>(h.at id).map fun b=>(i,n,b.c)
 | .c (.v (.slice none 0 0))=>some (0,0,.lst ti.size [] [])
 | .c (.v (.string s))=>some (0,s.size,.row 1 s.size fun k=>[.int .u8 (bt s k)])
 | _=>none
def rowOf (ti:TI) (c:Cont):Cont:=
 match c with
 | .lst sz [] z=>.lst sz [] z
 | .lst sz l z=>if ti.flat then (match valss l with|some vs=>.row sz l.length (fun i=>vs.getD i ti.zero)|none=>.lst sz l z) else .lst sz l z
 | c=>c
def dstOf (h:AHeap) (ti:TI):AV->Option (AHeap × Cont × Nat)
 | .c (.v (.slice none 0 0))=>some (h,(if ti.flat then .row ti.size 0 fun _=>ti.zero else .lst ti.size [] (ofCells ti.zero)),0)
 | .c (.sl id 0 n)=>
  match h.at id with
  | some ⟨bt,true,c⟩=>if c.sz=ti.size/\bt=ti.t then some (h.set id none,rowOf ti c,n) else none
  | _=>none
 | _=>none
def joinC (ti:TI):Cont->Nat × Nat × Cont->Option Cont
 | .row _ n f,(i,m,.lst _ l _)=>(valss ((l.drop i).take m)).map fun vs=>.row ti.size (n+m) (updL f n vs)
 | .row _ n f,(i,m,.row _ _ g)=>some (.row ti.size (n+m) (cat ti.zero f n g i m))
 | .lst _ [] z,(i,m,.row _ _ g)=>if ti.flat then some (.row ti.size m (catZ ti.zero g i m)) else none
 | .lst _ [] z,(i,m,.lst _ l' _)=>if ti.flat then (valss ((l'.drop i).take m)).map fun vs=>.row ti.size (0+m) (updL (fun _=>ti.zero) 0 vs) else some (.lst ti.size ((l'.drop i).take m) z)
 | .lst _ (x::l) z,(i,m,.lst _ l' _)=>some (.lst ti.size (x::l++(l'.drop i).take m) z)
 | _,_=>none
def isSrcD:TypeDesc->Bool
 | .slice _=>true
 | .string=>true
 | _=>false
def aappend (T:List TI) (h:AHeap) (t t2:TypeId) (s x:AV):Tr (AV × AHeap):=
 match lookT T t,lookT T t2 with
 | some ⟨_,.slice e,_,_,_,_,_,_⟩,some ti2=>
  match isSrcD ti2.u,lookT T e with
  | true,some ti=>
   match dstOf h ti s,srcOf h ti x with
   | some (h',c,nn),some (i,m,cs)=>
    if cs.sz=ti.size then
     match joinC ti c (i,m,cs) with
     | some c'=>.need (decide (c.n=nn)) (.need (decide (i+m<=cs.n)) (.need (decide ((c.n+m)*ti.bytes<=maxCells)) (.ret (.c (.sl h.length 0 (c.n+m)),h'++[some ⟨e,true,c'⟩]))))
     | none=>.fail
    else .fail
   | _,_=>.fail
  | _,_=>.fail
 | _,_=>.fail
def renAC (g:Nat->Option Nat):AC->AC
 | .any=>.any
 | .v x=>.v x
 | .ptr id i j=>match g id with
  | some k=>.ptr k i j
  | none=>.any
 | .sl id i n=>match g id with
  | some k=>.sl k i n
  | none=>.any
mutual
def renAV (g:Nat->Option Nat):AV->AV
 | .c x=>.c (renAC g x)
 | .agg l=>.agg (l.map (renAC g))
 | .arr n f=>.arr n f
 | .tup l=>.tup (renAVs g l)
def renAVs (g:Nat->Option Nat):List AV->List AV
 | []=>[]
 | x::l=>renAV g x::renAVs g l
end
def renC (g:Nat->Option Nat):Cont->Cont
 | .one l=>.one (l.map (renAC g))
 | .row sz n f=>.row sz n f
 | .lst sz l z=>.lst sz (l.map (List.map (renAC g))) (z.map (renAC g))
def renB (g:Nat->Option Nat) (b:ABlk):ABlk:={ b with c:=renC g b.c }
def refAC:AC->List Nat
 | .ptr id _ _=>[id]
 | .sl id _ _=>[id]
 | _=>[]
mutual
def refAV:AV->List Nat
 | .c x=>refAC x
 | .agg l=>l.flatMap refAC
 | .arr _ _=>[]
 | .tup l=>refAVs l
def refAVs:List AV->List Nat
 | []=>[]
 | x::l=>refAV x++refAVs l
end
def refC:Cont->List Nat
 | .one l=>l.flatMap refAC
 | .row _ _ _=>[]
 | .lst _ l _=>l.flatMap fun x=>x.flatMap refAC
def refB:Option ABlk->List Nat
 | some b=>refC b.c
 | none=>[]
def closeOf (h:AHeap):Nat->List Nat->List Nat->List Nat
 | 0,_,acc=>acc
 | _+1,[],acc=>acc
 | k+1,id::todo,acc=>if acc.contains id||decide (h.length<=id) then closeOf h k todo acc else closeOf h k (todo++refB (h[id]?).join) (acc++[id])
def idxIn (R:List Nat) (id:Nat):Option Nat:=if R.contains id then some (R.idxOf id) else none
def subHeap (h:AHeap) (R:List Nat):AHeap:=R.map fun id=>((h[id]?).join).map (renB (idxIn R))
def backIn (R:List Nat) (n id:Nat):Option Nat:=some (if id<R.length then R.getD id 0 else n+(id-R.length))
def mergeIn (h:AHeap) (R:List Nat) (hs:AHeap):AHeap:=
 (List.range h.length).map (fun id=>if R.contains id then ((hs[R.idxOf id]?).join).map (renB (backIn R h.length)) else (h[id]?).join)
  ++ (hs.drop R.length).map (Option.map (renB (backIn R h.length)))
def natL {β:Type}(a:Nat) (k:Nat->β):β:=match a with
 | 0=>k 0
 | n+1=>k (Nat.succ n)
theorem natL_eq {β:Type}(a:Nat) (k:Nat->β):natL a k=k a:=by cases a <;> rfl
def forceM {β:Type}:List Nat->(List Nat->β)->β
 | [],k=>k []
 | a::l,k=>natL a fun a'=>forceM l fun l'=>k (a'::l')
theorem forceM_eq {β:Type}:∀ (l:List Nat) (k:List Nat->β),forceM l k=k l
 | [],_=>rfl
 | a::l,k=>by rw [forceM,natL_eq,forceM_eq l]
def forceC {β:Type}(c:AC) (k:AC->β):β:=match c with
 | .any=>k .any
 | .v (.int q n)=>k (.v (.int q n))
 | .v (.bool b)=>k (.v (.bool b))
 | .v (.string s)=>k (.v (.string s))
 | .v x=>k (.v x)
 | .ptr id i j=>natL id fun id=>k (.ptr id i j)
 | .sl id i n=>natL id fun id=>k (.sl id i n)
theorem forceC_eq {β:Type}(c:AC) (k:AC->β):forceC c k=k c:=by
 unfold forceC
 split <;> simp only [natL_eq]
def forceCs {β:Type}:List AC->(List AC->β)->β
 | [],k=>k []
 | c::l,k=>forceC c fun c=>forceCs l fun l=>k (c::l)
theorem forceCs_eq {β:Type}:∀ (l:List AC) (k:List AC->β),forceCs l k=k l
 | [],_=>rfl
 | c::l,k=>by simp only [forceCs,forceC_eq,forceCs_eq l]
def forceCss {β:Type}:List (List AC)->(List (List AC)->β)->β
 | [],k=>k []
 | c::l,k=>forceCs c fun c=>forceCss l fun l=>k (c::l)
theorem forceCss_eq {β:Type}:∀ (l:List (List AC)) (k:List (List AC)->β),forceCss l k=k l
 | [],_=>rfl
 | c::l,k=>by simp only [forceCss,forceCs_eq,forceCss_eq l]
def forceV1 {β:Type}(v:AV) (k:AV->β):β:=match v with
 | .c c=>forceC c fun c=>k (.c c)
 | .agg l=>forceCs l fun l=>k (.agg l)
 | .arr n f=>k (.arr n f)
 | .tup l=>k (.tup l)
theorem forceV1_eq {β:Type}(v:AV) (k:AV->β):forceV1 v k=k v:=by
 unfold forceV1
 split <;> simp only [forceC_eq,forceCs_eq]
def forceVs {β:Type}:List AV->(List AV->β)->β
 | [],k=>k []
 | c::l,k=>forceV1 c fun c=>forceVs l fun l=>k (c::l)
theorem forceVs_eq {β:Type}:∀ (l:List AV) (k:List AV->β),forceVs l k=k l
 | [],_=>rfl
 | c::l,k=>by simp only [forceVs,forceV1_eq,forceVs_eq l]
def forceV {β:Type}(v:AV) (k:AV->β):β:=match v with
 | .tup l=>forceVs l fun l=>k (.tup l)
 | v=>forceV1 v k
theorem forceV_eq {β:Type}(v:AV) (k:AV->β):forceV v k=k v:=by
 unfold forceV
 split
 ·simp only [forceVs_eq]
 ·exact forceV1_eq _ _
def forceB {β:Type}(b:Option ABlk) (k:Option ABlk->β):β:=match b with
 | none=>k none
 | some ⟨t,own,.one l⟩=>natL t fun t=>forceCs l fun l=>k (some ⟨t,own,.one l⟩)
 | some ⟨t,own,.row sz n f⟩=>natL t fun t=>natL sz fun sz=>k (some ⟨t,own,.row sz n f⟩)
 | some ⟨t,own,.lst sz l z⟩=>natL t fun t=>natL sz fun sz=>forceCss l fun l=>forceCs z fun z=>k (some ⟨t,own,.lst sz l z⟩)
theorem forceB_eq {β:Type}(b:Option ABlk) (k:Option ABlk->β):forceB b k=k b:=by
 unfold forceB
 split <;> simp only [natL_eq,forceCs_eq,forceCss_eq]
def forceH {β:Type}:AHeap->(AHeap->β)->β
 | [],k=>k []
 | b::h,k=>forceB b fun b=>forceH h fun h=>k (b::h)
theorem forceH_eq {β:Type}:∀ (h:AHeap) (k:AHeap->β),forceH h k=k h
 | [],_=>rfl
 | b::h,k=>by simp only [forceH,forceB_eq,forceH_eq h]
abbrev Spec:=List AV->AHeap->Tr (AV × AHeap)
def acall (F:Spec) (args:List AV) (h:AHeap):Tr (AV × AHeap):=
 forceM (closeOf h 10000 (refAVs args) []) fun R=>
 forceVs (renAVs (idxIn R) args) fun as=>forceH (subHeap h R) fun sh=>
 (F as sh).bind fun (r,hs)=>.ret (renAV (backIn R h.length) r,mergeIn h R hs)
theorem acall_def (F:Spec) (args:List AV) (h:AHeap):acall F args h =
  (F (renAVs (idxIn (closeOf h 10000 (refAVs args) [])) args) (subHeap h (closeOf h 10000 (refAVs args) []))).bind fun (r,hs)=>.ret (renAV (backIn (closeOf h 10000 (refAVs args) []) h.length) r,mergeIn h (closeOf h 10000 (refAVs args) []) hs):=by
 simp only [acall,forceM_eq,forceVs_eq,forceH_eq]
structure Ctx2 extends Ctx where
 σ:Nat->Option Spec
 keep:Nat->List (Nat × Option TypeId)
 L:Nat
 tame:List Nat:=[]
def partsSl:List (Nat × AV)->Nat->Nat->Option (List (List AC))
 | [],_,_=>some []
 | (k,x)::rest,sz,i=>
  match cellsOf x,partsSl rest sz (i+1) with
  | some l,some r=>if k=i/\l.length=sz then some (l::r) else none
  | _,_=>none
def funcOf:AV->Option Nat
 | .c (.v (.func (.func k) f c))=>match f.toList,c.toList with
  | [],[]=>some k
  | _,_=>none
 | _=>none
def aheavy (G:Ctx2) (o:Oper) (ρ:Operand->AV) (h:AHeap):Tr (AV × AHeap):=
 match o.op with
 | .alloc t=>match lookT G.T t with
  | some ti=>.ret (.c (.ptr h.length 0 0),h++[some ⟨t,true,zeroCont ti⟩])
  | none=>.fail
 | .box t x=>match lookT G.T t with
  | some ti=>match newBlk ti (ρ x) with
   | some c=>.ret (.c (.ptr h.length 0 0),h++[some ⟨t,true,c⟩])
   | none=>.fail
  | none=>.fail
 | .buildSlice t len ps=>match lookT G.T t with
  | some ⟨_,.slice e,_,_,_,_,_,_⟩=>match lookT G.T e with
   | some ti=>match partsSl (ps.toList.map fun p=>(p.1,ρ p.2)) ti.size 0 with
    | some l=>if l.length=len/\len*ti.size<=16777216 then .ret (.c (.sl h.length 0 len),h++[some ⟨e,true,.lst ti.size l (ofCells ti.zero)⟩]) else .fail
    | none=>.fail
   | none=>.fail
  | _=>.fail
 | .makeSlice t l c=>match lookT G.T t,ρ l,ρ c with
  | some ⟨_,.slice e,_,_,_,_,_,_⟩,.c (.v (.int _ n)),.c (.v (.int _ n'))=>match lookT G.T e with
   | some ti=>if ti.flat then .need (decide (0<=n)) (.need (decide (n'=n)) (.need (decide (n.toNat*ti.bytes<=16777216)) (.ret (.c (.sl h.length 0 n.toNat),h++[some ⟨e,true,.row ti.size n.toNat fun _=>ti.zero⟩])))) else .fail
   | none=>.fail
  | _,_,_=>.fail
 | .store t p x=>(astore G.T h t (ρ p) (ρ x)).bind fun h'=>.ret (.c (.v undef),h')
 | .call ⟨.builtin .append,args,ts⟩=>
  match args.toList,ts.toList with
  | [s,x],[t,t2]=>aappend G.T h t t2 (ρ s) (ρ x)
  | _,_=>.fail
 | .call ⟨.value f,args,_⟩=>
  match funcOf (ρ f) with
  | some k=>match G.σ k with
   | some F=>acall F (args.toList.map ρ) h
   | none=>.fail
  | none=>.fail
 | _=>.fail
def putA (sl:List AV):Option Tmp->AV->List AV
 | some d,v=>sl.set d v
 | none,_=>sl
def forceL {α β:Type}:List α->(List α->β)->β
 | [],k=>k []
 | a::as,k=>forceL as fun as'=>k (a::as')
theorem forceL_eq {α β:Type}:∀ (l:List α) (k:List α->β),forceL l k=k l
 | [],_=>rfl
 | a::as,k=>by rw [forceL,forceL_eq as]
def stepOp (G:Ctx2) (o:Oper) (S:St):Tr St:=
 if isLight o.op then (alight G.toCtx o (evs S.sl) S.h).bind fun v=>forceV v fun v=>forceL (putA S.sl o.dst v) fun sl=>.ret ⟨sl,S.h⟩
 else (aheavy G o (evs S.sl) S.h).bind fun (v,h')=>forceV v fun v=>forceH h' fun h'=>forceL (putA S.sl o.dst v) fun sl=>.ret ⟨sl,h'⟩
theorem stepOp_def (G:Ctx2) (o:Oper) (S:St):stepOp G o S =
 if isLight o.op then (alight G.toCtx o (evs S.sl) S.h).bind fun v=>.ret ⟨putA S.sl o.dst v,S.h⟩
 else (aheavy G o (evs S.sl) S.h).bind fun (v,h')=>.ret ⟨putA S.sl o.dst v,h'⟩:=by
 simp only [stepOp,forceL_eq,forceV_eq,forceH_eq]
def skipOp (o:Oper) (S:St):St:=⟨putA S.sl o.dst (.c (.v undef)),S.h⟩
def litB (S:St) (t:Nat) (b:Bool):St:=⟨S.sl.set t (.c (.v (.bool b))),S.h⟩
def guarded (G:Ctx2) (ops:Array Oper) (o:Oper) (S:St):Tr St:=
 match o.guard with
 | none=>stepOp G o S
 | some (g,want)=>
  match (ops[g]?).bind (·.dst) with
  | some t=>
   match S.sl.getD t (.c .any) with
   | .c (.v (.bool b))=>.ite b (if want then stepOp G o (litB S t true) else .ret (skipOp o (litB S t true))) (if want then .ret (skipOp o (litB S t false)) else stepOp G o (litB S t false))
   | .c (.v (.tuple _))=>.ret (skipOp o S)
   | _=>.fail
  | none=>.fail
def regSeq (G:Ctx2) (ops:Array Oper):List Oper->St->Tr St
 | [],S=>.ret S
 | o::rest,S=>(guarded G ops o S).bind (regSeq G ops rest)
def pkAt (w D y:Nat):Nat:=(D >>> (w*y)) % 2^w
def edgeMask (f:Nat->Nat) (o:Oper):Nat:=o.after.toList.foldl (fun s e=>if Region.binds .any e then s ||| (1 <<< e.on) ||| f e.on else s) 0
def predsGo (n:Nat):List Oper->Nat->Nat->List Nat
 | [],_,_=>[]
 | o::rest,j,acc=>natL (edgeMask (pkAt n acc) o) fun m=>natL (acc ||| (m <<< (n*j))) fun acc'=>m::predsGo n rest (j+1) acc'
def predsOf (ops:List Oper):List Nat:=natL ops.length fun n=>predsGo n ops 0 0
def looksAt (ops:Array Oper) (o:Oper):List Tmp:=
 (o.op.operands.toList.filterMap fun | .tmp t=>some t | _=>none)++(match o.guard with|some (g,_)=>((ops[g]?).bind (·.dst)).toList|none=>[])
def isQuiet:Op->Bool
 | .alloc .. | .box .. | .buildSlice .. | .makeSlice ..=>true
 | _=>false
def hardOf (o:Oper) (ρ:Operand->AV):List Nat:=
 match o.op with
 | .load _ a=>refAV (ρ a)
 | .convert _ _ x=>refAV (ρ x)
 | _=>[]
def softOf (o:Oper) (ρ:Operand->AV):List Nat:=
 match o.op with
 | .indexAddr _ x _=>refAV (ρ x)
 | .slice _ x _ _ _=>refAV (ρ x)
 | _=>[]
def kindC:Cont->Nat
 | .one _=>0
 | .row _ _ _=>1
 | .lst _ _ _=>2
def shEq:Option ABlk->Option ABlk->Bool
 | none,none=>true
 | some b,some b'=>Nat.beq (kindC b.c) (kindC b'.c)&&Nat.beq b.c.sz b'.c.sz
 | _,_=>false
def writesOf (o:Oper) (ρ:Operand->AV) (h:AHeap):List Nat:=
 match o.op with
 | .store _ p _=>refAV (ρ p)
 | .call ⟨.builtin .append,args,_⟩=>match args.toList with
  | s::_=>refAV (ρ s)
  | _=>[]
 | .call ⟨.value _,args,_⟩=>closeOf h 10000 (refAVs (args.toList.map ρ)) []
 | _=>[]
def reachOf (o:Oper) (ρ:Operand->AV) (h:AHeap):List Nat:=
 match o.op with
 | .store _ p _=>refAV (ρ p)
 | .call ⟨.builtin .append,args,_⟩=>refAVs (args.toList.map ρ)
 | .call ⟨.value _,args,_⟩=>closeOf h 10000 (refAVs (args.toList.map ρ)) []
 | _=>[]
def breaksOf (ws:List Nat) (h h':AHeap):List Nat:=ws.filter fun id=>!shEq (h.at id) (h'.at id)
def behindHeavy (m lm:Nat):List Nat->Bool
 | []=>false
 | q::rest=>bif m.testBit q then false else bif lm.testBit q then behindHeavy m lm rest else true
def insAt (m lm:Nat) (i:Nat):List Nat->List Nat
 | []=>[i]
 | q::rest=>bif behindHeavy m lm (q::rest) then q::insAt m lm i rest else i::q::rest
def eagerGo (P:List Nat) (lm:Nat):List Oper->Nat->List Nat->List Nat
 | [],_,acc=>acc.reverse
 | o::rest,i,acc=>eagerGo P lm rest (i+1) (bif isLight o.op||isQuiet o.op then insAt (P.getD i 0) lm i acc else i::acc)
def lightMask:List Oper->Nat->Nat
 | [],_=>0
 | o::rest,i=>(bif isLight o.op||isQuiet o.op then 1 <<< i else 0) ||| lightMask rest (i+1)
def eagerP (P:List Nat) (ops:Array Oper):List Nat:=natL (lightMask ops.toList 0) fun lm=>eagerGo P lm ops.toList 0 []
def eager (ops:Array Oper):List Nat:=eagerP (predsOf ops.toList) ops
def before (P:List Nat) (i j:Nat):Bool:=(P.getD j 0).testBit i
def walkPi (P:List Nat) (lm qm n:Nat):List Nat->Nat->Bool
 | [],acc=>Nat.beq acc (2^n-1)
 | q::l,acc=>natL (P.getD q 0) fun m=>Nat.blt q n&&!acc.testBit q&&Nat.beq (m &&& acc) m&&(!qm.testBit q||Nat.beq ((acc &&& lm) ||| m) m)&&natL (acc ||| (1 <<< q)) fun acc'=>walkPi P lm qm n l acc'
def maskOf (p:Oper->Bool):List Oper->Nat->Nat
 | [],_=>0
 | o::rest,i=>(bif p o then 1 <<< i else 0) ||| maskOf p rest (i+1)
def isLoud (o:Oper):Bool:=!isLight o.op&&!isQuiet o.op
def dstsOk:List Oper->Nat->Bool
 | [],_=>true
 | o::rest,m=>match o.dst with
  | some x=>!m.testBit x&&natL (m ||| (1 <<< x)) fun m'=>dstsOk rest m'
  | none=>dstsOk rest m
def defsOf:List Oper->Nat->Nat->Nat
 | [],_,D=>D
 | o::rest,i,D=>match o.dst with
  | some x=>natL (D ||| ((i+1) <<< (12*x))) fun D'=>defsOf rest (i+1) D'
  | none=>defsOf rest (i+1) D
def looksOk (P:List Nat) (ops:Array Oper) (D:Nat):List Oper->List Nat->Nat->Bool
 | o::rest,m::ms,i=>(looksAt ops o).all (fun y=>match pkAt 12 D y with
   | 0=>true
   | j+1=>Nat.beq i j||m.testBit j||before P i j)&&looksOk P ops D rest ms (i+1)
 | [],_,_=>true
 | _,[],_=>false
def backOk:List Nat->Nat->Bool
 | [],_=>true
 | m::ms,k=>Nat.blt m (2^k)&&backOk ms (k+1)
def loudsOf:List Oper->Nat->List Nat
 | [],_=>[]
 | o::rest,i=>bif isLoud o then i::loudsOf rest (i+1) else loudsOf rest (i+1)
def pairsOk (P:List Nat):List Nat->Bool
 | []=>true
 | i::rest=>rest.all (fun j=>before P i j||before P j i)&&pairsOk P rest
def orderOkP (P:List Nat) (ops:Array Oper) (π:List Nat):Bool:=
 Nat.beq π.length ops.size&&Nat.blt ops.size 4095&&backOk P 0&&(natL (maskOf isLoud ops.toList 0) fun lm=>natL (maskOf (fun o=>isQuiet o.op) ops.toList 0) fun qm=>walkPi P lm qm ops.size π 0)&&dstsOk ops.toList 0 &&
 (natL (defsOf ops.toList 0 0) fun D=>looksOk P ops D ops.toList P 0)&&pairsOk P (loudsOf ops.toList 0)
def orderOk (ops:Array Oper) (π:List Nat):Bool:=orderOkP (predsOf ops.toList) ops π
structure Log where
 lights:List (Nat × List Nat × List Nat)
 louds:List (Nat × List Nat × List Nat × List Nat)
 quiets:List (Nat × Nat)
def logOkP (P:List Nat) (l:Log):Bool:=
 l.lights.all (fun r=>l.louds.all fun x=>before P r.1 x.1||before P x.1 r.1||(r.2.1.all (fun id=>!x.2.1.contains id)&&r.2.2.all fun id=>!x.2.2.1.contains id)) &&
 l.lights.all (fun r=>l.quiets.all fun q=>before P q.1 r.1||(!r.2.1.contains q.2&&!r.2.2.contains q.2)) &&
 l.louds.all (fun x=>l.quiets.all fun q=>before P q.1 x.1||(!x.2.1.contains q.2&&!x.2.2.2.contains q.2))
def logOk (ops:Array Oper) (l:Log):Bool:=logOkP (predsOf ops.toList) l
def readsIn (o:Oper) (S:St):Bool:=(hardOf o (evs S.sl)++softOf o (evs S.sl)).all fun id=>decide (id<S.h.length)
def turnsOf (t:Bool) (o:Oper) (S:St):List Nat:=bif t then [] else writesOf o (evs S.sl) S.h
def logOf (t:Bool) (i:Nat) (o:Oper) (S S':St) (l:Log):Log:=
 if isLight o.op then { l with lights:=(i,hardOf o (evs S.sl),softOf o (evs S.sl))::l.lights }
 else if isQuiet o.op then { l with quiets:=(i,S.h.length)::l.quiets }
 else { l with louds:=(i,turnsOf t o S,breaksOf (turnsOf t o S) S.h S'.h,reachOf o (evs S.sl) S.h)::l.louds }
def isTame (G:Ctx2) (o:Oper):Bool:=
 match o.op with
 | .call ⟨.value (.func f),_,_⟩=>G.tame.any (Nat.beq f)
 | _=>false
noncomputable def yes (p:Prop):Bool:=@decide p (Classical.propDecidable p)
noncomputable section
def stepLog (G:Ctx2) (i:Nat) (o:Oper) (S:St) (l:Log):Tr (St × Log):=
 if readsIn o S then (stepOp G o S).bind fun S'=>if isTame G o then .need (yes ((writesOf o (evs S.sl) S.h).map (fun id=>S'.h[id]?)=(writesOf o (evs S.sl) S.h).map fun id=>S.h[id]?)) (.ret (S',logOf true i o S S' l)) else .ret (S',logOf false i o S S' l) else .fail
def regRun (G:Ctx2) (ops:Array Oper):List Nat->St->Log->Tr (St × Log)
 | [],S,l=>.ret (S,l)
 | i::rest,S,l=>
  match ops[i]? with
  | none=>.fail
  | some o=>
   match o.guard with
   | none=>(stepLog G i o S l).bind fun r=>regRun G ops rest r.1 r.2
   | some (g,want)=>
    match (ops[g]?).bind (·.dst) with
    | some t=>
     match S.sl.getD t (.c .any) with
     | .c (.v (.bool b))=>.ite b
      (if want then (stepLog G i o (litB S t true) l).bind fun r=>regRun G ops rest r.1 r.2 else regRun G ops rest (skipOp o (litB S t true)) l)
      (if want then regRun G ops rest (skipOp o (litB S t false)) l else (stepLog G i o (litB S t false) l).bind fun r=>regRun G ops rest r.1 r.2)
     | .c (.v (.tuple _))=>regRun G ops rest (skipOp o S) l
     | _=>.fail
    | none=>.fail
def regDraw (G:Ctx2) (ops:Array Oper) (S:St):Tr St:=
 forceM (predsOf ops.toList) fun P=>forceM (eagerP P ops) fun π=>
  if orderOkP P ops π then (regRun G ops π S ⟨[],[],[]⟩).bind fun r=>if logOkP P r.2 then .ret r.1 else .fail else .fail
theorem regDraw_def (G:Ctx2) (ops:Array Oper) (S:St):regDraw G ops S =
 if orderOk ops (eager ops) then (regRun G ops (eager ops) S ⟨[],[],[]⟩).bind fun r=>if logOk ops r.2 then .ret r.1 else .fail else .fail:=by
 simp only [regDraw,forceM_eq,orderOk,logOk,eager]
 rfl
inductive Ex where
 | normal|exit (id:Nat)|ret
 deriving DecidableEq
def firstReg:Code->Nat
 | .region id _ _=>id
 | .seq a _=>firstReg a
 | .block _ b=>firstReg b
 | .loop b=>firstReg b
 | _=>0
def keepSl (T:List TI):List (Nat × Option TypeId)->List AV->AHeap->List AV × AHeap
 | [],sl,h=>(sl.map fun _=>.c .any,h)
 | (t,e)::rest,sl,h=>
  let r:=keepSl T rest sl h
  match sl.getD t (.c .any),e with
  | .c (.v (.slice none 0 0)),some e=>
   match lookT T e with
   | some ti=>(r.1.set t (.c (.sl r.2.length 0 0)),r.2++[some ⟨e,true,if ti.flat then .row ti.size 0 fun _=>ti.zero else .lst ti.size [] (ofCells ti.zero)⟩])
   | none=>r
  | x,_=>(r.1.set t x,r.2)
def refsOf (h:AHeap) (n:Nat):List Nat:=(h.take n).flatMap refB
def canon (T:List TI) (n0:Nat) (k:List (Nat × Option TypeId)) (S:St):St:=
 let r:=keepSl T k S.sl S.h
 let R:=closeOf r.2 10000 (refsOf r.2 n0++refAVs r.1) (List.range n0)
 ⟨renAVs (idxIn R) r.1,subHeap r.2 R⟩
def iter (f:St->Tr (Ex × St)) (k:St->St):Nat->St->Tr (Ex × St)
 | 0,_=>.fail
 | n+1,S=>(f S).bind fun (e,S')=>match e with
  | .normal=>iter f k n (k S')
  | e=>.ret (e,S')
def arun (G:Ctx2) (n0:Nat):Nat->Code->St->Tr (Ex × St)
 | 0,_,_=>.fail
 | _+1,.skip,S=>.ret (.normal,S)
 | _+1,.region _ ops draw,S=>(if draw then regDraw G ops S else regSeq G ops ops.toList S).bind fun S'=>.ret (.normal,S')
 | d+1,.seq a b,S=>(arun G n0 d a S).bind fun (e,S')=>match e with
  | .normal=>arun G n0 d b S'
  | e=>.ret (e,S')
 | d+1,.cond c a b,S=>
  match c with
  | .tmp t=>
   match S.sl.getD t (.c .any) with
   | .c (.v (.bool x))=>.ite x (arun G n0 d a (litB S t true)) (arun G n0 d b (litB S t false))
   | _=>.fail
  | _=>.fail
 | d+1,.block id b,S=>(arun G n0 d b S).bind fun (e,S')=>match e with
  | .exit k=>if k=id then .ret (.normal,S') else .ret (.exit k,S')
  | e=>.ret (e,S')
 | d+1,.loop b,S=>iter (arun G n0 d b) (canon G.T n0 (G.keep (firstReg b))) G.L (canon G.T n0 (G.keep (firstReg b)) S)
 | _+1,.exit id,S=>.ret (.exit id,S)
 | _+1,.ret,S=>.ret (.ret,S)
 | _+1,_,_=>.fail
def resOf (T:List TI) (S:St):ResultVar->Tr AV
 | .tmp t=>.ret (S.sl.getD t (.c .any))
 | .cell a t=>aload T S.h t (S.sl.getD a (.c .any))
def resL (T:List TI) (S:St):List ResultVar->Tr (List AV)
 | []=>.ret []
 | r::l=>(resOf T S r).bind fun x=>(resL T S l).bind fun xs=>.ret (x::xs)
def oneRes:List AV->AV
 | [x]=>x
 | l=>.tup l
def afun (G:Ctx2) (d:Nat) (fn:Func):Spec:=fun args h=>
 match fn.body with
 | none=>.fail
 | some c=>(arun G h.length d c ⟨args++List.replicate (fn.ntmps-args.length) (.c .any),h⟩).bind fun (e,S)=>
  match e with
  | .exit _=>.fail
  | _=>(resL G.T S fn.results.toList).bind fun l=>
   let r:=oneRes l
   let R:=closeOf S.h 10000 (refsOf S.h h.length++refAV r) (List.range h.length)
   .ret (renAV (idxIn R) r,subHeap S.h R)
end
end
section
open Go Go.RowKit
structure Pl where
 A:Option Addr
 cap:Nat
 sz:Nat
def CR (m:List Pl):AC->Value->Prop
 | .any,_=>True
 | .v x,y=>y=x
 | .ptr id i j,y=>∃ p A,m[id]?=some p/\p.A=some A/\A.spot=none/\y=.pointer (some ⟨A.block,A.off+(i*p.sz+j),none⟩)
 | .sl id i n,y=>∃ p A' c',m[id]?=some p/\y=.slice A' n c'/\(n<=c'/\(A'=none->c'=0))/\(i=0->A'=p.A/\c'=p.cap) ∧
   (0<n->∃ A,p.A=some A/\A.spot=none/\A'=some ⟨A.block,A.off+i*p.sz,none⟩)
inductive F2 {α β:Type}(R:α->β->Prop):List α->List β->Prop where
 | nil:F2 R [] []
 | cons {a b l k}:R a b->F2 R l k->F2 R (a::l) (b::k)
theorem F2.length {α β:Type}{R:α->β->Prop}{l:List α}{k:List β}(h:F2 R l k):l.length=k.length:=by
 induction h with
 | nil=>rfl
 | cons _ _ ih=>simp [ih]
theorem F2.get {α β:Type}{R:α->β->Prop}{l:List α}{k:List β}(h:F2 R l k):∀ (i:Nat) a,l[i]?=some a->∃ b,k[i]?=some b/\R a b:=by
 induction h with
 | nil=>intro i a h;simp at h
 | cons hr _ ih=>
  intro i a h
  cases i with
  | zero=>simp at h;subst h;exact ⟨_,by simp,hr⟩
  | succ i=>simpa using ih i a (by simpa using h)
theorem F2.imp {α β:Type}{R S:α->β->Prop}{l:List α}{k:List β}(h:F2 R l k) (hi:∀ a b,R a b->S a b):F2 S l k:=by
 induction h with
 | nil=>exact .nil
 | cons hr _ ih=>exact .cons (hi _ _ hr) ih
theorem F2.take {α β:Type}{R:α->β->Prop}{l:List α}{k:List β}(h:F2 R l k):∀ n,F2 R (l.take n) (k.take n):=by
 induction h with
 | nil=>intro n;simpa using F2.nil
 | cons hr _ ih=>intro n;cases n with
  | zero=>exact .nil
  | succ n=>exact .cons hr (ih n)
theorem F2.drop {α β:Type}{R:α->β->Prop}{l:List α}{k:List β}(h:F2 R l k):∀ n,F2 R (l.drop n) (k.drop n):=by
 induction h with
 | nil=>intro n;simpa using F2.nil
 | cons hr ht ih=>intro n;cases n with
  | zero=>exact .cons hr ht
  | succ n=>exact ih n
theorem F2.append {α β:Type}{R:α->β->Prop}{l l':List α}{k k':List β}(h:F2 R l k) (h':F2 R l' k'):F2 R (l++l') (k++k'):=by
 induction h with
 | nil=>exact h'
 | cons hr _ ih=>exact .cons hr ih
theorem F2.map {α β γ δ:Type}{R:α->β->Prop}{S:γ->δ->Prop}{l:List α}{k:List β}(f:α->γ) (g:β->δ) (h:F2 R l k) (hi:∀ a b,R a b->S (f a) (g b)):F2 S (l.map f) (k.map g):=by
 induction h with
 | nil=>exact .nil
 | cons hr _ ih=>exact .cons (hi _ _ hr) ih
mutual
def VR (m:List Pl):AV->Value->Prop
 | .c x,y=>CR m x y
 | .agg l,y=>∃ cs:Array Value,y=.agg cs/\F2 (CR m) l cs.toList
 | .arr n f,y=>y=.agg ⟨(List.range n).map f⟩/\∀ k,k<n->oneV (f k)=true
 | .tup l,y=>∃ vs:Array Value,y=.tuple vs/\VRs m l vs.toList
def VRs (m:List Pl):List AV->List Value->Prop
 | [],[]=>True
 | x::l,y::k=>VR m x y/\VRs m l k
 | _,_=>False
end
theorem VRs.get {m:List Pl}:∀ {l:List AV}{k:List Value},VRs m l k->∀ (i:Nat) a,l[i]?=some a->∃ b,k[i]?=some b/\VR m a b
 | [],_,_,i,a,h=>by simp at h
 | x::l,[],h,_,_,_=>by simp [VRs] at h
 | x::l,y::k,h,i,a,hi=>by
  simp only [VRs] at h
  cases i with
  | zero=>simp at hi;subst hi;exact ⟨y,by simp,h.1⟩
  | succ i=>simpa using VRs.get h.2 i a (by simpa using hi)
theorem VRs.length {m:List Pl}:∀ {l:List AV}{k:List Value},VRs m l k->l.length=k.length
 | [],[],_=>rfl
 | [],_::_,h=>by simp [VRs] at h
 | _::_,[],h=>by simp [VRs] at h
 | _::_,_::_,h=>by simp only [VRs] at h;simp [VRs.length h.2]
structure BR (B:Nat) (m:List Pl) (b:ABlk) (p:Pl) (w:World):Prop where
 sz:p.sz=b.c.sz
 len:∀ i,i<b.c.n->(b.c.el i).length=p.sz
 cap:b.c.n<=p.cap
 cell:∀ (i j:Nat) c,i<b.c.n->(b.c.el i)[j]?=some c->∃ A x,p.A=some A/\A.spot=none/\w.cell? ⟨A.block,A.off+(i*p.sz+j),none⟩=some x/\CR m c x/\oneV x=true
 own:b.own=true->(p.A=none->p.cap=0)/\∀ A,p.A=some A->A.off=0/\A.spot=none/\B<=A.block/\∃ cs,w.heap[A.block]?=some (.cells cs b.t (0,0))/\cs.size=p.cap*p.sz
 came:b.own=false->∀ A,p.A=some A->0<b.c.n->A.block<B
structure HR (B:Nat) (m:List Pl) (h:AHeap) (w:World):Prop where
 len:m.length=h.length
 blk:∀ (id:Nat) b p,h[id]?=some (some b)->m[id]?=some p->BR B m b p w
 apart:∀ (id id':Nat) b b' p p' A A',id ≠ id'->h[id]?=some (some b)->h[id']?=some (some b')->b.own=true->b'.own=true->m[id]?=some p->m[id']?=some p' →
  p.A=some A->p'.A=some A'->A.block ≠ A'.block
theorem HR.at_ {B:Nat}{m:List Pl}{h:AHeap}{w:World}(H:HR B m h w) {id:Nat}{b:ABlk}(hb:h.at id=some b):∃ p,m[id]?=some p/\BR B m b p w:=by
 have hid:h[id]?=some (some b):=by
  unfold AHeap.at at hb
  cases e:h[id]? with
  | none=>simp [e] at hb
  | some o=>rw [e] at hb;simp at hb;rw [hb]
 have hlt:id<m.length:=by rw [H.len];exact (List.getElem?_eq_some_iff.1 hid).1
 exact ⟨m[id],by simp [hlt],H.blk id b _ hid (by simp [hlt])⟩
def isAggD:TypeDesc->Bool
 | .struct _=>true
 | .array _ _=>true
 | _=>false
structure TOk (P:Program) (T:List TI):Prop where
 u:∀ t ti,lookT T t=some ti->P.underlying t=some ti.u
 i:∀ t ti,lookT T t=some ti->∃ i z,P.info? t=some i/\i.size=ti.size/\i.bytes=ti.bytes/\i.zero=some z/\z.cells.toList=ti.zero
 agg:∀ t ti,lookT T t=some ti->ti.agg=isAggD ti.u
 zlen:∀ t ti,lookT T t=some ti->ti.zero.length=ti.size
 zone:∀ t ti,lookT T t=some ti->∀ x ∈ ti.zero,oneV x=true
 shape:∀ t ti n s,lookT T t=some ti->ti.shape=some (n,s)->s=1/\ti.agg=true/\ti.size=n/\ti.zero=List.replicate n (ti.zero.headD undef)/\0<n
section
variable {P:Program}{w:World}
theorem run_underlying' {t:TypeId}{u:TypeDesc}(h:P.underlying t=some u):(underlying t).run P w=.ok u w:=by
 simp [underlying,program,Sem.run,Sem.run_bind,h]
theorem run_typeInfo' {t:TypeId}{i:TypeInfo}(h:P.info? t=some i):(typeInfo t).run P w=.ok i w:=by
 simp [typeInfo,program,Sem.run,Sem.run_bind,h]
theorem run_sizeOf' {t:TypeId}{i:TypeInfo}(h:P.info? t=some i):(sizeOf t).run P w=.ok i.size w:=by
 simp [sizeOf,Sem.run_bind,run_typeInfo' h]
theorem run_isAgg' {t:TypeId}{u:TypeDesc}(h:P.underlying t=some u):(isAgg t).run P w=.ok (isAggD u) w:=by
 simp only [isAgg,Sem.run_bind,run_underlying' h,Result.andThen_ok]
 cases u <;> simp [isAggD]
theorem run_zero' {t:TypeId}{i:TypeInfo}{z:Value}(h:P.info? t=some i) (hz:i.zero=some z):(zeroValue t).run P w=.ok z w:=by
 simp [zeroValue,Sem.run_bind,run_typeInfo' h,hz]
theorem run_load' {a:Addr}{x:Value}(h:w.cell? a=some x):(load a).run P w=.ok x w:=by
 simp [load,Sem.run,h]
theorem run_loadCellsFrom' {a:Addr}:∀ (n i:Nat) (xs:List Value) (acc:Array Value),xs.length=n->(∀ (k:Nat) x,xs[k]?=some x->w.cell? (a.add (i+k))=some x) →
  (loadCellsFrom a i n acc).run P w=.ok (acc++xs.toArray) w
 | 0,i,xs,acc,hl,_=>by
  have:xs=[]:=List.length_eq_zero_iff.1 hl
  subst this
  simp [loadCellsFrom]
 | n+1,i,xs,acc,hl,h=>by
  match xs,hl with
  | x::xs,hl=>
   have h0:=h 0 x (by simp)
   rw [Nat.add_zero] at h0
   simp only [loadCellsFrom,Sem.run_bind,run_load' h0,Result.andThen_ok]
   rw [run_loadCellsFrom' n (i+1) xs (acc.push x) (by simpa using hl) (fun k y hy=>by
    have:=h (k+1) y (by simpa using hy)
    rwa [show i+(k+1)=i+1+k by omega] at this)]
   simp
end
theorem add_none {a:Addr}(h:a.spot=none) (k:Nat):a.add k=⟨a.block,a.off+k,none⟩:=by
 unfold Addr.add
 split
 ·subst_vars;cases a;simp_all
 ·rfl
section
variable {P:Program}{T:List TI}{w:World}{B:Nat}{m:List Pl}{h:AHeap}
theorem run_loadVar' (hT:TOk P T) {t:TypeId}{ti:TI}(ht:lookT T t=some ti) {a:Addr}{xs:List Value}(hl:xs.length=ti.size)
  (hc:∀ (k:Nat) x,xs[k]?=some x->w.cell? (a.add k)=some x) (h1:ti.agg=false->ti.size=1) :
  (loadVar t a).run P w=.ok (if ti.agg then .agg xs.toArray else xs.headD undef) w:=by
 obtain ⟨i,z,hi,hs,_,_,_⟩:=hT.i t ti ht
 have hu:=hT.u t ti ht
 have ha:=hT.agg t ti ht
 have hia:(isAgg t).run P w=.ok ti.agg w:=by rw [ha];exact run_isAgg' hu
 simp only [loadVar,Sem.run_bind,hia,Result.andThen_ok]
 cases e:ti.agg with
 | true=>
  simp only [if_true,Sem.run_bind,run_sizeOf' hi,Result.andThen_ok,loadCells]
  rw [run_loadCellsFrom' i.size 0 xs #[] (by rw [hl,hs]) (fun k x hk=>by rw [Nat.zero_add];exact hc k x hk)]
  simp
 | false=>
  have h1':=h1 e
  match xs,hl,h1' with
  | [x],_,_=>
   have:=hc 0 x (by simp)
   have h0:a.add 0=a:=by simp [Addr.add]
   rw [h0] at this
   simp [run_load' this]
  | [],hl,h1=>simp at hl;omega
  | _::_::_,hl,h1=>simp at hl;omega
end
end
section
open Go Go.RowKit
theorem Tr.eval_bind {α β:Type}(t:Tr α) (f:α->Tr β):(t.bind f).eval=t.eval.bind fun a=>(f a).eval:=by
 induction t with
 | ret a=>rfl
 | ite b t e ih1 ih2=>cases b <;> simp [Tr.bind,Tr.eval,ih1,ih2]
 | fail=>rfl
theorem Tr.eval_need {α:Type}{b:Bool}{t:Tr α}{v:α}:(Tr.need b t).eval=some v ↔ b=true/\t.eval=some v:=by
 cases b <;> simp [Tr.need,Tr.eval]
theorem Tr.eval_opt {α:Type}(x:Option α):(Tr.opt x).eval=x:=by cases x <;> rfl
theorem Tr.eval_ret {α:Type}(a:α):(Tr.ret a).eval=some a:=rfl
theorem Tr.eval_ite {α:Type}(b:Bool) (t e:Tr α):(Tr.ite b t e).eval=if b=true then t.eval else e.eval:=by cases b <;> rfl
theorem pureRun_ok {P:Program}{α:Type}{w:World}:∀ (s:Sem α) {n:α},pureRun P s=some n->s.run P w=.ok n w
 | .pure a,n,h=>by simp [pureRun] at h;simp [Sem.run,h]
 | .program k,n,h=>by simp only [pureRun] at h;simp only [Sem.run];exact pureRun_ok _ h
 | .load ..,n,h=>by simp [pureRun] at h
 | .store ..,n,h=>by simp [pureRun] at h
 | .new ..,n,h=>by simp [pureRun] at h
 | .shape ..,n,h=>by simp [pureRun] at h
 | .freeze ..,n,h=>by simp [pureRun] at h
 | .frozen ..,n,h=>by simp [pureRun] at h
 | .getObj ..,n,h=>by simp [pureRun] at h
 | .setObj ..,n,h=>by simp [pureRun] at h
 | .choose ..,n,h=>by simp [pureRun] at h
 | .sys ..,n,h=>by simp [pureRun] at h
 | .mark ..,n,h=>by simp [pureRun] at h
 | .halt ..,n,h=>by simp [pureRun] at h
theorem scal_some {m:List Pl}{a:AV}{x y:Value}(h:scal a=some x) (hv:VR m a y):y=x:=by
 cases a with
 | c c=>
  cases c with
  | v u=>simp only [scal,Option.some.injEq] at h;subst h;simpa [VR,CR] using hv
  | _=>simp [scal] at h
 | _=>simp [scal] at h
theorem isInt_some {m:List Pl}{a:AV}{k:IntKind}{n:Int}{y:Value}(h:isInt a=some (k,n)) (hv:VR m a y):y=.int k n:=by
 unfold isInt at h
 split at h
 ·simp only [Option.some.injEq,Prod.mk.injEq] at h;obtain ⟨rfl,rfl⟩:=h;simpa [VR,CR] using hv
 ·cases h
theorem F2_ofCells (m:List Pl) (l:List Value):F2 (CR m) (ofCells l) l:=by
 induction l with
 | nil=>exact .nil
 | cons a l ih=>exact .cons rfl ih
theorem VR_ofConst (m:List Pl) (v:Value):VR m (ofConst v) v:=by
 unfold ofConst
 split
 ·exact ⟨_,rfl,F2_ofCells _ _⟩
 ·exact rfl
section
variable {G:Ctx}{o:Oper}{ρ:Operand->AV}{ρ':Operand->Value}{h:AHeap}{w:World}{B:Nat}{m:List Pl}{v:AV}
def OpsOk (m:List Pl) (ρ:Operand->AV) (ρ':Operand->Value):Prop:=∀ x,VR m (ρ x) (ρ' x)
def LOk (P:Program) (m:List Pl) (w:World) (ρ':Operand->Value) (o:Oper) (v:AV):Prop:=∃ x,(execOp ρ' o).run P w=.ok (.value x) w/\VR m v x
theorem apure_ok (hs:∀ cs b,o.op ≠ .select cs b) (hρ:OpsOk m ρ ρ') (he:(apure G.P o ρ).eval=some v):LOk G.P m w ρ' o v:=by
 unfold apure at he
 split at he
 ·rename_i hall
  split at he
  ·rename_i x hx
   simp only [Tr.eval,Option.some.injEq] at he
   subst he
   refine ⟨x,?_,VR_ofConst _ _⟩
   have hc:execOp (fun x=>(scal (ρ x)).getD undef) o=execOp ρ' o:=execOp_congr o hs fun y hy=>by
    have hy':=List.all_eq_true.1 hall y (Array.mem_toList_iff.2 hy)
    obtain ⟨u,hu⟩:=Option.isSome_iff_exists.1 hy'
    rw [hu,Option.getD_some]
    exact (scal_some hu (hρ y)).symm
   rw [<-hc]
   exact pureRun_ok _ hx
  ·cases he
 ·cases he
theorem cut_ok {T:List TI}{t:TypeId}{ti:TI}(hT:TOk G.P T) (ht:lookT T t=some ti) {l:List AC}{cs:List Value}(hl:F2 (CR m) l cs) {j:Nat}(hc:cut ti l j=some v) (h1:ti.agg=false->ti.size=1) :
  ((cs.drop j).take ti.size).length=ti.size/\VR m v (if ti.agg then .agg ((cs.drop j).take ti.size).toArray else ((cs.drop j).take ti.size).headD undef):=by
 unfold cut at hc
 split at hc
 ·rename_i ha
  split at hc
  ·cases hc
  ·rename_i hlt
   simp only [Option.some.injEq] at hc
   subst hc
   have hlen:=(hl.drop j).length
   rw [if_pos ha]
   refine ⟨by simp only [List.length_take];omega,⟨_,rfl,?_⟩⟩
   simpa using (hl.drop j).take ti.size
 ·rename_i ha
  have ha':ti.agg=false:=by simpa using ha
  have hs:=h1 ha'
  rw [if_neg ha]
  cases e:l[j]? with
  | none=>simp [e] at hc
  | some a=>
   rw [e] at hc
   simp only [Option.map_some,Option.some.injEq] at hc
   subst hc
   obtain ⟨x,hx,hr⟩:=hl.get j a e
   have hd:cs.drop j=x::cs.drop (j+1):=by
    obtain ⟨hlt,hx'⟩:=List.getElem?_eq_some_iff.1 hx
    rw [List.drop_eq_getElem_cons hlt,hx']
   rw [hs,hd]
   exact ⟨by simp,by simpa [VR] using hr⟩
theorem BR.cells {b:ABlk}{p:Pl}(hb:BR B m b p w) {i:Nat}(hi:i<b.c.n) (hp:0<p.sz) :
  ∃ A cs,p.A=some A/\A.spot=none/\cs.length=p.sz/\F2 (CR m) (b.c.el i) cs/\∀ (j:Nat) x,cs[j]?=some x->w.cell? ⟨A.block,A.off+(i*p.sz+j),none⟩=some x:=by
 have hlen:=hb.len i hi
 obtain ⟨A,x0,hA,hsp,_,_,_⟩:=hb.cell i 0 ((b.c.el i)[0]'(by omega)) hi (by simp)
 have hex:∀ k,k<=(b.c.el i).length->∃ cs:List Value,cs.length=k/\F2 (CR m) ((b.c.el i).take k) cs/\∀ (j:Nat) x,cs[j]?=some x->w.cell? ⟨A.block,A.off+(i*p.sz+j),none⟩=some x:=by
  intro k
  induction k with
  | zero=>intro _;exact ⟨[],rfl,by simpa using F2.nil,fun j x hx=>by simp at hx⟩
  | succ k ih=>
   intro hk
   obtain ⟨cs,hc,hf,hg⟩:=ih (by omega)
   obtain ⟨A',x,hA',_,hx,hr,_⟩:=hb.cell i k ((b.c.el i)[k]'(by omega)) hi (by simp)
   have hAA:A'=A:=by rw [hA] at hA';cases hA';rfl
   subst hAA
   refine ⟨cs++[x],by simp [hc],?_,?_⟩
   ·rw [List.take_succ_eq_append_getElem (by omega)]
    exact hf.append (.cons hr .nil)
   ·intro j y hy
    rcases Nat.lt_or_ge j cs.length with hj|hj
    ·exact hg j y (by rwa [List.getElem?_append_left hj] at hy)
    ·rw [List.getElem?_append_right hj] at hy
     have:j-cs.length=0:=by
      rcases Nat.eq_zero_or_pos (j-cs.length) with h0|h0
      ·exact h0
      ·rw [List.getElem?_eq_none (by simp;omega)] at hy;cases hy
     rw [this] at hy
     simp only [List.getElem?_cons_zero,Option.some.injEq] at hy
     subst hy
     have:j=k:=by omega
     subst this
     exact hx
 obtain ⟨cs,hc,hf,hg⟩:=hex _ (Nat.le_refl _)
 exact ⟨A,cs,hA,hsp,by omega,by simpa using hf,hg⟩
theorem load_one (hT:TOk G.P G.T) (h1:∀ t ti,lookT G.T t=some ti->0<ti.size/\(ti.agg=false->ti.size=1)) {t:TypeId}{ti:TI}(ht:lookT G.T t=some ti) {b:ABlk}{p:Pl}(hb:BR B m b p w) {i j:Nat}(hi:i<b.c.n)
  (hc:cut ti (b.c.el i) j=some v):∃ A x,p.A=some A/\A.spot=none/\(loadVar t ⟨A.block,A.off+(i*p.sz+j),none⟩).run G.P w=.ok x w/\VR m v x:=by
 have hpos:0<p.sz:=by
  rw [<-hb.len i hi]
  rcases Nat.eq_zero_or_pos (b.c.el i).length with h0|h0
  ·have:b.c.el i=[]:=List.length_eq_zero_iff.1 h0
   rw [this] at hc
   unfold cut at hc
   have:=(h1 t ti ht).1
   split at hc
   ·rw [if_pos (by simpa using this)] at hc;cases hc
   ·simp at hc
  ·exact h0
 obtain ⟨A,cs,hA,hsp,hlen,hf,hg⟩:=hb.cells hi hpos
 obtain ⟨hl,hv⟩:=cut_ok hT ht hf hc (h1 t ti ht).2
 refine ⟨A,_,hA,hsp,run_loadVar' hT ht hl ?_ (h1 t ti ht).2,hv⟩
 intro k x hx
 have hx':cs[j+k]?=some x:=by
  rw [List.getElem?_take] at hx
  split at hx
  ·rwa [List.getElem?_drop] at hx
  ·cases hx
 have:=hg (j+k) x hx'
 rw [add_none rfl]
 simpa [Nat.add_assoc] using this
structure COk (G:Ctx):Prop where
 t:TOk G.P G.T
 one:∀ t ti,lookT G.T t=some ti->0<ti.size/\(ti.agg=false->ti.size=1)
 bytes:∀ t ti,lookT G.T t=some ti->0<ti.bytes
theorem aload0_ok (hG:COk G) {t:TypeId}{a:AV}{a':Value}(ha:VR m a a') (H:HR B m h w) (he:(aload0 G.T h t a).eval=some v) :
  ∃ x,(Instr.loadAt t a').run G.P w=.ok x w/\VR m v x:=by
 unfold aload0 at he
 split at he
 ·rename_i id i j
  split at he
  ·rename_i ti b hti hb
   obtain ⟨q,hq,hbr⟩:=H.at_ hb
   obtain ⟨p,A,hp,hA,hsp,rfl⟩:=ha
   have hpq:p=q:=by rw [hp] at hq;cases hq;rfl
   subst hpq
   have key:∀ {i j:Nat},i<b.c.n->cut ti (b.c.el i) j=some v->∃ x,(Instr.loadAt t (.pointer (some ⟨A.block,A.off+(i*p.sz+j),none⟩))).run G.P w=.ok x w/\VR m v x:=by
    intro i j hi hc
    obtain ⟨A',x,hA',_,hr,hv⟩:=load_one hG.t hG.one hti hbr hi hc
    have:A'=A:=by rw [hA] at hA';cases hA';rfl
    subst this
    exact ⟨x,by simp [Instr.loadAt,Instr.sureAddr,Sem.run_bind,hr],hv⟩
   split at he
   ·rename_i n f mm hbc hsh
    split at he
    ·rename_i hij
     obtain ⟨rfl,rfl⟩:=hij
     obtain ⟨hn,hv⟩:=Tr.eval_need.1 he
     simp only [Tr.eval,Option.some.injEq] at hv
     subst hv
     have hn':n=mm:=by simpa using hn
     subst hn'
     obtain ⟨_,hag,hsz,_,hpos⟩:=hG.t.shape t ti n 1 hti hsh
     obtain ⟨bt,own,c⟩:=b
     simp only at hbc
     subst hbc
     have hsz1:p.sz=1:=hbr.sz
     have hlen:∀ k,k<n->(f k).length=1:=fun k hk=>by
      have:=hbr.len k hk
      simpa [Cont.el,ofCells,hsz1] using this
     have hcell:∀ k,k<n->w.cell? ⟨A.block,A.off+k,none⟩=some ((f k).headD undef)/\oneV ((f k).headD undef)=true:=fun k hk=>by
      match e:f k,hlen k hk with
      | [x],_=>
       obtain ⟨A',y,hA',_,hy,hr,h1y⟩:=hbr.cell k 0 (.v x) hk (by simp [Cont.el,ofCells,e])
       have:A'=A:=by rw [hA] at hA';cases hA';rfl
       subst this
       simp only [CR] at hr
       subst hr
       exact ⟨by simpa [hsz1] using hy,h1y⟩
     have hrun:=run_loadVar' (P:=G.P) (w:=w) (a:=⟨A.block,A.off+(0*p.sz+0),none⟩) hG.t hti (xs:=(List.range n).map fun k=>(f k).headD undef) (by simp [hsz]) (fun k x hk=>by
      rw [List.getElem?_map] at hk
      rcases Nat.lt_or_ge k n with hkn|hkn
      ·rw [List.getElem?_range hkn] at hk
       simp only [Option.map_some,Option.some.injEq] at hk
       subst hk
       rw [add_none rfl]
       simpa using (hcell k hkn).1
      ·rw [List.getElem?_eq_none (by simpa using hkn)] at hk;cases hk) (hG.one t ti hti).2
     rw [hag] at hrun
     refine ⟨_,by simp only [Instr.loadAt,Instr.sureAddr,Sem.run_bind,Sem.run_pure,Result.andThen_ok];exact hrun,?_⟩
     exact ⟨rfl,fun k hk=>(hcell k hk).2⟩
    ·cases he
   ·rename_i l _ hbc
    split at he
    ·rename_i hi
     subst hi
     rw [Tr.eval_opt] at he
     exact key (by rw [hbc];exact Nat.zero_lt_one) (by rw [hbc];exact he)
    ·cases he
   ·rename_i c _ _ _
    obtain ⟨hn,hv⟩:=Tr.eval_need.1 he
    rw [Tr.eval_opt] at hv
    exact key (by simpa using hn) hv
  ·cases he
 ·cases he
theorem strsOf_get:∀ {l:List (List AC)}{ss:List ByteArray},strsOf l=some ss->l=ss.map fun s=>[.v (.string s)]
 | [],ss,h=>by simp [strsOf] at h;subst h;rfl
 | x::l,ss,h=>by
  unfold strsOf at h
  split at h
  ·cases ‹x::l=[]›
  ·rename_i s l' e
   cases e
   simp only [Option.map_eq_some_iff] at h
   obtain ⟨r,hr,rfl⟩:=h
   rw [List.map_cons,<-strsOf_get hr]
  ·cases h
theorem intsOf_get {k:IntKind}:∀ {l:List (List AC)}{xs:List Int},intsOf k l=some xs->l=xs.map fun x=>[.v (.int k x)]
 | [],xs,h=>by simp [intsOf] at h;subst h;rfl
 | x::l,xs,h=>by
  unfold intsOf at h
  split at h
  ·cases ‹x::l=[]›
  ·rename_i k' a l' e
   cases e
   split at h
   ·rename_i e'
    subst e'
    simp only [Option.map_eq_some_iff] at h
    obtain ⟨r,hr,rfl⟩:=h
    rw [List.map_cons,<-intsOf_get hr]
   ·cases h
  ·cases h
theorem tblOf_get {l:List (List AC)}{f:Nat->Value}(h:tblOf l=some f) {i:Nat}(hi:i<l.length):l[i]?=some [.v (f i)]:=by
 unfold tblOf at h
 split at h
 ·simp only [Option.map_eq_some_iff] at h
  obtain ⟨ss,hs,rfl⟩:=h
  have:=strsOf_get hs
  rw [this] at hi ⊢
  rw [List.length_map] at hi
  simp [hi]
 ·simp only [Option.map_eq_some_iff] at h
  obtain ⟨ss,hs,rfl⟩:=h
  have:=intsOf_get hs
  rw [this] at hi ⊢
  rw [List.length_map] at hi
  simp [hi]
 ·cases h
theorem tblIn_get {T:List TI}{t:TypeId}{id n i:Nat}{f:Nat->Value}(h1:tblIn T h t id=some (n,f)) (hi:i<n):(aload0 T h t (.c (.ptr id i 0))).eval=some (.c (.v (f i))):=by
 unfold tblIn at h1
 split at h1
 ·rename_i ti _ _ l z hti hat
  split at h1
  ·cases h1
  ·rename_i hag
   simp only [Option.map_eq_some_iff,Prod.mk.injEq] at h1
   obtain ⟨g,hg,rfl,rfl⟩:=h1
   have:=tblOf_get hg hi
   unfold aload0
   simp only [hti,hat]
   refine Tr.eval_need.2 ⟨decide_eq_true hi,?_⟩
   rw [Tr.eval_opt]
   unfold cut
   rw [if_neg hag]
   simp [Cont.el,List.getD_eq_getElem?_getD,this]
 ·cases h1
theorem pickL_get {ti:TI}{i:Nat}{z:List AC}:∀ {l:List (List AC)}{k:Nat},(pickL ti i l k).eval=some v->k<=i/\i-k<l.length/\cut ti (l.getD (i-k) z) 0=some v
 | [],k,h=>by simp [pickL,Tr.eval] at h
 | x::l,k,h=>by
  unfold pickL at h
  simp only [Tr.eval] at h
  by_cases hk:i=k
  ·subst hk
   rw [decide_eq_true rfl,cond_true,Tr.eval_opt] at h
   refine ⟨Nat.le_refl _,by simp,?_⟩
   rw [Nat.sub_self]
   exact h
  ·rw [decide_eq_false hk,cond_false] at h
   obtain ⟨h1,h2,h3⟩:=pickL_get h
   have e:i-k=(i-(k+1))+1:=by omega
   refine ⟨by omega,by simp only [List.length_cons];omega,?_⟩
   rw [e,List.getD_cons_succ]
   exact h3
theorem pickIn_get {T:List TI}{t:TypeId}{id i:Nat}{ti:TI}{l:List (List AC)}(h1:pickIn T h t id=some (ti,l)) (he:(pickL ti i l 0).eval=some v):(aload0 T h t (.c (.ptr id i 0))).eval=some v:=by
 unfold pickIn at h1
 split at h1
 ·rename_i ti' b1 b2 sz x y l' z hti hat
  split at h1
  ·simp only [Option.some.injEq,Prod.mk.injEq] at h1
   obtain ⟨rfl,rfl⟩:=h1
   obtain ⟨_,h2,h3⟩:=pickL_get (z:=z) he
   rw [Nat.sub_zero] at h2 h3
   unfold aload0
   simp only [hti,hat]
   refine Tr.eval_need.2 ⟨decide_eq_true h2,?_⟩
   rw [Tr.eval_opt]
   exact h3
  ·cases h1
 ·cases h1
theorem aload_sub {T:List TI}{t:TypeId}{a:AV}(he:(aload T h t a).eval=some v):(aload0 T h t a).eval=some v:=by
 unfold aload at he
 split at he
 ·split at he
  ·rename_i n f htb
   obtain ⟨h1,he⟩:=Tr.eval_need.1 he
   simp only [Tr.eval,Option.some.injEq] at he
   subst he
   exact tblIn_get htb (by simpa using h1)
  ·split at he
   ·rename_i ti l hp
    exact pickIn_get hp he
   ·exact he
 ·exact he
theorem aload_ok (hG:COk G) {t:TypeId}{a:AV}{a':Value}(ha:VR m a a') (H:HR B m h w) (he:(aload G.T h t a).eval=some v) :
  ∃ x,(Instr.loadAt t a').run G.P w=.ok x w/\VR m v x:=aload0_ok hG ha H (aload_sub he)
end
end
section
open Go Go.RowKit
section
variable {G:Ctx}{o:Oper}{ρ:Operand->AV}{ρ':Operand->Value}{h:AHeap}{w:World}{B:Nat}{m:List Pl}{v:AV}
structure EOk (G:Ctx):Prop where
 g:∀ t n,(t,n) ∈ G.eqs->G.P.eqGuardType G.P.depth t=false
 e:∀ t n,(t,n) ∈ G.eqs->∀ (m:List Pl) l k (xs ys:Array Value) r (w:World),l.map kindAC=n->ceqs l k=some r->F2 (CR m) l xs.toList->F2 (CR m) k ys.toList →
  (Op.equalIn 10000 t (.agg xs) (.agg ys)).run G.P w=.ok r w
structure GOk (G:Ctx):Prop where
 c:COk G
 e:EOk G
theorem fieldOf_some {T:List TI}{P:Program}(hT:TOk P T) {t:TypeId}{k:Nat}{f:Field}(hf:fieldOf T t k=some f):∃ fs,P.underlying t=some (.struct fs)/\fs[k]?=some f:=by
 unfold fieldOf at hf
 split at hf
 ·rename_i fs _ _ _ _ _ _ ht
  exact ⟨fs,hT.u t _ ht,by simpa using hf⟩
 ·cases hf
theorem run_field' {P:Program}{T:List TI}(hT:TOk P T) {t:TypeId}{ti:TI}(ht:lookT T t=some ti) {cs:Array Value}{off:Nat}{x:Value}
  (hl:((cs.toList.drop off).take ti.size).length=ti.size) (hx:x=if ti.agg then .agg ((cs.toList.drop off).take ti.size).toArray else ((cs.toList.drop off).take ti.size).headD undef)
  (h1:ti.agg=false->ti.size=1):(part t cs off).run P w=.ok x w:=by
 obtain ⟨i,z,hi,hs,_,_,_⟩:=hT.i t ti ht
 have hu:=hT.u t ti ht
 have ha:=hT.agg t ti ht
 have hia:(isAgg t).run P w=.ok ti.agg w:=by rw [ha];exact run_isAgg' hu
 simp only [part,Sem.run_bind,hia,Result.andThen_ok]
 cases e:ti.agg with
 | true=>
  simp only [e,if_true] at hx
  simp only [if_true,Sem.run_bind,run_sizeOf' hi,Result.andThen_ok,Sem.run_pure,hx]
  congr 2
  apply Array.ext'
  simp [hs,List.take_drop]
 | false=>
  simp only [e,Bool.false_eq_true,if_false] at hx
  have:=h1 e
  rw [this] at hl hx
  cases hd:cs.toList.drop off with
  | nil=>rw [hd] at hl;simp at hl
  | cons y ys=>
   rw [hd] at hx
   simp at hx
   have hget:cs[off]?=some y:=by
    have:(cs.toList.drop off)[0]?=some y:=by rw [hd];rfl
    rw [List.getElem?_drop] at this
    simpa using this
   simp [hget,hx]
theorem need2 {α:Type}{b c:Bool}{t:Tr α}{v:α}(h:(Tr.need b (Tr.need c t)).eval=some v):b=true/\c=true/\t.eval=some v:=by
 obtain ⟨h1,h2⟩:=Tr.eval_need.1 h
 exact ⟨h1,Tr.eval_need.1 h2⟩
theorem exec_val {P:Program}{s:Sem Value}{x:Value}(hr:s.run P w=.ok x w):(do pure (Next.value (<-s)):Sem Next).run P w=.ok (.value x) w:=by
 simp [Sem.run_bind,hr]
theorem l_move (hρ:OpsOk m ρ ρ') {x:Operand}(ho:o.op=.move x\/o.op=.assign x) (he:v=ρ x):LOk G.P m w ρ' o v:=by
 refine ⟨ρ' x,?_,he ▸ hρ x⟩
 rcases ho with ho|ho <;> simp [execOp,ho]
theorem l_load (hG:GOk G) (hρ:OpsOk m ρ ρ') (H:HR B m h w) {t:TypeId}{a:Operand}(ho:o.op=.load t a) (he:(aload G.T h t (ρ a)).eval=some v):LOk G.P m w ρ' o v:=by
 obtain ⟨x,hr,hv⟩:=aload_ok hG.c (hρ a) H he
 exact ⟨x,by simp only [execOp,ho];exact exec_val hr,hv⟩
theorem l_fieldAddr (hG:GOk G) (hρ:OpsOk m ρ ρ') {s:TypeId}{x:Operand}{k:Nat}(ho:o.op=.fieldAddr s x k) {id i j:Nat}{f:Field}{ti:TI}(hx:ρ x=.c (.ptr id i j)) (hf:fieldOf G.T s k=some f)
  (hti:lookT G.T f.type=some ti):LOk G.P m w ρ' o (.c (.ptr id i (j+f.offset))):=by
 have hxv:=hρ x
 rw [hx] at hxv
 obtain ⟨p,A,hp,hA,hsp,hxe⟩:=hxv
 obtain ⟨fs,hu,hfk⟩:=fieldOf_some hG.c.t hf
 obtain ⟨inf,z,hi,hs,_,_,_⟩:=hG.c.t.i _ _ hti
 have hne:inf.size ≠ 0:=by have:=(hG.c.one _ _ hti).1;omega
 refine ⟨.pointer (some ⟨A.block,A.off+(i*p.sz+(j+f.offset)),none⟩),?_,⟨p,A,hp,hA,hsp,rfl⟩⟩
 simp only [execOp,ho]
 refine exec_val ?_
 rw [hxe]
 simp only [Instr.fieldAt,Sem.run_bind,run_underlying' hu,Result.andThen_ok,hfk,Instr.sureAddr,Sem.run_pure,fieldPlace,run_sizeOf' hi,hne,if_false]
 rw [add_none rfl]
 simp [Nat.add_assoc]
theorem l_field (hG:GOk G) (hρ:OpsOk m ρ ρ') {t:TypeId}{x:Operand}{k:Nat}(ho:o.op=.field t x k) {l:List AC}{f:Field}{ti:TI}(hx:ρ x=.agg l) (hf:fieldOf G.T t k=some f)
  (hti:lookT G.T f.type=some ti) (hc:cut ti l f.offset=some v):LOk G.P m w ρ' o v:=by
 have hxv:=hρ x
 rw [hx] at hxv
 obtain ⟨cs,hxe,hF⟩:=hxv
 obtain ⟨fs,hu,hfk⟩:=fieldOf_some hG.c.t hf
 obtain ⟨hl,hv⟩:=cut_ok hG.c.t hti hF hc (hG.c.one _ _ hti).2
 refine ⟨_,?_,hv⟩
 simp only [execOp,ho]
 refine exec_val ?_
 rw [hxe]
 simp only [Instr.field,Sem.run_bind,run_underlying' hu,Result.andThen_ok,hfk,asAgg,Sem.run_pure]
 exact run_field' hG.c.t hti hl rfl (hG.c.one _ _ hti).2
theorem l_indexAddr (hG:GOk G) (hρ:OpsOk m ρ ρ') (H:HR B m h w) {t e:TypeId}{x ix:Operand}(ho:o.op=.indexAddr t x ix) {id i n:Nat}{q:IntKind}{k:Int}{ti te:TI}{b:ABlk}(ht:lookT G.T t=some ti) (hu:ti.u=.slice e)
  (hx:ρ x=.c (.sl id i n)) (hk:isInt (ρ ix)=some (q,k)) (hte:lookT G.T e=some te) (hb:h.at id=some b) (hsz:b.c.sz=te.size) (h0:0<=k) (h1:k<(n:Int)) :
  LOk G.P m w ρ' o (.c (.ptr id (i+k.toNat) 0)):=by
 have hxv:=hρ x
 rw [hx] at hxv
 obtain ⟨p,A',c',hp,hxe,hn,_,hpos⟩:=hxv
 obtain ⟨A,hA,hsp,hA'⟩:=hpos (by omega)
 have hkv:=isInt_some hk (hρ ix)
 obtain ⟨p',hp',hbr⟩:=H.at_ hb
 have:p'=p:=by rw [hp] at hp';cases hp';rfl
 subst this
 have hut:=hG.c.t.u t ti ht
 rw [hu] at hut
 obtain ⟨inf,z,hi,hs,_,_,_⟩:=hG.c.t.i _ _ hte
 refine ⟨_,?_,⟨p',A,hp,hA,hsp,rfl⟩⟩
 simp only [execOp,ho]
 refine exec_val ?_
 rw [hxe,hkv,hA']
 simp only [Instr.indexAt,asIntOf,Sem.run_bind,Sem.run_pure,Result.andThen_ok,run_underlying' hut]
 have hc:0<=k/\k<(n:Int):=⟨h0,h1⟩
 simp only [Bool.and_false,Sem.run_pure,Sem.run_bind,Result.andThen_ok,if_pos hc,run_sizeOf' hi]
 rw [add_none rfl,hs,<-hsz,<-hbr.sz,Nat.add_mul]
 simp [Nat.add_assoc]
theorem l_indexArr (hG:GOk G) (hρ:OpsOk m ρ ρ') {t e:TypeId}{x ix:Operand}(ho:o.op=.indexAddr t x ix) {id i j len:Nat}{q:IntKind}{k:Int}{ti te:TI}(ht:lookT G.T t=some ti) (hu:ti.u=.array len e)
  (hx:ρ x=.c (.ptr id i j)) (hk:isInt (ρ ix)=some (q,k)) (hte:lookT G.T e=some te) (h0:0<=k) (h1:k<(len:Int)) :
  LOk G.P m w ρ' o (.c (.ptr id i (j+k.toNat*te.size))):=by
 have hxv:=hρ x
 rw [hx] at hxv
 obtain ⟨p,A,hp,hA,hsp,hxe⟩:=hxv
 have hkv:=isInt_some hk (hρ ix)
 have hut:=hG.c.t.u t ti ht
 rw [hu] at hut
 obtain ⟨inf,z,hi,hs,_,_,_⟩:=hG.c.t.i _ _ hte
 refine ⟨_,?_,⟨p,A,hp,hA,hsp,rfl⟩⟩
 simp only [execOp,ho]
 refine exec_val ?_
 rw [hxe,hkv]
 simp only [Instr.indexAt,asIntOf,Sem.run_bind,Sem.run_pure,Result.andThen_ok,run_underlying' hut,Instr.sureAddr]
 have hc:0<=k/\k<(len:Int):=⟨h0,h1⟩
 simp only [Sem.run_pure,Sem.run_bind,Result.andThen_ok,if_pos hc,run_sizeOf' hi]
 rw [add_none rfl,hs]
 simp [Nat.add_assoc]
end
end
section
open Go Go.RowKit
section
variable {G:Ctx}{o:Oper}{ρ:Operand->AV}{ρ':Operand->Value}{h:AHeap}{w:World}{B:Nat}{m:List Pl}{v:AV}
theorem bt_get {s:ByteArray}{k:Int}(h0:0<=k) (h1:k<(s.size:Int)):∃ b:UInt8,s[k.toNat]?=some b/\(b.toNat:Int)=bt s k:=by
 have hlt:k.toNat<s.size:=by omega
 have hl:k.toNat<s.data.toList.length:=by simpa using hlt
 refine ⟨s[k.toNat],by simp [hlt],?_⟩
 unfold bt
 rw [List.getD_eq_getElem?_getD,List.getElem?_eq_getElem hl]
 rfl
theorem l_indexStr (hG:GOk G) (hρ:OpsOk m ρ ρ') {t:TypeId}{x ix:Operand}(ho:o.op=.index t x ix) {s:ByteArray}{q:IntKind}{k:Int}{ti:TI}(ht:lookT G.T t=some ti) (hu:ti.u=.string)
  (hx:ρ x=.c (.v (.string s))) (hk:isInt (ρ ix)=some (q,k)) (h0:0<=k) (h1:k<(s.size:Int)):LOk G.P m w ρ' o (.c (.v (.int .u8 (bt s k)))):=by
 have hxv:=hρ x
 rw [hx] at hxv
 have hxe:ρ' x=.string s:=hxv
 have hkv:=isInt_some hk (hρ ix)
 have hut:=hG.c.t.u t ti ht
 rw [hu] at hut
 obtain ⟨b,hb,hbt⟩:=bt_get h0 h1
 refine ⟨_,?_,(rfl:CR m (.v (.int .u8 (bt s k))) (.int .u8 (bt s k)))⟩
 simp only [execOp,ho]
 refine exec_val ?_
 rw [hxe,hkv]
 simp only [Instr.index,asIntOf,Sem.run_bind,Sem.run_pure,Result.andThen_ok,run_underlying' hut,if_pos h0,hb,hbt]
theorem l_indexArrV (hG:GOk G) (hρ:OpsOk m ρ ρ') {t e:TypeId}{x ix:Operand}(ho:o.op=.index t x ix) {n len:Nat}{f:Nat->Value}{q:IntKind}{k:Int}{ti te:TI}(ht:lookT G.T t=some ti) (hu:ti.u=.array len e)
  (hx:ρ x=.arr n f) (hk:isInt (ρ ix)=some (q,k)) (hte:lookT G.T e=some te) (hs1:te.size=1) (hag:te.agg=false) (hn:n=len) (h0:0<=k) (h1:k<(len:Int)):LOk G.P m w ρ' o (.c (.v (f k.toNat))):=by
 have hxv:=hρ x
 rw [hx] at hxv
 simp only [VR] at hxv
 have hxe:ρ' x=.agg ⟨(List.range n).map f⟩:=hxv.1
 have hkv:=isInt_some hk (hρ ix)
 have hut:=hG.c.t.u t ti ht
 rw [hu] at hut
 obtain ⟨inf,z,hi,hs,_,_,_⟩:=hG.c.t.i _ _ hte
 subst hn
 have hlt:k.toNat<n:=by omega
 refine ⟨_,?_,(rfl:CR m (.v (f k.toNat)) (f k.toNat))⟩
 simp only [execOp,ho]
 refine exec_val ?_
 rw [hxe,hkv]
 have hc:0<=k/\k<(n:Int):=⟨h0,h1⟩
 simp only [Instr.index,asIntOf,Sem.run_bind,Sem.run_pure,Result.andThen_ok,run_underlying' hut,if_pos hc,run_sizeOf' hi]
 refine run_field' hG.c.t hte ?_ ?_ (hG.c.one _ _ hte).2
 ·rw [hs1,hs,hs1]
  simp only [Nat.mul_one,List.length_take,List.length_drop,List.length_map,List.length_range]
  omega
 ·rw [hag,hs,hs1]
  have hg:((List.range n).map f)[k.toNat]?=some (f k.toNat):=by simp [hlt]
  obtain ⟨hlt',hge⟩:=List.getElem?_eq_some_iff.1 hg
  simp only [Nat.mul_one,Bool.false_eq_true,if_false]
  rw [List.drop_eq_getElem_cons hlt',hge]
  rfl
theorem decInt_iff {a b:Int}{n:Nat}(h:decInt a b n=true):0<=a/\a<=b/\b<=(n:Int):=by
 unfold decInt at h
 simpa [and_assoc] using h
def loOf (ρ:Operand->AV):Option Operand->Option (IntKind × Int):=fun lo=>match lo with|some x=>isInt (ρ x)|none=>some (.i64,0)
def hiOf (ρ:Operand->AV) (n:Nat):Option Operand->Option (IntKind × Int):=fun hi=>match hi with|some x=>isInt (ρ x)|none=>some (.i64,(n:Int))
theorem run_bound {P:Program}{i:Int}{q:IntKind}{y:Nat}{c:BoundsCode}(h0:0<=i) (h1:i<=(y:Int)):(Instr.sliceBound (.int q i) y c).run P w=.ok i.toNat w:=by
 have hc:0<=i/\i<=(y:Int):=⟨h0,h1⟩
 simp only [Instr.sliceBound,asIntOf,Sem.run_bind,Sem.run_pure,Result.andThen_ok,if_pos hc]
theorem run_bounds' {P:Program}(hρ:OpsOk m ρ ρ') {isS:Bool}{len cap:Nat}{lo hi:Option Operand}{a b:Int}{q q':IntKind}(hlo:loOf ρ lo=some (q,a)) (hhi:hiOf ρ len hi=some (q',b)) (h0:0<=a) (h1:a<=b) (h2:b<=(len:Int)) (hc:len<=cap) :
  (Instr.sliceBounds isS len cap (lo.map ρ') (hi.map ρ') none).run P w=.ok (a.toNat,b.toNat,cap) w:=by
 have hbb:((b.toNat:Nat):Int)=b:=by omega
 cases lo with
 | none=>
  simp only [loOf,Option.some.injEq,Prod.mk.injEq] at hlo
  obtain ⟨_,rfl⟩:=hlo
  cases hi with
  | none=>
   simp only [hiOf,Option.some.injEq,Prod.mk.injEq] at hhi
   obtain ⟨_,rfl⟩:=hhi
   simp [Instr.sliceBounds,Sem.run_bind]
  | some y=>
   have hy:=isInt_some (show isInt (ρ y)=some (q',b) from hhi) (hρ y)
   simp [Instr.sliceBounds,Sem.run_bind,hy,run_bound (w:=w) (P:=P) (q:=q') (show 0<=b by omega) (show b<=(cap:Int) by omega)]
 | some x=>
  have hx:=isInt_some (show isInt (ρ x)=some (q,a) from hlo) (hρ x)
  cases hi with
  | none=>
   simp only [hiOf,Option.some.injEq,Prod.mk.injEq] at hhi
   obtain ⟨_,rfl⟩:=hhi
   simp [Instr.sliceBounds,Sem.run_bind,hx,run_bound (w:=w) (P:=P) (q:=q) h0 h1]
  | some y=>
   have hy:=isInt_some (show isInt (ρ y)=some (q',b) from hhi) (hρ y)
   simp [Instr.sliceBounds,Sem.run_bind,hx,hy,run_bound (w:=w) (P:=P) (q:=q') (show 0<=b by omega) (show b<=(cap:Int) by omega),run_bound (w:=w) (P:=P) (q:=q) (y:=b.toNat) h0 (by omega)]
theorem l_sliceStr (hG:GOk G) (hρ:OpsOk m ρ ρ') {t:TypeId}{x:Operand}{lo hi:Option Operand}(ho:o.op=.slice t x lo hi none) {s:ByteArray}{a b:Int}{q q':IntKind}{ti:TI}(ht:lookT G.T t=some ti) (hu:ti.u=.string)
  (hx:ρ x=.c (.v (.string s))) (hlo:loOf ρ lo=some (q,a)) (hhi:hiOf ρ s.size hi=some (q',b)) (hb:decInt a b s.size=true):LOk G.P m w ρ' o (.c (.v (.string (s.extract a.toNat b.toNat)))):=by
 have hxv:=hρ x
 rw [hx] at hxv
 have hxe:ρ' x=.string s:=hxv
 have hut:=hG.c.t.u t ti ht
 rw [hu] at hut
 obtain ⟨h0,h1,h2⟩:=decInt_iff hb
 refine ⟨_,?_,(rfl:CR m (.v (.string (s.extract a.toNat b.toNat))) (.string (s.extract a.toNat b.toNat)))⟩
 simp only [execOp,ho]
 refine exec_val ?_
 rw [hxe]
 simp only [Instr.sliceAt,Instr.slice,Sem.run_bind,Sem.run_pure,Result.andThen_ok,run_underlying' hut,Option.map_none,Option.isSome_none,Bool.false_eq_true,if_false]
 rw [run_bounds' hρ hlo hhi h0 h1 h2 (Nat.le_refl _)]
 simp
theorem l_slice (hG:GOk G) (hρ:OpsOk m ρ ρ') (H:HR B m h w) {t e:TypeId}{x:Operand}{lo hi:Option Operand}(ho:o.op=.slice t x lo hi none) {id i n:Nat}{a b:Int}{q q':IntKind}{ti te:TI}{bb:ABlk}(ht:lookT G.T t=some ti) (hu:ti.u=.slice e)
  (hx:ρ x=.c (.sl id i n)) (hte:lookT G.T e=some te) (hbb:h.at id=some bb) (hsz:bb.c.sz=te.size) (hlo:loOf ρ lo=some (q,a)) (hhi:hiOf ρ n hi=some (q',b)) (hb:decInt a b n=true) :
  LOk G.P m w ρ' o (.c (.sl id (i+a.toNat) (b.toNat-a.toNat))):=by
 have hxv:=hρ x
 rw [hx] at hxv
 obtain ⟨p,A',c',hp,hxe,⟨hn,hnil⟩,hz,hpos⟩:=hxv
 obtain ⟨p',hp',hbr⟩:=H.at_ hbb
 have:p'=p:=by rw [hp] at hp';cases hp';rfl
 subst this
 have hut:=hG.c.t.u t ti ht
 rw [hu] at hut
 obtain ⟨inf,z,hi',hs,_,_,_⟩:=hG.c.t.i _ _ hte
 obtain ⟨h0,h1,h2⟩:=decInt_iff hb
 have hps:p'.sz=te.size:=by rw [hbr.sz,hsz]
 refine ⟨.slice (if c'=a.toNat then A' else A'.map (·.add (a.toNat*te.size))) (b.toNat-a.toNat) (c'-a.toNat),?_,⟨p',_,_,hp,rfl,⟨by omega,fun e=>?_⟩,?_,?_⟩⟩
 rotate_left
 ·have h0':A'=none:=by
   split at e
   ·exact e
   ·simpa using e
  have:=hnil h0'
  omega
 rotate_left 2
 ·simp only [execOp,ho]
  refine exec_val ?_
  rw [hxe]
  simp only [Instr.sliceAt,Instr.slice,Sem.run_bind,Sem.run_pure,Result.andThen_ok,run_underlying' hut,Option.map_none]
  rw [run_bounds' hρ hlo hhi h0 h1 h2 hn]
  simp only [Result.andThen_ok,run_sizeOf' hi',Sem.run_bind,Sem.run_pure,hs]
 ·intro hia
  have hi0:i=0:=by omega
  have ha0:a.toNat=0:=by omega
  obtain ⟨hA,hc⟩:=hz hi0
  rw [ha0]
  constructor
  ·split
   ·exact hA
   ·rw [Nat.zero_mul,hA]
    cases p'.A with
    | none=>rfl
    | some A=>simp [Addr.add]
  ·omega
 ·intro hlt
  obtain ⟨A,hA,hsp,hA'⟩:=hpos (by omega)
  refine ⟨A,hA,hsp,?_⟩
  rw [if_neg (by omega),hA',hps,Nat.add_mul]
  simp only [Option.map_some]
  rw [add_none rfl]
  simp [Nat.add_assoc]
theorem l_extract (hρ:OpsOk m ρ ρ') {x:Operand}{k:Nat}(ho:o.op=.extract x k) {l:List AV}(hx:ρ x=.tup l) (hk:l[k]?=some v):LOk G.P m w ρ' o v:=by
 have hxv:=hρ x
 rw [hx] at hxv
 simp only [VR] at hxv
 obtain ⟨vs,hxe,hF⟩:=hxv
 obtain ⟨y,hy,hr⟩:=hF.get k v hk
 refine ⟨y,?_,hr⟩
 simp only [execOp,ho]
 refine exec_val ?_
 rw [hxe]
 have:vs[k]?=some y:=by simpa using hy
 simp [Instr.extract,this]
theorem l_len (hG:GOk G) (hρ:OpsOk m ρ ρ') {x:Operand}{t:TypeId}{args:Array Operand}{ts:Array TypeId}(ho:o.op=.call ⟨.builtin .len,args,ts⟩) (ha:args.toList=[x]) (hts:ts.toList=[t]) {ti:TI}(ht:lookT G.T t=some ti)
  (hc:(∃ e id i n,ti.u=.slice e/\ρ x=.c (.sl id i n)/\v=.c (.v (.int .i64 (n:Int))))\/(∃ s:ByteArray,ti.u=.string/\ρ x=.c (.v (.string s))/\v=.c (.v (.int .i64 (s.size:Int))))):LOk G.P m w ρ' o v:=by
 have hargs:args=#[x]:=by apply Array.ext';simpa using ha
 have htss:ts=#[t]:=by apply Array.ext';simpa using hts
 subst hargs;subst htss
 have hut:=hG.c.t.u t ti ht
 rcases hc with ⟨e,id,i,n,hu,hx,rfl⟩ | ⟨s,hu,hx,rfl⟩
 ·have hxv:=hρ x
  rw [hx] at hxv
  obtain ⟨p,A',c',hp,hxe,_⟩:=hxv
  rw [hu] at hut
  refine ⟨_,?_,(rfl:CR m (.v (.int .i64 (n:Int))) (.int .i64 (n:Int)))⟩
  simp only [execOp,ho,resolve,invoke,builtin,Sem.run_bind,Sem.run_pure,Result.andThen_ok,List.map_toArray,List.map_cons,List.map_nil,hxe]
  simp [Builtin.len_,Sem.run_bind,run_underlying' hut,goInt]
 ·have hxv:=hρ x
  rw [hx] at hxv
  have hxe:ρ' x=.string s:=hxv
  rw [hu] at hut
  refine ⟨_,?_,(rfl:CR m (.v (.int .i64 (s.size:Int))) (.int .i64 (s.size:Int)))⟩
  simp only [execOp,ho,resolve,invoke,builtin,Sem.run_bind,Sem.run_pure,Result.andThen_ok,List.map_toArray,List.map_cons,List.map_nil,hxe]
  simp [Builtin.len_,Sem.run_bind,run_underlying' hut,goInt]
theorem VR_int {k:IntKind}{n:Int}{y:Value}(hv:VR m (.c (.v (.int k n))) y):y=.int k n:=hv
theorem VR_str {s:ByteArray}{y:Value}(hv:VR m (.c (.v (.string s))) y):y=.string s:=hv
theorem eqGuard_int {P:Program}{op:BinOp}{t:TypeId}{x y:Operand}{k k':IntKind}{a b:Int}:(eqGuard op t x y (.int k a) (.int k' b)).run P w=.ok () w:=by
 unfold eqGuard
 split <;> simp
theorem eqGuard_str {P:Program}{op:BinOp}{t:TypeId}{x y:Operand}{a b:ByteArray}:(eqGuard op t x y (.string a) (.string b)).run P w=.ok () w:=by
 unfold eqGuard
 split <;> simp
theorem l_bin {op:BinOp}{t t':TypeId}{x y:Operand}(ho:o.op=.binOp op t x y t') {r:Value}(hg:(eqGuard op t x y (ρ' x) (ρ' y)).run G.P w=.ok () w) (hr:(binOp op t (ρ' x) (ρ' y)).run G.P w=.ok r w) (hv:VR m v r):LOk G.P m w ρ' o v:=by
 refine ⟨r,?_,hv⟩
 simp only [execOp,ho]
 refine exec_val ?_
 simp [Sem.run_bind,hg,hr]
theorem l_arith (hρ:OpsOk m ρ ρ') {op:BinOp}{t t':TypeId}{x y:Operand}(ho:o.op=.binOp op t x y t') {k k':IntKind}{a b r:Int}(hx:ρ x=.c (.v (.int k a))) (hy:ρ y=.c (.v (.int k' b)))
  (hr:(binOp op t (.int k a) (.int k' b)).run G.P w=.ok (.int k r) w):LOk G.P m w ρ' o (.c (.v (.int k r))):=by
 have h1:=hρ x
 have h2:=hρ y
 rw [hx] at h1
 rw [hy] at h2
 refine l_bin ho ?_ ?_ (rfl:CR m (.v (.int k r)) (.int k r))
 ·rw [VR_int h1,VR_int h2];exact eqGuard_int
 ·rw [VR_int h1,VR_int h2];exact hr
theorem run_rem {P:Program}{t:TypeId}{k:IntKind}{a b:Int}(hb:b ≠ 0):(binOp .rem t (.int k a) (.int k b)).run P w=.ok (.int k (a.tmod b)) w:=by
 simp [binOp,Op.intDiv,hb]
theorem run_quo {P:Program}{t:TypeId}{k:IntKind}{a b:Int}(hb:b ≠ 0):(binOp .quo t (.int k a) (.int k b)).run P w=.ok (.int k (k.wrap (a.tdiv b))) w:=by
 simp [binOp,Op.intDiv,hb]
theorem run_shl {P:Program}{t:TypeId}{k k':IntKind}{a b:Int}(hb:0<=b):(binOp .shl t (.int k a) (.int k' b)).run P w=.ok (.int k (k.wrap (a*2^(min b.toNat k.bits)))) w:=by
 simp [binOp,Op.shift,show ¬ b<0 by omega]
theorem run_shr {P:Program}{t:TypeId}{k k':IntKind}{a b:Int}(hb:0<=b):(binOp .shr t (.int k a) (.int k' b)).run P w=.ok (.int k (a.fdiv (2^(min b.toNat k.bits)))) w:=by
 simp [binOp,Op.shift,show ¬ b<0 by omega]
theorem l_eqs (hG:GOk G) (hρ:OpsOk m ρ ρ') {op:BinOp}{t t':TypeId}{x y:Operand}(ho:o.op=.binOp op t x y t') {l k:List AC}{r:Bool}(hx:ρ x=.agg l) (hy:ρ y=.agg k) (ht:G.eqs.contains (t,l.map kindAC)=true) (hr:ceqs l k=some r)
  (hop:(op=.eql/\v=.c (.v (.bool r)))\/(op=.neq/\v=.c (.v (.bool !r)))):LOk G.P m w ρ' o v:=by
 have h1:=hρ x
 have h2:=hρ y
 rw [hx] at h1
 rw [hy] at h2
 simp only [VR] at h1 h2
 obtain ⟨xs,hxe,hf1⟩:=h1
 obtain ⟨ys,hye,hf2⟩:=h2
 have htm:(t,l.map kindAC) ∈ G.eqs:=by simpa using ht
 have he:=hG.e.e t _ htm m l k xs ys r w rfl hr hf1 hf2
 rcases hop with ⟨rfl,rfl⟩ | ⟨rfl,rfl⟩
 ·refine l_bin ho ?_ ?_ (rfl:CR m (.v (.bool r)) (.bool r))
  ·rw [hxe,hye];exact run_eqGuard_agg w _ _ _ _ _ _ (hG.e.g t _ htm)
  ·rw [hxe,hye,run_eql_struct,he];rfl
 ·refine l_bin ho ?_ ?_ (rfl:CR m (.v (.bool !r)) (.bool !r))
  ·rw [hxe,hye];exact run_eqGuard_agg w _ _ _ _ _ _ (hG.e.g t _ htm)
  ·rw [hxe,hye,run_neq_struct,he];rfl
end
end
section
open Go Go.RowKit
theorem fold_put (off:Nat):∀ (l:List Value) (k:Nat) (cs:Array Value),off+k+l.length<=cs.size →
  ((l.zipIdx k).foldl (fun cs (x:Value × Nat)=>cs.setIfInBounds (off+x.2) x.1) cs).toList=cs.toList.take (off+k)++l++cs.toList.drop (off+k+l.length)
 | [],k,cs,_=>by simp
 | x::l,k,cs,h=>by
  simp only [List.zipIdx_cons,List.foldl_cons]
  have hlen:off+(k+1)+l.length<=(cs.setIfInBounds (off+k) x).size:=by simp at h ⊢;omega
  rw [fold_put off l (k+1) (cs.setIfInBounds (off+k) x) hlen]
  have hlt:off+k<cs.toList.length:=by simp at h ⊢;omega
  simp only [Array.toList_setIfInBounds,List.length_cons]
  rw [show off+(k+1)+l.length=off+k+(l.length+1) by omega,List.drop_set_of_lt (by omega),show off+(k+1)=(off+k)+1 by omega,List.take_succ_eq_append_getElem (by simpa using hlt),
   List.take_set_of_le (Nat.le_refl _),List.getElem_set_self]
  simp
theorem fill_put {off:Nat}{v:Value}{cs:Array Value}(h:off+v.cells.size<=cs.size) :
  (v.cells.zipIdx.foldl (fun cs (x:Value × Nat)=>cs.setIfInBounds (off+x.2) x.1) cs).toList=cs.toList.take off++v.cells.toList++cs.toList.drop (off+v.cells.size):=by
 rw [<-Array.foldl_toList,Array.toList_zipIdx]
 have:=fold_put off v.cells.toList 0 cs (by simpa using h)
 simpa using this
section
variable {G:Ctx}{o:Oper}{ρ:Operand->AV}{ρ':Operand->Value}{h:AHeap}{w:World}{B:Nat}{m:List Pl}{v:AV}
theorem acOk_one {c:AC}{y:Value}(h:acOk c=true) (hr:CR m c y):oneV y=true:=by
 cases c with
 | any=>cases h
 | v x=>simp only [CR] at hr;subst hr;exact h
 | ptr id i j=>obtain ⟨_,_,_,_,_,rfl⟩:=hr;rfl
 | sl id i n=>obtain ⟨_,_,_,_,rfl,_⟩:=hr;rfl
theorem oneV_cells {y:Value}(h:oneV y=true):y.cells=#[y]:=by
 cases y <;> simp_all [oneV,Value.cells]
theorem cellsOf_ok {a:AV}{l:List AC}{y:Value}(h:cellsOf a=some l) (hv:VR m a y):F2 (CR m) l y.cells.toList/\∀ x ∈ y.cells.toList,oneV x=true:=by
 cases a with
 | c x=>
  simp only [cellsOf] at h
  split at h
  ·rename_i ha
   simp only [Option.some.injEq] at h
   subst h
   have hr:CR m x y:=by simpa [VR] using hv
   have h1:=acOk_one ha hr
   rw [oneV_cells h1]
   exact ⟨.cons hr .nil,by simpa using h1⟩
  ·cases h
 | agg l'=>
  simp only [cellsOf] at h
  split at h
  ·rename_i ha
   simp only [Option.some.injEq] at h
   subst h
   simp only [VR] at hv
   obtain ⟨cs,rfl,hF⟩:=hv
   refine ⟨hF,?_⟩
   show ∀ x ∈ cs.toList,oneV x=true
   have ha':=List.all_eq_true.1 ha
   clear ha
   generalize cs.toList=k at hF
   induction hF with
   | nil=>intro x hx;cases hx
   | cons hr _ ih=>
    intro x hx
    cases hx with
    | head=>exact acOk_one (ha' _ (by simp)) hr
    | tail _ hx=>exact ih (fun y hy=>ha' y (by simp [hy])) x hx
  ·cases h
 | arr n f=>simp [cellsOf] at h
 | tup l=>simp [cellsOf] at h
def FOk (G:Ctx):Prop:=∀ t ti fs,lookT G.T t=some ti->ti.u=.struct fs->∀ f ∈ fs.toList,(lookT G.T f.type).isSome
theorem fills_ok {T:List TI}{P:Program}(hT:TOk P T) (hρ:OpsOk m ρ ρ') {fs:List Field}{places:List (Nat × Nat)}(hpl:∀ (k:Nat) f,fs[k]?=some f->∀ ti,lookT T f.type=some ti->places[k]?=some (f.offset,ti.size)) :
  ∀ (ps:List (Nat × Operand)) (l:List (Nat × List AC)) (z r:List AC) (zc:Array Value),partsAt T fs (ps.map fun p=>(p.1,ρ p.2))=some l->fills z l=some r->F2 (CR m) z zc.toList →
   ∃ cells,Instr.fill (places.toArray[·]?) zc (ps.map fun p=>(p.1,ρ' p.2))=some cells/\F2 (CR m) r cells.toList
 | [],l,z,r,zc,hp,hf,hz=>by
  simp only [List.map_nil,partsAt,Option.some.injEq] at hp
  subst hp
  simp only [fills,Option.some.injEq] at hf
  subst hf
  exact ⟨zc,rfl,hz⟩
 | (k,x)::ps,l,z,r,zc,hp,hf,hz=>by
  simp only [List.map_cons,partsAt] at hp
  split at hp
  ·rename_i f lx r' hfk hcx hpr
   split at hp
   ·rename_i ti hti
    split at hp
    ·rename_i hlen
     simp only [Option.some.injEq] at hp
     subst hp
     simp only [fills] at hf
     split at hf
     ·rename_i hle
      obtain ⟨hF,_⟩:=cellsOf_ok hcx (hρ x)
      have hl1:=hF.length
      have hl2:=hz.length
      have hle':f.offset+(ρ' x).cells.size<=zc.size:=by
       have:(ρ' x).cells.size=lx.length:=by rw [hl1];simp
       have:zc.size=z.length:=by rw [hl2];simp
       omega
      have hput:=fill_put (off:=f.offset) (v:=ρ' x) (cs:=zc) hle'
      have hsz:(ρ' x).cells.size=lx.length:=by rw [hl1];simp
      obtain ⟨cells,hc1,hc2⟩:=fills_ok hT hρ hpl ps r' _ r ((ρ' x).cells.zipIdx.foldl (fun cs (x:Value × Nat)=>cs.setIfInBounds (f.offset+x.2) x.1) zc) hpr hf (by
       rw [hput,hsz]
       exact ((hz.take _).append hF).append (hz.drop _))
      refine ⟨cells,?_,hc2⟩
      have hplk:=hpl k f hfk ti hti
      have hplk':(places.toArray)[k]?=some (f.offset,ti.size):=by simpa using hplk
      simp only [List.map_cons,Instr.fill,hplk']
      rw [if_neg (by simp;omega)]
      exact hc1
     ·cases hf
    ·cases hp
   ·cases hp
  ·cases hp
theorem l_build (hG:GOk G) (hF:FOk G) (hρ:OpsOk m ρ ρ') {t:TypeId}{ps:Array (Nat × Operand)}(ho:o.op=.build t ps) {ti:TI}{fs:Array Field}(ht:lookT G.T t=some ti) (hu:ti.u=.struct fs) {l:List (Nat × List AC)}{r:List AC}
  (hp:partsAt G.T fs.toList (ps.toList.map fun p=>(p.1,ρ p.2))=some l) (hr:fills (ofCells ti.zero) l=some r):LOk G.P m w ρ' o (.agg r):=by
 have hut:=hG.c.t.u t ti ht
 rw [hu] at hut
 obtain ⟨inf,z,hi,hs,hby,hz,hzc⟩:=hG.c.t.i _ _ ht
 have hpl:∀ gs:List Field,(∀ f ∈ gs,(lookT G.T f.type).isSome)->∃ places,gs.mapM (fun f=>(G.P.info? f.type).map fun i=>(f.offset,i.size))=some places ∧
   ∀ (k:Nat) f,gs[k]?=some f->∀ ti,lookT G.T f.type=some ti->places[k]?=some (f.offset,ti.size):=by
  intro gs
  induction gs with
  | nil=>intro _;exact ⟨[],by simp,fun k f hk=>by simp at hk⟩
  | cons g gs ih=>
   intro hg
   obtain ⟨tg,htg⟩:=Option.isSome_iff_exists.1 (hg g (by simp))
   obtain ⟨ig,zg,hig,hsg,_,_,_⟩:=hG.c.t.i _ _ htg
   obtain ⟨places,h1,h2⟩:=ih fun f hf=>hg f (by simp [hf])
   refine ⟨(g.offset,ig.size)::places,by simp [List.mapM_cons,hig,h1],?_⟩
   intro k f hk tf htf
   cases k with
   | zero=>
    simp only [List.getElem?_cons_zero,Option.some.injEq] at hk
    subst hk
    rw [htg] at htf
    cases htf
    simp [hsg]
   | succ k=>simpa using h2 k f (by simpa using hk) tf htf
 obtain ⟨places,h1,h2⟩:=hpl fs.toList (hF t ti fs ht hu)
 obtain ⟨cells,hc1,hc2⟩:=fills_ok hG.c.t hρ h2 ps.toList l (ofCells ti.zero) r z.cells hp hr (by rw [hzc];exact F2_ofCells _ _)
 refine ⟨.agg cells,?_,⟨cells,rfl,hc2⟩⟩
 simp only [execOp,ho]
 refine exec_val (run_build w t _ cells ?_)
 unfold Program.built
 rw [hi,hut]
 simp only [hz,h1]
 rw [<-hc1]
 congr 1
 simp
theorem l_buildA (hG:GOk G) {t:TypeId}{ps:Array (Nat × Operand)}(ho:o.op=.build t ps) {ti te:TI}{k:Nat}{e:TypeId}(ht:lookT G.T t=some ti) (hu:ti.u=.array k e) (hte:lookT G.T e=some te) (hp:ps.toList=[]):LOk G.P m w ρ' o (.agg (ofCells ti.zero)):=by
 have hut:=hG.c.t.u t ti ht
 rw [hu] at hut
 obtain ⟨inf,z,hi,hs,hby,hz,hzc⟩:=hG.c.t.i _ _ ht
 obtain ⟨ie,ze,hie,_,_,_,_⟩:=hG.c.t.i _ _ hte
 have hps:ps=#[]:=by
  apply Array.toList_inj.1
  simpa using hp
 refine ⟨.agg z.cells,?_,⟨z.cells,rfl,by rw [hzc];exact F2_ofCells _ _⟩⟩
 simp only [execOp,ho]
 refine exec_val (run_build w t _ z.cells ?_)
 unfold Program.built
 rw [hi,hut]
 simp [hz,hie,hps,Instr.fill]
theorem fillsA_ok (hρ:OpsOk m ρ ρ') {sz:Nat} :
  ∀ (ps:List (Nat × Operand)) (l:List (Nat × List AC)) (z r:List AC) (zc:Array Value),partsA sz (ps.map fun p=>(p.1,ρ p.2))=some l->fills z l=some r->F2 (CR m) z zc.toList →
   ∃ cells,Instr.fill (fun i=>some (i*sz,sz)) zc (ps.map fun p=>(p.1,ρ' p.2))=some cells/\F2 (CR m) r cells.toList
 | [],l,z,r,zc,hp,hf,hz=>by
  simp only [List.map_nil,partsA,Option.some.injEq] at hp
  subst hp
  simp only [fills,Option.some.injEq] at hf
  subst hf
  exact ⟨zc,rfl,hz⟩
 | (k,x)::ps,l,z,r,zc,hp,hf,hz=>by
  simp only [List.map_cons,partsA] at hp
  split at hp
  ·rename_i lx r' hcx hpr
   split at hp
   ·rename_i hlen
    simp only [Option.some.injEq] at hp
    subst hp
    simp only [fills] at hf
    split at hf
    ·rename_i hle
     obtain ⟨hF,_⟩:=cellsOf_ok hcx (hρ x)
     have hl1:=hF.length
     have hl2:=hz.length
     have hle':k*sz+(ρ' x).cells.size<=zc.size:=by
      have:(ρ' x).cells.size=lx.length:=by rw [hl1];simp
      have:zc.size=z.length:=by rw [hl2];simp
      omega
     have hput:=fill_put (off:=k*sz) (v:=ρ' x) (cs:=zc) hle'
     have hsz:(ρ' x).cells.size=lx.length:=by rw [hl1];simp
     obtain ⟨cells,hc1,hc2⟩:=fillsA_ok hρ ps r' _ r ((ρ' x).cells.zipIdx.foldl (fun cs (x:Value × Nat)=>cs.setIfInBounds (k*sz+x.2) x.1) zc) hpr hf (by
      rw [hput,hsz]
      exact ((hz.take _).append hF).append (hz.drop _))
     refine ⟨cells,?_,hc2⟩
     simp only [List.map_cons,Instr.fill]
     rw [if_neg (by simp;omega)]
     exact hc1
    ·cases hf
   ·cases hp
  ·cases hp
theorem fills_all {p:AC->Prop}:∀ (l:List (Nat × List AC)) (z r:List AC),fills z l=some r->(∀ c ∈ z,p c)->(∀ x ∈ l,∀ c ∈ x.2,p c)->∀ c ∈ r,p c
 | [],z,r,hf,hz,_=>by
  simp only [fills,Option.some.injEq] at hf
  subst hf
  exact hz
 | (off,x)::l,z,r,hf,hz,hl=>by
  simp only [fills] at hf
  split at hf
  ·refine fills_all l _ r hf (fun c hc=>?_) fun y hy=>hl y (List.mem_cons_of_mem _ hy)
   rcases List.mem_append.1 hc with hc|hc
   ·rcases List.mem_append.1 hc with hc|hc
    ·exact hz c (List.mem_of_mem_take hc)
    ·exact hl _ (List.mem_cons_self ..) c hc
   ·exact hz c (List.mem_of_mem_drop hc)
  ·cases hf
theorem fills_len:∀ (l:List (Nat × List AC)) (z r:List AC),fills z l=some r->r.length=z.length
 | [],z,r,hf=>by
  simp only [fills,Option.some.injEq] at hf
  rw [hf]
 | (off,x)::l,z,r,hf=>by
  simp only [fills] at hf
  split at hf
  ·rename_i hle
   rw [fills_len l _ r hf]
   simp only [List.length_append,List.length_take,List.length_drop]
   omega
  ·cases hf
theorem partsA_all {s:Nat}:∀ (ps:List (Nat × AV)) (l:List (Nat × List AC)),partsA s ps=some l->∀ x ∈ l,∀ c ∈ x.2,acOk c=true
 | [],l,h,x,hx=>by
  simp only [partsA,Option.some.injEq] at h
  subst h
  cases hx
 | (k,a)::ps,l,h,x,hx=>by
  simp only [partsA] at h
  split at h
  ·rename_i la r hc hr
   split at h
   ·simp only [Option.some.injEq] at h
    subst h
    rcases List.mem_cons.1 hx with rfl|hx
    ·intro c hcm
     cases a with
     | c y=>
      simp only [cellsOf] at hc
      split at hc
      ·rename_i hy
       cases hc
       rcases List.mem_cons.1 hcm with rfl|h'
       ·exact hy
       ·cases h'
      ·cases hc
     | agg y=>
      simp only [cellsOf] at hc
      split at hc
      ·rename_i hy
       cases hc
       exact List.all_eq_true.1 hy c hcm
      ·cases hc
     | arr n f=>simp [cellsOf] at hc
     | tup y=>simp [cellsOf] at hc
    ·exact partsA_all ps r hr x hx
   ·cases h
  ·cases h
theorem valsOf_list:∀ {l:List AC}{k:List Value},valsOf l=some k->l=ofCells k
 | [],k,h=>by
  simp only [valsOf,Option.some.injEq] at h
  subst h
  rfl
 | a::l,k,h=>by
  simp only [valsOf] at h
  split at h
  ·rename_i x r hx hr
   simp only [Option.some.injEq] at h
   subst h
   cases a with
   | v y=>
    simp only [valOf,Option.some.injEq] at hx
    subst hx
    rw [valsOf_list hr]
    rfl
   | _=>simp [valOf] at hx
  ·cases h
theorem l_buildP (hG:GOk G) (hρ:OpsOk m ρ ρ') {t:TypeId}{ps:Array (Nat × Operand)}(ho:o.op=.build t ps) {ti te:TI}{k n s:Nat}{e:TypeId}(ht:lookT G.T t=some ti) (hu:ti.u=.array k e) (hte:lookT G.T e=some te) (hsh:ti.shape=some (n,s)) {l:List (Nat × List AC)}{r:List AC}{vs:List Value}
  (hp:partsA te.size (ps.toList.map fun p=>(p.1,ρ p.2))=some l) (hr:fills (ofCells ti.zero) l=some r) (hv:valsOf r=some vs):LOk G.P m w ρ' o (.arr n fun i=>vs.getD i undef):=by
 have hut:=hG.c.t.u t ti ht
 rw [hu] at hut
 obtain ⟨inf,z,hi,hs,hby,hz,hzc⟩:=hG.c.t.i _ _ ht
 obtain ⟨ie,ze,hie,hse,_,_,_⟩:=hG.c.t.i _ _ hte
 obtain ⟨_,_,_,hzr,hn0⟩:=hG.c.t.shape t _ n s ht hsh
 obtain ⟨cells,hc1,hc2⟩:=fillsA_ok hρ (sz:=te.size) ps.toList l (ofCells ti.zero) r z.cells hp hr (by rw [hzc];exact F2_ofCells _ _)
 have hrv:=valsOf_list hv
 have hlen:vs.length=n:=by
  have h1:=fills_len l _ r hr
  rw [hrv] at h1
  have h2:(ofCells vs).length=vs.length:=by simp [ofCells]
  have h3:(ofCells ti.zero).length=ti.zero.length:=by simp [ofCells]
  rw [h2,h3,hzr,List.length_replicate] at h1
  exact h1
 have hcv:cells.toList=vs:=by
  rw [hrv] at hc2
  have:∀ (l:List Value) (k:List Value),F2 (CR m) (ofCells l) k->k=l:=by
   intro l
   induction l with
   | nil=>intro k h;cases k with
    | nil=>rfl
    | cons a k=>cases h
   | cons a l ih=>intro k h;cases h with
    | cons h1 h2=>rw [ih _ h2,(show _=a from h1)]
  exact this _ _ hc2
 have hall:∀ c ∈ r,acOk c=true:=by
  refine fills_all (p:=fun c=>acOk c=true) l _ r hr (fun c hc=>?_) (partsA_all _ l hp)
  obtain ⟨x,hx,rfl⟩:=List.mem_map.1 hc
  exact hG.c.t.zone t ti ht x hx
 refine ⟨.agg cells,?_,?_,fun i hi'=>?_⟩
 ·simp only [execOp,ho]
  refine exec_val (run_build w t _ cells ?_)
  unfold Program.built
  rw [hi,hut]
  simp only [hz,hie,hse]
  rw [<-hc1]
  congr 1
  simp
 ·have e2:(List.range n).map (fun i=>vs.getD i undef)=vs:=by
   refine List.ext_getElem (by simp [hlen]) fun i h1 h2=>?_
   simp [List.getD_eq_getElem?_getD,h2]
  rw [e2,<-hcv]
 ·have h2:i<vs.length:=by omega
  show oneV (vs.getD i undef)=true
  rw [List.getD_eq_getElem?_getD,List.getElem?_eq_getElem h2]
  have hm:AC.v vs[i] ∈ r:=by rw [hrv];exact List.mem_map.2 ⟨_,List.getElem_mem h2,rfl⟩
  exact hall _ hm
theorem valss_some':∀ {l:List (List AC)}{k:List (List Value)},valss l=some k->l=k.map ofCells
 | [],k,h=>by simp [valss] at h;subst h;rfl
 | a::l,k,h=>by
  simp only [valss] at h
  split at h
  ·rename_i x r hx hr
   simp only [Option.some.injEq] at h
   subst h
   rw [List.map_cons,<-valss_some' hr]
   congr 1
   clear hr
   induction a generalizing x with
   | nil=>simp [valsOf] at hx;subst hx;rfl
   | cons c a ih=>
    simp only [valsOf] at hx
    split at hx
    ·rename_i y ys hy hys
     simp only [Option.some.injEq] at hx
     subst hx
     have:c=.v y:=by
      cases c <;> simp [valOf] at hy
      rw [hy]
     rw [this]
     show _=AC.v y::ofCells ys
     rw [<-ih _ hys]
    ·cases hx
  ·cases h
theorem valRow_el {c:Cont}{n:Nat}{f:Nat->List Value}(h:valRow c=some (n,f)):c.n=n/\c.sz=1/\∀ q,q<n->c.el q=ofCells (f q):=by
 unfold valRow at h
 split at h
 ·simp only [Option.some.injEq,Prod.mk.injEq] at h
  obtain ⟨rfl,rfl⟩:=h
  exact ⟨rfl,rfl,fun _ _=>rfl⟩
 ·rename_i l z
  simp only [Option.map_eq_some_iff,Prod.mk.injEq] at h
  obtain ⟨vs,hv,rfl,rfl⟩:=h
  have:=valss_some' hv
  subst this
  refine ⟨rfl,rfl,fun q hq=>?_⟩
  rw [List.length_map] at hq
  simp [Cont.el,List.getD_eq_getElem?_getD,hq]
 ·cases h
theorem l_convert (hG:GOk G) (hρ:OpsOk m ρ ρ') (H:HR B m h w) {s d e:TypeId}{x:Operand}(ho:o.op=.convert s d x) {id i n mm:Nat}{f:Nat->List Value}{ts td te:TI}(hx:ρ x=.c (.sl id i n)) (hts:lookT G.T s=some ts) (hus:ts.u=.slice e)
  (htd:lookT G.T d=some td) (hud:td.u=.string) (hte:lookT G.T e=some te) (hue:te.u=.int .u8) (hf:((h.at id).bind fun b=>valRow b.c)=some (mm,f)) (hle:i+n<=mm) (hall:allB n (fun k=>isU8 (f (i+k)))=true) :
  LOk G.P m w ρ' o (.c (.v (.string (bytesOf f i n)))):=by
 have hxv:=hρ x
 rw [hx] at hxv
 obtain ⟨p,A',c',hp,hxe,_,hz,hpos⟩:=hxv
 have us:=hG.c.t.u s ts hts
 rw [hus] at us
 have ud:=hG.c.t.u d td htd
 rw [hud] at ud
 have ue:=hG.c.t.u e te hte
 rw [hue] at ue
 refine ⟨.string (bytesOf f i n),?_,rfl⟩
 simp only [execOp,ho]
 refine exec_val ?_
 rw [hxe]
 obtain ⟨b,hb,hv⟩:=Option.bind_eq_some_iff.1 hf
 obtain ⟨hn,hsz,hel⟩:=valRow_el hv
 obtain ⟨p',hp',hbr⟩:=H.at_ hb
 have:p'=p:=by rw [hp] at hp';cases hp';rfl
 subst this
 have hu8:∀ k,k<n->∃ a:Int,f (i+k)=[.int .u8 a]:=by
  intro k hk
  have:=List.all_eq_true.1 hall k (List.mem_range.2 hk)
  unfold isU8 at this
  split at this
  ·rename_i a e;exact ⟨a,e⟩
  ·cases this
 rcases Nat.eq_zero_or_pos n with h0|h0
 ·subst h0
  have hbz:bytesOf f i 0=ByteArray.empty:=rfl
  rw [hbz]
  cases A' with
  | none=>exact run_convert_bytes_nil w s e us ue 0 c' d ud
  | some a=>
   rw [run_convert_bytes_string w s d e _ 0 c' us ue ud,run_bytesToString w a 0 c' [] (by simp [loadCells,loadCellsFrom])]
   rfl
 ·obtain ⟨A,hA,hsp,hA'⟩:=hpos h0
  rw [hA']
  have hps:p'.sz=1:=by rw [hbr.sz,hsz]
  have hcell:∀ k,k<n->w.cell? ⟨A.block,A.off+i*p'.sz+k,none⟩=some (.int .u8 (((List.range n).map fun k=>match f (i+k) with | [.int _ a]=>a | _=>0).getD k 0)):=by
   intro k hk
   obtain ⟨a,ha⟩:=hu8 k hk
   obtain ⟨A2,y,hA2,_,hy,hcr,_⟩:=hbr.cell (i+k) 0 (.v (.int .u8 a)) (by omega) (by rw [hel _ (by omega),ha];rfl)
   have:A2=A:=by rw [hA] at hA2;cases hA2;rfl
   subst this
   have hye:y=.int .u8 a:=hcr
   subst hye
   have:((List.range n).map fun k=>match f (i+k) with | [.int _ a]=>a | _=>0).getD k 0=a:=by simp [List.getD_eq_getElem?_getD,hk,ha]
   rw [this,<-hy,hps]
   congr 2
   omega
  rw [run_convert_bytes_arg w s e us ue _ _ n c' _ (by simp) hcell d ud]
  have hstr:strOfNums ((List.range n).map fun k=>match f (i+k) with | [.int _ a]=>a | _=>0)=bytesOf f i n:=by
   unfold strOfNums bytesOf
   congr 1
   apply congrArg
   rw [List.map_map]
   apply List.map_congr_left
   intro k hk
   obtain ⟨a,ha⟩:=hu8 k (List.mem_range.1 hk)
   simp [ha,u8Of]
  rw [hstr]
theorem light_ok (hG:GOk G) (hF:FOk G) (hρ:OpsOk m ρ ρ') (H:HR B m h w) (he:(alight G o ρ h).eval=some v):LOk G.P m w ρ' o v:=by
 unfold alight at he
 split at he
 ·rename_i x ho
  exact l_move hρ (.inl ho) (by simpa [Tr.eval] using he.symm)
 ·rename_i x ho
  exact l_move hρ (.inr ho) (by simpa [Tr.eval] using he.symm)
 ·
  rename_i c a b ho
  split at he
  ·rename_i t hc
   have hcv:=hρ c
   rw [hc] at hcv
   have hcv':ρ' c=.bool t:=hcv
   rw [Tr.eval_ite] at he
   cases t with
   | true=>
    simp only [if_true,Tr.eval,Option.some.injEq] at he
    subst he
    exact ⟨ρ' a,by simp [execOp,ho,hcv',asBool,Sem.run_bind],hρ a⟩
   | false=>
    simp only [Bool.false_eq_true,if_false,Tr.eval,Option.some.injEq] at he
    subst he
    exact ⟨ρ' b,by simp [execOp,ho,hcv',asBool,Sem.run_bind],hρ b⟩
  ·cases he
 ·rename_i t a ho
  exact l_load hG hρ H ho he
 ·
  rename_i x ho
  split at he
  ·rename_i id i j hx
   simp only [Tr.eval,Option.some.injEq] at he
   subst he
   have hxv:=hρ x
   rw [hx] at hxv
   obtain ⟨p,A,hp,hA,hsp,hxe⟩:=hxv
   exact ⟨_,by simp [execOp,ho,hxe],⟨p,A,hp,hA,hsp,rfl⟩⟩
  ·exact apure_ok (by simp [ho]) hρ he
 ·
  rename_i s x k ho
  split at he
  ·rename_i id i j f hx hf
   split at he
   ·rename_i ti hti
    simp only [Tr.eval,Option.some.injEq] at he
    subst he
    exact l_fieldAddr hG hρ ho hx hf hti
   ·cases he
  ·cases he
 ·
  rename_i t x k ho
  split at he
  ·rename_i l f hx hf
   split at he
   ·rename_i ti hti
    rw [Tr.eval_opt] at he
    exact l_field hG hρ ho hx hf hti he
   ·cases he
  ·cases he
 ·
  rename_i t x ix ho
  split at he
  ·rename_i e _ _ _ _ _ _ id i n q k ht hx hk
   split at he
   ·rename_i te b hte hb
    split at he
    ·rename_i hsz
     obtain ⟨h0,h1,hv⟩:=need2 he
     simp only [Tr.eval,Option.some.injEq] at hv
     subst hv
     exact l_indexAddr hG hρ H ho ht rfl hx hk hte hb hsz (by simpa using h0) (by simpa using h1)
    ·cases he
   ·cases he
  ·rename_i len e _ _ _ _ _ _ id i j q k ht hx hk
   split at he
   ·rename_i te b hte hb
    obtain ⟨h0,h1,hv⟩:=need2 he
    have h0':0<=k:=by simpa using h0
    have h1':k<(len:Int):=by simpa using h1
    have key:=l_indexArr (w:=w) (m:=m) hG hρ ho ht rfl hx hk hte h0' h1'
    split at hv
    ·rename_i sz nn ff hbc
     split at hv
     ·rename_i hc
      obtain ⟨hsz,hi,hj⟩:=hc
      simp only [Tr.eval,Option.some.injEq] at hv
      subst hv
      obtain ⟨y,hy,hr⟩:=key
      refine ⟨y,hy,?_⟩
      subst hi;subst hj
      obtain ⟨p,A,hp,hA,hsp,rfl⟩:=hr
      obtain ⟨p',hp',hbr⟩:=H.at_ hb
      have:p'=p:=by rw [hp] at hp';cases hp';rfl
      subst this
      have hps:p'.sz=te.size:=by rw [hbr.sz,hbc,<-hsz];rfl
      refine ⟨p',A,hp,hA,hsp,?_⟩
      rw [hps]
      simp
     ·cases hv
    ·simp only [Tr.eval,Option.some.injEq] at hv
     subst hv
     exact key
    ·cases hv
   ·cases he
  ·cases he
 ·
  rename_i t x ix ho
  split at he
  ·rename_i s q k ht hx hk
   obtain ⟨h0,h1,hv⟩:=need2 he
   simp only [Tr.eval,Option.some.injEq] at hv
   subst hv
   exact l_indexStr hG hρ ho ht rfl hx hk (by simpa using h0) (by simpa using h1)
  ·rename_i len e _ _ _ _ _ _ n f q k ht hx hk
   split at he
   ·rename_i te hte
    split at he
    ·rename_i hc
     obtain ⟨hs1,hag,hn⟩:=hc
     obtain ⟨h0,h1,hv⟩:=need2 he
     simp only [Tr.eval,Option.some.injEq] at hv
     subst hv
     exact l_indexArrV hG hρ ho ht rfl hx hk hte hs1 hag hn (by simpa using h0) (by simpa using h1)
    ·cases he
   ·cases he
  ·cases he
 ·
  rename_i t x lo hi mx ho
  split at he
  ·rename_i s ht hx
   split at he
   ·rename_i q a q' b hlo hhi
    obtain ⟨hb,hv⟩:=Tr.eval_need.1 he
    simp only [Tr.eval,Option.some.injEq] at hv
    subst hv
    exact l_sliceStr hG hρ ho ht rfl hx (q:=q) (q':=q') hlo hhi hb
   ·cases he
  ·rename_i e _ _ _ _ _ _ id i n ht hx
   split at he
   ·rename_i te bb hte hbb
    split at he
    ·rename_i hsz
     split at he
     ·rename_i q a q' b hlo hhi
      obtain ⟨hb,hv⟩:=Tr.eval_need.1 he
      simp only [Tr.eval,Option.some.injEq] at hv
      subst hv
      exact l_slice hG hρ H ho ht rfl hx hte hbb hsz (q:=q) (q':=q') hlo hhi hb
     ·cases he
    ·cases he
   ·cases he
  ·cases he
 ·
  rename_i x k ho
  split at he
  ·rename_i l hx
   rw [Tr.eval_opt] at he
   exact l_extract hρ ho hx he
  ·cases he
 ·
  rename_i t ps ho
  split at he
  ·rename_i fs _ _ zero _ _ sh ht
   split at he
   ·rename_i hp
    split at he
    ·rename_i n s0
     cases he
     have hf:fills (ofCells zero) []=some (ofCells zero):=rfl
     obtain ⟨x,h1,cs,rfl,hF2⟩:=l_build hG hF hρ ho ht rfl hp hf
     obtain ⟨_,_,_,hz,_⟩:=hG.c.t.shape t _ n s0 ht rfl
     have hlist:cs.toList=zero:=by
      have:∀ (l:List Value) (k:List Value),F2 (CR m) (ofCells l) k->k=l:=by
       intro l
       induction l with
       | nil=>intro k h;cases k with
        | nil=>rfl
        | cons a k=>cases h
       | cons a l ih=>intro k h;cases h with
        | cons h1 h2=>rw [ih _ h2,(show _=a from h1)]
      exact this _ _ hF2
     refine ⟨_,h1,?_,fun k hk=>?_⟩
     ·have hz':zero=List.replicate n (zero.headD undef):=hz
      have e:(List.range n).map (fun _=>zero.headD undef)=zero:=by
       rw [hz']
       simp [List.map_const']
       cases n <;> simp [List.replicate_succ]
      rw [e,<-hlist]
     ·have hz':zero=List.replicate n (zero.headD undef):=hz
      refine hG.c.t.zone t _ ht _ ?_
      show zero.headD undef ∈ zero
      have hm:zero.headD undef ∈ List.replicate n (zero.headD undef):=List.mem_replicate.2 ⟨by omega,rfl⟩
      rw [<-hz'] at hm
      exact hm
    ·rw [Tr.eval_opt] at he
     cases hf:fills (ofCells zero) [] with
     | none=>simp [hf] at he
     | some r=>
      rw [hf] at he
      simp only [Option.map_some,Option.some.injEq] at he
      subst he
      exact l_build hG hF hρ ho ht rfl hp hf
   ·rename_i l _ hp
    rw [Tr.eval_opt] at he
    cases hf:fills (ofCells zero) l with
    | none=>simp [hf] at he
    | some r=>
     rw [hf] at he
     simp only [Option.map_some,Option.some.injEq] at he
     subst he
     exact l_build hG hF hρ ho ht rfl hp hf
   ·cases he
  ·rename_i k e _ _ zero _ _ n s0 ht
   split at he
   ·rename_i te hp hte
    cases he
    obtain ⟨x,h1,cs,rfl,hF2⟩:=l_buildA (m:=m) (w:=w) (ρ':=ρ') hG ho ht rfl hte hp
    obtain ⟨_,_,_,hz,_⟩:=hG.c.t.shape t _ n s0 ht rfl
    have hlist:cs.toList=zero:=by
     have:∀ (l:List Value) (k:List Value),F2 (CR m) (ofCells l) k->k=l:=by
      intro l
      induction l with
      | nil=>intro k h;cases k with
       | nil=>rfl
       | cons a k=>cases h
      | cons a l ih=>intro k h;cases h with
       | cons h1 h2=>rw [ih _ h2,(show _=a from h1)]
     exact this _ _ hF2
    refine ⟨_,h1,?_,fun k hk=>?_⟩
    ·have hz':zero=List.replicate n (zero.headD undef):=hz
     have e:(List.range n).map (fun _=>zero.headD undef)=zero:=by
      rw [hz']
      simp [List.map_const']
      cases n <;> simp [List.replicate_succ]
     rw [e,<-hlist]
    ·have hz':zero=List.replicate n (zero.headD undef):=hz
     refine hG.c.t.zone t _ ht _ ?_
     show zero.headD undef ∈ zero
     have hm:zero.headD undef ∈ List.replicate n (zero.headD undef):=List.mem_replicate.2 ⟨by omega,rfl⟩
     rw [<-hz'] at hm
     exact hm
   ·rename_i te hte _
    split at he
    ·rename_i l hp
     rw [Tr.eval_opt] at he
     cases hf:fills (ofCells zero) l with
     | none=>simp [hf] at he
     | some r=>
      cases hv:valsOf r with
      | none=>simp [hf,hv] at he
      | some vs=>
       simp only [hf,hv,Option.bind_some,Option.map_some,Option.some.injEq] at he
       subst he
       exact l_buildP hG hρ ho ht rfl hte rfl hp hf hv
    ·cases he
   ·cases he
  ·cases he
 ·
  rename_i op t x y t' ho
  have hsel:∀ cs b,o.op ≠ .select cs b:=by simp [ho]
  split at he
  ·rename_i a b hx hy
   split at he
   ·rename_i hc
    rw [Tr.eval_opt] at he
    cases hq:ceqs a b with
    | none=>simp [hq] at he
    | some r=>
     rw [hq] at he
     simp only [Option.map_some,Option.some.injEq] at he
     exact l_eqs hG hρ ho hx hy hc hq (.inl ⟨rfl,he.symm⟩)
   ·cases he
  ·rename_i a b hx hy
   split at he
   ·rename_i hc
    rw [Tr.eval_opt] at he
    cases hq:ceqs a b with
    | none=>simp [hq] at he
    | some r=>
     rw [hq] at he
     simp only [Option.map_some,Option.some.injEq] at he
     exact l_eqs hG hρ ho hx hy hc hq (.inr ⟨rfl,he.symm⟩)
   ·cases he
  ·rename_i k a k' b hx hy
   split at he
   ·rename_i hk
    subst hk
    obtain ⟨hb,hv⟩:=Tr.eval_need.1 he
    simp only [Tr.eval,Option.some.injEq] at hv
    subst hv
    exact l_arith hρ ho hx hy (run_rem (by simpa using hb))
   ·cases he
  ·rename_i k a k' b hx hy
   split at he
   ·rename_i hk
    subst hk
    obtain ⟨hb,hv⟩:=Tr.eval_need.1 he
    simp only [Tr.eval,Option.some.injEq] at hv
    subst hv
    exact l_arith hρ ho hx hy (run_quo (by simpa using hb))
   ·cases he
  ·rename_i k a k' b hx hy
   obtain ⟨hb,hv⟩:=Tr.eval_need.1 he
   simp only [Tr.eval,Option.some.injEq] at hv
   subst hv
   exact l_arith hρ ho hx hy (run_shl (by simpa using hb))
  ·rename_i k a k' b hx hy
   obtain ⟨hb,hv⟩:=Tr.eval_need.1 he
   simp only [Tr.eval,Option.some.injEq] at hv
   subst hv
   exact l_arith hρ ho hx hy (run_shr (by simpa using hb))
  ·rename_i a b hx hy
   obtain ⟨hb,hv⟩:=Tr.eval_need.1 he
   simp only [Tr.eval,Option.some.injEq] at hv
   subst hv
   have h1:=hρ x
   have h2:=hρ y
   rw [hx] at h1
   rw [hy] at h2
   have hb':((a.size+b.size:Nat):Int)<=IntKind.i64.max:=by simpa using hb
   refine l_bin ho ?_ ?_ (rfl:CR m (.v (.string (a++b))) (.string (a++b)))
   ·rw [VR_str h1,VR_str h2];exact eqGuard_str
   ·rw [VR_str h1,VR_str h2]
    simp only [binOp,Op.stringOp]
    rw [if_neg (by omega)]
    simp
  ·exact apure_ok hsel hρ he
 ·
  rename_i args ts ho
  have hsel:∀ cs b,o.op ≠ .select cs b:=by simp [ho]
  split at he
  ·rename_i x t ha hts
   split at he
   ·rename_i id i n _ e _ _ _ _ _ _ hx ht
    simp only [Tr.eval,Option.some.injEq] at he
    exact l_len hG hρ ho ha hts ht (.inl ⟨e,id,i,n,rfl,hx,he.symm⟩)
   ·rename_i s _ _ _ _ _ _ _ hx ht
    simp only [Tr.eval,Option.some.injEq] at he
    exact l_len hG hρ ho ha hts ht (.inr ⟨s,rfl,hx,he.symm⟩)
   ·exact apure_ok hsel hρ he
  ·cases he
 ·
  rename_i ss d x ho
  split at he
  ·rename_i id i n hx
   split at he
   ·rename_i e _ _ _ _ _ _ _ _ _ _ _ _ _ hts htd
    split at he
    ·rename_i mm f hte hf
     obtain ⟨h1,h2,hv⟩:=need2 he
     simp only [Tr.eval,Option.some.injEq] at hv
     subst hv
     exact l_convert hG hρ H ho hx hts rfl htd rfl hte rfl hf (by simpa using h1) h2
    ·cases he
   ·cases he
  ·exact apure_ok (by simp [ho]) hρ he
 ·rename_i ho;exact apure_ok (by simp [ho]) hρ he
 ·rename_i ho;exact apure_ok (by simp [ho]) hρ he
 ·rename_i ho;exact apure_ok (by simp [ho]) hρ he
 ·rename_i ho;exact apure_ok (by simp [ho]) hρ he
 ·cases he
end
end
section
open Go Go.RowKit
def Ext (m m':List Pl):Prop:=∀ (id:Nat) p,m[id]?=some p->m'[id]?=some p
theorem Ext.refl (m:List Pl):Ext m m:=fun _ _ h=>h
theorem Ext.trans {a b c:List Pl}(h:Ext a b) (k:Ext b c):Ext a c:=fun i p hp=>k i p (h i p hp)
theorem Ext.app (m l:List Pl):Ext m (m++l):=fun i p h=>by
 rw [List.getElem?_append_left (List.getElem?_eq_some_iff.1 h).1];exact h
theorem CR.ext {m m':List Pl}(h:Ext m m') {c:AC}{y:Value}(hr:CR m c y):CR m' c y:=by
 cases c with
 | any=>trivial
 | v x=>exact hr
 | ptr id i j=>obtain ⟨p,A,hp,rest⟩:=hr;exact ⟨p,A,h _ _ hp,rest⟩
 | sl id i n=>obtain ⟨p,A',c',hp,rest⟩:=hr;exact ⟨p,A',c',h _ _ hp,rest⟩
mutual
theorem VR.ext {m m':List Pl}(h:Ext m m'):∀ {v:AV}{y:Value},VR m v y->VR m' v y
 | .c x,y,hr=>by simp only [VR] at hr ⊢;exact hr.ext h
 | .agg l,y,hr=>by simp only [VR] at hr ⊢;obtain ⟨cs,e,hF⟩:=hr;exact ⟨cs,e,hF.imp fun a b=>CR.ext h⟩
 | .arr n f,y,hr=>by simp only [VR] at hr ⊢;exact hr
 | .tup l,y,hr=>by simp only [VR] at hr ⊢;obtain ⟨vs,e,hF⟩:=hr;exact ⟨vs,e,VRs.ext h hF⟩
theorem VRs.ext {m m':List Pl}(h:Ext m m'):∀ {l:List AV}{k:List Value},VRs m l k->VRs m' l k
 | [],[],_=>by simp [VRs]
 | [],_::_,hr=>by simp [VRs] at hr
 | _::_,[],hr=>by simp [VRs] at hr
 | x::l,y::k,hr=>by simp only [VRs] at hr ⊢;exact ⟨VR.ext h hr.1,VRs.ext h hr.2⟩
end
def Own (m:List Pl) (h:AHeap) (k:Nat):Prop:=∃ (id:Nat) (b:ABlk) (p:Pl) (A:Addr),h[id]?=some (some b)/\b.own=true/\m[id]?=some p/\p.A=some A/\A.block=k
structure Fr (X:Nat->Prop) (w w':World):Prop where
 os:w'.os=w.os
 tape:w'.tape=w.tape
 output:w'.output=w.output
 size:w.heap.size<=w'.heap.size
 blk:∀ k,k<w.heap.size->¬ X k->w'.heap[k]?=w.heap[k]?
theorem Fr.refl (X:Nat->Prop) (w:World):Fr X w w:=⟨rfl,rfl,rfl,Nat.le_refl _,fun _ _ _=>rfl⟩
theorem Fr.trans {X Y:Nat->Prop}{a b c:World}(h:Fr X a b) (k:Fr Y b c) (hY:∀ i,Y i->X i\/a.heap.size<=i):Fr X a c:=
 ⟨k.os.trans h.os,k.tape.trans h.tape,k.output.trans h.output,Nat.le_trans h.size k.size,fun i hi hx=>
  (k.blk i (Nat.lt_of_lt_of_le hi h.size) fun hy=>(hY i hy).elim hx fun hge=>absurd hi (Nat.not_lt.2 hge)).trans (h.blk i hi hx)⟩
theorem Fr.alloc (X:Nat->Prop) (w:World) (o:Obj):Fr X w (w.alloc o):=⟨rfl,rfl,rfl,by simp,fun k hk _=>Below.heap_alloc w o k hk⟩
theorem Fr.drew (X:Nat->Prop) (w:World):Fr X w w.drew:=⟨rfl,rfl,rfl,Nat.le_refl _,fun _ _ _=>rfl⟩
theorem cell_of_heap {w w':World}{k:Nat}(h:w'.heap[k]?=w.heap[k]?) (o:Nat):w'.cell? ⟨k,o,none⟩=w.cell? ⟨k,o,none⟩:=by
 simp only [World.cell?,h]
theorem cell_lt {w:World}{k o:Nat}{x:Value}(h:w.cell? ⟨k,o,none⟩=some x):k<w.heap.size:=World.block_lt_of_cell? w _ h
section
variable {B:Nat}{m:List Pl}{h:AHeap}{w w':World}
theorem BR.keep {b:ABlk}{p:Pl}(hb:BR B m b p w) (hk:∀ A,p.A=some A->A.block<w.heap.size->(0<b.c.n\/b.own=true)->w'.heap[A.block]?=w.heap[A.block]?):BR B m b p w':=
 {sz:=hb.sz,len:=hb.len,cap:=hb.cap,
  cell:=fun i j c hi hc=>by
   obtain ⟨A,x,hA,hs,hx,hr,h1⟩:=hb.cell i j c hi hc
   exact ⟨A,x,hA,hs,by rw [cell_of_heap (hk A hA (cell_lt hx) (.inl (by omega)))];exact hx,hr,h1⟩
  own:=fun ho=>by
   obtain ⟨h1,h2⟩:=hb.own ho
   refine ⟨h1,fun A hA=>?_⟩
   obtain ⟨a,b,c,cs,d,e⟩:=h2 A hA
   exact ⟨a,b,c,cs,by rw [hk A hA (Array.getElem?_eq_some_iff.1 d).1 (.inr ho)];exact d,e⟩
  came:=hb.came }
theorem BR.ext {m':List Pl}{b:ABlk}{p:Pl}(hb:BR B m b p w) (he:Ext m m'):BR B m' b p w:=
 {sz:=hb.sz,len:=hb.len,cap:=hb.cap,
  cell:=fun i j c hi hc=>by
   obtain ⟨A,x,hA,hs,hx,hr,h1⟩:=hb.cell i j c hi hc
   exact ⟨A,x,hA,hs,hx,hr.ext he,h1⟩
  own:=hb.own,came:=hb.came }
theorem HR.keep (H:HR B m h w) (hk:∀ k,k<w.heap.size->w'.heap[k]?=w.heap[k]?):HR B m h w':=
 {len:=H.len,blk:=fun id b p hb hp=>(H.blk id b p hb hp).keep fun A _ hlt _=>hk _ hlt,apart:=H.apart }
theorem getElem?_snoc {α:Type}{l:List α}{x a:α}{i:Nat}(h:(l++[x])[i]?=some a):l[i]?=some a\/(i=l.length/\a=x):=by
 rcases Nat.lt_or_ge i l.length with hi|hi
 ·left;rwa [List.getElem?_append_left hi] at h
 ·right
  rw [List.getElem?_append_right hi] at h
  have:i-l.length=0:=by
   rcases Nat.eq_zero_or_pos (i-l.length) with h0|h0
   ·exact h0
   ·rw [List.getElem?_eq_none (by simp;omega)] at h;cases h
  rw [this] at h
  simp at h
  exact ⟨by omega,h.symm⟩
theorem HR.new (H:HR B m h w) (hB:B<=w.heap.size) {t:TypeId}{c:Cont}{cs:Array Value}{cap:Nat}(hcap:c.n<=cap) (hlen:∀ i,i<c.n->(c.el i).length=c.sz) (hsz:cs.size=cap*c.sz)
  (hcell:∀ (i j:Nat) a,i<c.n->(c.el i)[j]?=some a->∃ x,cs[i*c.sz+j]?=some x/\CR m a x/\oneV x=true) :
  HR B (m++[⟨some ⟨w.heap.size,0,none⟩,cap,c.sz⟩]) (h++[some ⟨t,true,c⟩]) (w.alloc (.cells cs t)):=by
 have hnew:(w.alloc (.cells cs t)).heap[w.heap.size]?=some (.cells cs t (0,0)):=by
  show (w.heap.push _)[w.heap.size]?=_
  simp
 have hold:∀ k,k<w.heap.size->(w.alloc (.cells cs t)).heap[k]?=w.heap[k]?:=fun k hk=>Below.heap_alloc w _ k hk
 refine { len:=by simp [H.len],blk:=?_,apart:=?_ }
 ·intro id b p hb hp
  rcases getElem?_snoc hb with hb | ⟨hid,hbe⟩
  ·have hlt:id<m.length:=by rw [H.len];exact (List.getElem?_eq_some_iff.1 hb).1
   rw [List.getElem?_append_left hlt] at hp
   exact ((H.blk id b p hb hp).keep fun A _ hl _=>hold _ hl).ext (Ext.app _ _)
  ·cases hbe
   have hpe:p=⟨some ⟨w.heap.size,0,none⟩,cap,c.sz⟩:=by
    rw [hid,<-H.len] at hp
    simpa using hp.symm
   subst hpe
   refine { sz:=rfl,len:=hlen,cap:=hcap,cell:=?_,own:=?_,came:=fun e=>by cases e }
   ·intro i j a hi ha
    obtain ⟨x,hx,hr,h1⟩:=hcell i j a hi ha
    refine ⟨_,x,rfl,rfl,?_,hr.ext (Ext.app _ _),h1⟩
    simp only [World.cell?,hnew]
    simpa using hx
   ·intro _
    refine And.intro (fun e=>nomatch e) ?_
    intro A hA
    cases hA
    exact ⟨rfl,rfl,hB,cs,hnew,hsz⟩
 ·intro id id' b b' p p' A A' hne hb hb' ho ho' hp hp' hA hA'
  have old:∀ {id:Nat}{b:ABlk}{p:Pl}{A:Addr},h[id]?=some (some b)->b.own=true->m[id]?=some p->p.A=some A->A.block<w.heap.size:=by
   intro id b p A hb ho hp hA
   obtain ⟨_,_,_,cs,hc,_⟩:=((H.blk id b p hb hp).own ho).2 A hA
   exact (Array.getElem?_eq_some_iff.1 hc).1
  have inOld:∀ {id:Nat}{b:ABlk}{p:Pl},h[id]?=some (some b)->(m++[⟨some ⟨w.heap.size,0,none⟩,cap,c.sz⟩])[id]?=some p->m[id]?=some p:=by
   intro id b p hb hp
   have hlt:id<m.length:=by rw [H.len];exact (List.getElem?_eq_some_iff.1 hb).1
   rwa [List.getElem?_append_left hlt] at hp
  have inNew:∀ {id:Nat}{p:Pl}{A:Addr},id=h.length->(m++[⟨some ⟨w.heap.size,0,none⟩,cap,c.sz⟩])[id]?=some p->p.A=some A->A.block=w.heap.size:=by
   intro id p A hid hp hA
   rw [hid,<-H.len] at hp
   simp at hp
   subst hp
   cases hA
   rfl
  rcases getElem?_snoc hb with hb | ⟨hid,hbe⟩ <;> rcases getElem?_snoc hb' with hb' | ⟨hid',hbe'⟩
  ·exact H.apart id id' b b' p p' A A' hne hb hb' ho ho' (inOld hb hp) (inOld hb' hp') hA hA'
  ·have h1:=old hb ho (inOld hb hp) hA
   have h2:=inNew hid' hp' hA'
   omega
  ·have h1:=old hb' ho' (inOld hb' hp') hA'
   have h2:=inNew hid hp hA
   omega
  ·omega
theorem Own.new {t:TypeId}{c:Cont}{cap sz k:Nat}(H:m.length=h.length) (ho:Own (m++[⟨some ⟨w.heap.size,0,none⟩,cap,sz⟩]) (h++[some ⟨t,true,c⟩]) k):Own m h k\/w.heap.size<=k:=by
 obtain ⟨id,b,p,A,hb,how,hp,hA,rfl⟩:=ho
 rcases getElem?_snoc hb with hb | ⟨hid,_⟩
 ·left
  have hlt:id<m.length:=by rw [H];exact (List.getElem?_eq_some_iff.1 hb).1
  rw [List.getElem?_append_left hlt] at hp
  exact ⟨id,b,p,A,hb,how,hp,hA,rfl⟩
 ·right
  rw [hid,<-H] at hp
  simp at hp
  subst hp
  cases hA
  exact Nat.le_refl _
theorem storeCells_run (P:Program) (b o:Nat) (t:TypeId):∀ (l:List Value) (i:Nat) (w:World) (cs:Array Value),w.heap[b]?=some (.cells cs t (0,0))->o+i+l.length<=cs.size->(∀ x ∈ l,oneV x=true) →
  ∃ w' cs',(storeCells ⟨b,o,none⟩ l i).run P w=.ok () w'/\w'.heap[b]?=some (.cells cs' t (0,0))/\cs'.toList=cs.toList.take (o+i)++l++cs.toList.drop (o+i+l.length) ∧
   (∀ k,k ≠ b->w'.heap[k]?=w.heap[k]?)/\w'.heap.size=w.heap.size/\w'.os=w.os/\w'.tape=w.tape/\w'.output=w.output
 | [],i,w,cs,hw,_,_=>⟨w,cs,by simp [storeCells],hw,by simp,fun _ _=>rfl,rfl,rfl,rfl,rfl⟩
 | x::l,i,w,cs,hw,hle,h1=>by
  have hlt:o+i<cs.size:=by simp at hle;omega
  have hcell:w.cell? ⟨b,o+i,none⟩=some cs[o+i]:=by simp [World.cell?,hw,hlt]
  have hfr:w.frozen? ⟨b,o+i,none⟩=false:=by simp [World.frozen?,hw]
  have hx:=h1 x (by simp)
  have hset:(w.setCell ⟨b,o+i,none⟩ x).heap[b]?=some (.cells (cs.setIfInBounds (o+i) x) t (0,0)):=by
   simp [World.setCell,Array.getElem?_modify,hw]
  obtain ⟨w',cs',hr,hb',hcs,hother,hsize,hos,htape,hout⟩:=storeCells_run P b o t l (i+1) (w.setCell ⟨b,o+i,none⟩ x) (cs.setIfInBounds (o+i) x) hset (by simp at hle ⊢;omega) (fun y hy=>h1 y (by simp [hy]))
  refine ⟨w',cs',?_,hb',?_,fun k hk=>by rw [hother k hk];exact Below.heap_setCell _ _ _ _ hk,by rw [hsize];simp [World.setCell],hos,htape,hout⟩
  ·simp only [storeCells,Sem.run_bind]
   have hst:(store ((⟨b,o,none⟩:Addr).add i) x).run P w=.ok () (w.setCell ⟨b,o+i,none⟩ x):=by
    rw [add_none rfl]
    clear hset hr hb' hcs hother hsize hos htape hout h1 hle
    cases x <;> simp_all [store,Sem.run,oneV]
   rw [hst]
   exact hr
  ·rw [hcs]
   have hlt':o+i<cs.toList.length:=by simpa using hlt
   simp only [Array.toList_setIfInBounds,List.length_cons]
   rw [show o+(i+1)+l.length=o+i+(l.length+1) by omega,List.drop_set_of_lt (by omega),show o+(i+1)=(o+i)+1 by omega,List.take_succ_eq_append_getElem (by simpa using hlt'),
    List.take_set_of_le (Nat.le_refl _),List.getElem_set_self]
   simp
end
end
section
open Go Go.RowKit
structure Step (B:Nat) (m:List Pl) (h:AHeap) (w:World) (m':List Pl) (h':AHeap) (w':World):Prop where
 ext:Ext m m'
 hr:HR B m' h' w'
 fr:Fr (Own m h) w w'
 own:∀ k,Own m' h' k->Own m h k\/w.heap.size<=k
theorem Step.refl {B:Nat}{m:List Pl}{h:AHeap}{w:World}(H:HR B m h w):Step B m h w m h w:=⟨Ext.refl _,H,Fr.refl _ _,fun _ h=>.inl h⟩
theorem Step.trans {B:Nat}{m m' m'':List Pl}{h h' h'':AHeap}{w w' w'':World}(s:Step B m h w m' h' w') (t:Step B m' h' w' m'' h'' w''):Step B m h w m'' h'' w'':=
 ⟨s.ext.trans t.ext,t.hr,s.fr.trans t.fr fun i hi=>s.own i hi,fun k hk=>(t.own k hk).elim (s.own k) fun hle=>.inr (Nat.le_trans s.fr.size hle)⟩
section
variable {G:Ctx2}{o:Oper}{ρ:Operand->AV}{ρ':Operand->Value}{h h':AHeap}{w:World}{B:Nat}{m:List Pl}{v:AV}
def HOk (P:Program) (B:Nat) (m:List Pl) (h:AHeap) (w:World) (ρ':Operand->Value) (o:Oper) (v:AV) (h':AHeap):Prop:=
 ∃ x w' m',((execOp ρ' o).run P w=.ok (.value x) w'\/((execOp ρ' o).run P w=.ok .skip w'/\x=undef))/\Step B m h w m' h' w'/\VR m' v x
theorem run_newVar {P:Program}{t:TypeId}{x:Value}:(newVar t x).run P w=.ok ⟨w.heap.size,0,none⟩ (w.alloc (.cells x.cells t)):=by
 rfl
theorem run_newRow {P:Program}{t:TypeId}{cs:Array Value}:(newRow t cs).run P w=.ok ⟨w.heap.size,0,none⟩ (w.alloc (.cells cs t)):=by
 rfl
theorem newPtr (H:HR B m h w) (hB:B<=w.heap.size) {t:TypeId}{c:Cont}{cs:Array Value}(hlen:∀ i,i<c.n->(c.el i).length=c.sz) (hsz:cs.size=c.n*c.sz)
  (hcell:∀ (i j:Nat) a,i<c.n->(c.el i)[j]?=some a->∃ x,cs[i*c.sz+j]?=some x/\CR m a x/\oneV x=true) :
  ∃ p,p.sz=c.sz/\p.A=some ⟨w.heap.size,0,none⟩/\p.cap=c.n/\(m++[p])[h.length]?=some p/\Step B m h w (m++[p]) (h++[some ⟨t,true,c⟩]) (w.alloc (.cells cs t)):=by
 refine ⟨⟨some ⟨w.heap.size,0,none⟩,c.n,c.sz⟩,rfl,rfl,rfl,by rw [<-H.len];simp,Ext.app _ _,H.new hB (Nat.le_refl _) hlen hsz hcell,Fr.alloc _ _ _,fun k hk=>Own.new H.len hk⟩
theorem h_alloc (hG:GOk G.toCtx) (H:HR B m h w) (hB:B<=w.heap.size) {t:TypeId}(ho:o.op=.alloc t) {ti:TI}(ht:lookT G.T t=some ti) :
  HOk G.P B m h w ρ' o (.c (.ptr h.length 0 0)) (h++[some ⟨t,true,zeroCont ti⟩]):=by
 obtain ⟨inf,z,hi,hs,_,hz,hzc⟩:=hG.c.t.i _ _ ht
 have hzl:=hG.c.t.zlen _ _ ht
 have hz1:=hG.c.t.zone _ _ ht
 have hrun:(execOp ρ' o).run G.P w=.ok (.value (.pointer (some ⟨w.heap.size,0,none⟩))) (w.alloc (.cells z.cells t)):=by
  simp only [execOp,ho,Instr.alloc]
  simp [Sem.run_bind,run_zero' hi hz,run_newVar]
 have hcs:z.cells.size=ti.zero.length:=by rw [<-hzc];simp
 have hget:∀ k x,ti.zero[k]?=some x->z.cells[k]?=some x/\oneV x=true:=fun k x hx=>⟨by rw [<-hzc] at hx;simpa using hx,hz1 x (List.mem_of_getElem? hx)⟩
 have hfin:∀ c:Cont,c=zeroCont ti->(∀ i,i<c.n->(c.el i).length=c.sz)->z.cells.size=c.n*c.sz →
   (∀ (i j:Nat) a,i<c.n->(c.el i)[j]?=some a->∃ x,z.cells[i*c.sz+j]?=some x/\CR m a x/\oneV x=true) →
   HOk G.P B m h w ρ' o (.c (.ptr h.length 0 0)) (h++[some ⟨t,true,zeroCont ti⟩]):=by
  intro c hc h1 h2 h3
  obtain ⟨p,hps,hpA,_,hpi,hst⟩:=newPtr H hB (t:=t) h1 h2 h3
  rw [hc] at hst
  exact ⟨_,_,_,.inl hrun,hst,⟨p,_,hpi,hpA,rfl,by simp⟩⟩
 cases hsh:ti.shape with
 | none=>
  refine hfin (.one (ofCells ti.zero)) (by simp [zeroCont,hsh]) (fun i _=>rfl) (by simp [Cont.n,Cont.sz,ofCells,hcs]) ?_
  intro i j a hi' ha
  have hi0:i=0:=by simp [Cont.n] at hi';exact hi'
  subst hi0
  simp only [Cont.el,ofCells,List.getElem?_map,Option.map_eq_some_iff] at ha
  obtain ⟨x,hx,rfl⟩:=ha
  obtain ⟨h1,h2⟩:=hget j x hx
  exact ⟨x,by simpa using h1,rfl,h2⟩
 | some ns=>
  obtain ⟨n,s⟩:=ns
  obtain ⟨hs1,hag,hsz,hrep,hpos⟩:=hG.c.t.shape _ _ _ _ ht hsh
  subst hs1
  have hz0:ti.zero.take 1=[ti.zero.headD undef]:=by
   rw [hrep]
   cases n with
   | zero=>omega
   | succ n=>simp [List.replicate_succ]
  have hzn:ti.zero.length=n:=by rw [hzl,hsz]
  refine hfin (.row 1 n fun _=>ti.zero.take 1) (by simp [zeroCont,hsh]) (fun i _=>by simp [Cont.el,Cont.sz,ofCells,hz0]) (by simp [Cont.n,Cont.sz,hcs,hzn]) ?_
  intro i j a hi' ha
  simp only [Cont.el,hz0,ofCells,List.map_cons,List.map_nil] at ha
  have hin:i<n:=hi'
  cases j with
  | zero=>
   simp at ha
   subst ha
   have hx:ti.zero[i]?=some (ti.zero.headD undef):=by
    have:ti.zero[i]?=(List.replicate n (ti.zero.headD undef))[i]?:=by rw [<-hrep]
    rw [this];simp [hin]
   obtain ⟨h1,h2⟩:=hget i _ hx
   exact ⟨_,by simpa [Cont.sz] using h1,rfl,by simpa using h2⟩
  | succ j=>simp at ha
theorem h_box (hG:GOk G.toCtx) (hρ:OpsOk m ρ ρ') (H:HR B m h w) (hB:B<=w.heap.size) {t:TypeId}{x:Operand}(ho:o.op=.box t x) {ti:TI}{c:Cont}(hc:newBlk ti (ρ x)=some c) :
  HOk G.P B m h w ρ' o (.c (.ptr h.length 0 0)) (h++[some ⟨t,true,c⟩]):=by
 have hrun:(execOp ρ' o).run G.P w=.ok (.value (.pointer (some ⟨w.heap.size,0,none⟩))) (w.alloc (.cells (ρ' x).cells t)):=by
  simp only [execOp,ho,Instr.box]
  simp [Sem.run_bind,run_newVar]
 have hfin:(∀ i,i<c.n->(c.el i).length=c.sz)->(ρ' x).cells.size=c.n*c.sz →
   (∀ (i j:Nat) a,i<c.n->(c.el i)[j]?=some a->∃ y,(ρ' x).cells[i*c.sz+j]?=some y/\CR m a y/\oneV y=true) →
   HOk G.P B m h w ρ' o (.c (.ptr h.length 0 0)) (h++[some ⟨t,true,c⟩]):=by
  intro h1 h2 h3
  obtain ⟨p,hps,hpA,_,hpi,hst⟩:=newPtr H hB (t:=t) h1 h2 h3
  exact ⟨_,_,_,.inl hrun,hst,⟨p,_,hpi,hpA,rfl,by simp⟩⟩
 have hx:=hρ x
 unfold newBlk at hc
 split at hc
 ·rename_i n mm f hsh hρx
  split at hc
  ·rename_i hmn
   simp only [Option.some.injEq] at hc
   subst hc
   subst hmn
   rw [hρx] at hx
   simp only [VR] at hx
   obtain ⟨hxe,h1⟩:=hx
   refine hfin (fun i _=>by simp [Cont.el,Cont.sz,ofCells]) (by simp [hxe,Value.cells,Cont.n,Cont.sz]) ?_
   intro i j a hi ha
   have hin:i<mm:=hi
   simp only [Cont.el,ofCells,List.map_cons,List.map_nil] at ha
   cases j with
   | zero=>
    simp at ha
    subst ha
    exact ⟨f i,by simp [hxe,Value.cells,Cont.sz,hin],rfl,h1 i hin⟩
   | succ j=>simp at ha
  ·cases hc
 ·cases hc
 ·cases hl:cellsOf (ρ x) with
  | none=>simp [hl] at hc
  | some l=>
   rw [hl] at hc
   simp only [Option.bind_some] at hc
   split at hc
   ·simp only [Option.some.injEq] at hc
    subst hc
    obtain ⟨hF,h1⟩:=cellsOf_ok hl hx
    refine hfin (fun i _=>rfl) (by have:=hF.length;simp at this;simp [Cont.n,Cont.sz,this]) ?_
    intro i j a hi ha
    have hi0:i=0:=by simp [Cont.n] at hi;exact hi
    subst hi0
    obtain ⟨y,hy,hr⟩:=hF.get j a ha
    exact ⟨y,by simpa using hy,hr,h1 y (List.mem_of_getElem? hy)⟩
   ·cases hc
theorem flatten_get {α:Type}{s:Nat}:∀ {l:List (List α)},(∀ x ∈ l,x.length=s)->∀ (i j:Nat) (y:List α) a,l[i]?=some y->y[j]?=some a->l.flatten[i*s+j]?=some a
 | [],_,i,j,y,a,h,_=>by simp at h
 | x::l,hl,i,j,y,a,h,hj=>by
  have hx:=hl x (by simp)
  cases i with
  | zero=>
   simp only [List.getElem?_cons_zero,Option.some.injEq] at h
   subst h
   have:j<x.length:=(List.getElem?_eq_some_iff.1 hj).1
   simp only [List.flatten_cons,Nat.zero_mul,Nat.zero_add]
   rw [List.getElem?_append_left this]
   exact hj
  | succ i=>
   have ih:=flatten_get (l:=l) (fun z hz=>hl z (by simp [hz])) i j y a (by simpa using h) hj
   simp only [List.flatten_cons]
   rw [List.getElem?_append_right (by rw [hx,Nat.add_mul];omega),hx,Nat.add_mul]
   rw [show i*s+1*s+j-s=i*s+j by omega]
   exact ih
theorem fill_seq (hρ:OpsOk m ρ ρ') {s:Nat}:∀ (ps:List (Nat × Operand)) (i:Nat) (l:List (List AC)) (zc:Array Value),partsSl (ps.map fun p=>(p.1,ρ p.2)) s i=some l->i*s+ps.length*s<=zc.size →
  ∃ cells k,Instr.fill (fun i=>some (i*s,s)) zc (ps.map fun p=>(p.1,ρ' p.2))=some cells/\cells.toList=zc.toList.take (i*s)++k.flatten++zc.toList.drop (i*s+ps.length*s)/\F2 (F2 (CR m)) l k/\(∀ x ∈ k,x.length=s) ∧
   (∀ x ∈ k,∀ y ∈ x,oneV y=true)
 | [],i,l,zc,hp,_=>by
  simp only [List.map_nil,partsSl,Option.some.injEq] at hp
  subst hp
  exact ⟨zc,[],rfl,by simp,.nil,by simp,by simp⟩
 | (k0,x)::ps,i,l,zc,hp,hle=>by
  simp only [List.map_cons,partsSl] at hp
  split at hp
  ·rename_i lx r hcx hpr
   split at hp
   ·rename_i hc
    obtain ⟨rfl,hlen⟩:=hc
    simp only [Option.some.injEq] at hp
    subst hp
    obtain ⟨hF,h1⟩:=cellsOf_ok hcx (hρ x)
    have hsz:(ρ' x).cells.size=s:=by have:=hF.length;simp at this;omega
    simp only [List.length_cons,Nat.add_mul,Nat.one_mul] at hle
    have hle':k0*s+(ρ' x).cells.size<=zc.size:=by omega
    have hput:=fill_put (off:=k0*s) (v:=ρ' x) (cs:=zc) hle'
    have hzs:((ρ' x).cells.zipIdx.foldl (fun cs (x:Value × Nat)=>cs.setIfInBounds (k0*s+x.2) x.1) zc).size=zc.size:=by
     have:=congrArg List.length hput
     simp at this
     simp
     omega
    obtain ⟨cells,k,hc1,hc2,hc3,hc4,hc5⟩:=fill_seq hρ ps (k0+1) r _ hpr (by rw [hzs,Nat.add_mul];omega)
    refine ⟨cells,(ρ' x).cells.toList::k,?_,?_,.cons hF hc3,?_,?_⟩
    ·simp only [List.map_cons,Instr.fill]
     rw [if_neg (by simp;omega)]
     exact hc1
    ·rw [hc2,hput,hsz]
     have hl:(zc.toList.take (k0*s)).length=k0*s:=by simp;omega
     have hl2:(ρ' x).cells.toList.length=s:=by simpa using hsz
     have e1:(k0+1)*s=k0*s+s:=by rw [Nat.add_mul];omega
     rw [e1]
     have t1:(List.take (k0*s) zc.toList++(ρ' x).cells.toList++List.drop (k0*s+s) zc.toList).take (k0*s+s)=List.take (k0*s) zc.toList++(ρ' x).cells.toList:=by
      rw [List.take_append_of_le_length (by rw [List.length_append,hl,hl2];exact Nat.le_refl _),List.take_of_length_le (by rw [List.length_append,hl,hl2];exact Nat.le_refl _)]
     have t2:(List.take (k0*s) zc.toList++(ρ' x).cells.toList++List.drop (k0*s+s) zc.toList).drop (k0*s+s+ps.length*s)=zc.toList.drop (k0*s+s+ps.length*s):=by
      rw [List.drop_append,List.drop_eq_nil_of_le (by rw [List.length_append,hl,hl2];omega),List.length_append,hl,hl2,List.drop_drop]
      simp only [List.nil_append]
      congr 1
      omega
     rw [t1,t2]
     simp only [List.flatten_cons,List.append_assoc,List.length_cons,Nat.add_mul,Nat.one_mul]
     rw [show k0*s+(ps.length*s+s)=k0*s+s+ps.length*s by omega]
    ·intro y hy
     cases hy with
     | head=>simpa using hsz
     | tail _ hy=>exact hc4 y hy
    ·intro y hy
     cases hy with
     | head=>exact h1
     | tail _ hy=>exact hc5 y hy
   ·cases hp
  ·cases hp
theorem partsSl_len:∀ (ps:List (Nat × AV)) (s i:Nat) (l:List (List AC)),partsSl ps s i=some l->l.length=ps.length
 | [],s,i,l,h=>by simp [partsSl] at h;subst h;rfl
 | (k,x)::ps,s,i,l,h=>by
  simp only [partsSl] at h
  split at h
  ·rename_i lx r hcx hpr
   split at h
   ·simp only [Option.some.injEq] at h
    subst h
    simp [partsSl_len ps s (i+1) r hpr]
   ·cases h
  ·cases h
theorem h_buildSlice (hG:GOk G.toCtx) (hρ:OpsOk m ρ ρ') (H:HR B m h w) (hB:B<=w.heap.size) {t e:TypeId}{len:Nat}{ps:Array (Nat × Operand)}(ho:o.op=.buildSlice t len ps) {ti te:TI}(ht:lookT G.T t=some ti) (hu:ti.u=.slice e)
  (hte:lookT G.T e=some te) {l:List (List AC)}(hp:partsSl (ps.toList.map fun p=>(p.1,ρ p.2)) te.size 0=some l) (hl:l.length=len) (hbig:len*te.size<=16777216) :
  HOk G.P B m h w ρ' o (.c (.sl h.length 0 len)) (h++[some ⟨e,true,.lst te.size l (ofCells te.zero)⟩]):=by
 have hut:=hG.c.t.u t ti ht
 rw [hu] at hut
 obtain ⟨inf,z,hi,hs,_,hz,hzc⟩:=hG.c.t.i _ _ hte
 have hpl:=partsSl_len _ _ _ _ hp
 simp only [List.length_map] at hpl
 have hps:ps.toList.length=len:=by rw [<-hpl,hl]
 obtain ⟨cells,k,hc1,hc2,hc3,hc4,hc5⟩:=fill_seq hρ ps.toList 0 l ((Array.range (len*te.size)).map (z.cells[· % z.cells.size]!)) hp (by rw [hps];simp)
 have hck:cells.toList=k.flatten:=by
  rw [hc2,hps]
  simp only [Nat.zero_mul,List.take_zero,List.nil_append,Nat.zero_add]
  rw [List.drop_eq_nil_of_le (by simp)]
  simp
 have hkl:k.length=len:=by rw [<-hc3.length,hl]
 have hcsz:cells.size=len*te.size:=by
  have h1:=congrArg List.length hck
  simp only [Array.length_toList,List.length_flatten] at h1
  rw [h1]
  have:∀ (k:List (List Value)),(∀ x ∈ k,x.length=te.size)->(k.map List.length).sum=k.length*te.size:=by
   intro k
   induction k with
   | nil=>intro _;simp
   | cons x k ih=>intro hk;simp [ih (fun y hy=>hk y (by simp [hy])),hk x (by simp),Nat.add_mul];omega
  rw [this k hc4,hkl]
 have hrun:(execOp ρ' o).run G.P w=.ok (.value (.slice (some ⟨w.heap.size,0,none⟩) len len)) (w.alloc (.cells cells e)):=by
  simp only [execOp,ho]
  have hfill:Instr.fill (fun i=>some (i*te.size,te.size)) ((Array.range (len*te.size)).map (z.cells[· % z.cells.size]!)) (ps.map fun p=>(p.1,ρ' p.2)).toList=some cells:=by
   rw [<-hc1];congr 1;simp
  simp only [Sem.run_bind,Instr.buildSlice,run_underlying' hut,Result.andThen_ok,run_sizeOf' hi,hs]
  rw [if_neg (by show ¬ len*te.size>2^24;omega)]
  by_cases h0:len*te.size=0
  ·have:(Array.range (len*te.size)).map (fun x=>(#[]:Array Value)[x % (#[]:Array Value).size]!)=(Array.range (len*te.size)).map (z.cells[· % z.cells.size]!):=by rw [h0];simp
   simp only [if_pos h0,Sem.run_pure,Result.andThen_ok,Sem.run_bind]
   rw [this,hfill]
   simp [Sem.run_bind,run_newRow]
  ·simp only [h0,if_false,Sem.run_bind,run_zero' hi hz,Result.andThen_ok,Sem.run_pure]
   rw [hfill]
   simp [Sem.run_bind,run_newRow]
 have hel:∀ i,i<len->∃ x y,l[i]?=some x/\k[i]?=some y/\F2 (CR m) x y:=fun i hi=>by
  obtain ⟨y,hy,hr⟩:=hc3.get i (l[i]'(by omega)) (by simp)
  exact ⟨_,y,by simp,hy,hr⟩
 have hgd:∀ i x,l[i]?=some x->(Cont.lst te.size l (ofCells te.zero)).el i=x:=fun i x hx=>by
  simp [Cont.el,List.getD_eq_getElem?_getD,hx]
 obtain ⟨p,hps',hpA,hcap,hpi,hst⟩:=newPtr H hB (t:=e) (c:=.lst te.size l (ofCells te.zero)) (cs:=cells) (fun i hi=>by
   have hi':i<len:=by simpa [Cont.n,hl] using hi
   obtain ⟨x,y,hx,hy,hF⟩:=hel i hi'
   rw [hgd i x hx,hF.length,hc4 y (List.mem_of_getElem? hy)]
   rfl) (by simp [Cont.n,Cont.sz,hl,hcsz]) (fun i j a hi ha=>by
   have hi':i<len:=by simpa [Cont.n,hl] using hi
   obtain ⟨x,y,hx,hy,hF⟩:=hel i hi'
   rw [hgd i x hx] at ha
   obtain ⟨q,hq,hr⟩:=hF.get j a ha
   have:=flatten_get hc4 i j y q hy hq
   rw [<-hck] at this
   exact ⟨q,by simpa [Cont.sz] using this,hr,hc5 y (List.mem_of_getElem? hy) q (List.mem_of_getElem? hq)⟩)
 refine ⟨_,_,_,.inl hrun,hst,⟨p,_,_,hpi,rfl,⟨Nat.le_refl _,fun e=>nomatch e⟩,fun _=>⟨hpA.symm,by rw [hcap];simp [Cont.n,hl]⟩,fun _=>⟨_,hpA,rfl,by simp⟩⟩⟩
theorem h_makeSlice (hG:GOk G.toCtx) (hρ:OpsOk m ρ ρ') (H:HR B m h w) (hB:B<=w.heap.size) {t e:TypeId}{l c:Operand}(ho:o.op=.makeSlice t l c) {ti te:TI}(ht:lookT G.T t=some ti) (hu:ti.u=.slice e)
  (hte:lookT G.T e=some te) {k1 k2:IntKind}{n:Int}(hl:ρ l=.c (.v (.int k1 n))) (hc:ρ c=.c (.v (.int k2 n))) (h0:0<=n) (hbig:n.toNat*te.bytes<=16777216) :
  HOk G.P B m h w ρ' o (.c (.sl h.length 0 n.toNat)) (h++[some ⟨e,true,.row te.size n.toNat fun _=>te.zero⟩]):=by
 have hut:=hG.c.t.u t ti ht
 rw [hu] at hut
 obtain ⟨inf,z,hi,hs,hby,hz,hzc⟩:=hG.c.t.i _ _ hte
 have hb0:=hG.c.bytes _ _ hte
 have hsz0:=(hG.c.one _ _ hte).1
 have hzl:=hG.c.t.zlen _ _ hte
 have hz1:=hG.c.t.zone _ _ hte
 have hlv:ρ' l=.int k1 n:=by have:=hρ l;rw [hl] at this;exact this
 have hcv:ρ' c=.int k2 n:=by have:=hρ c;rw [hc] at this;exact this
 have hbn:(inf.bytes:Int)*n<=16777216:=by
  rw [hby]
  have h1:((n.toNat*te.bytes:Nat):Int)=te.bytes*n:=by
   rw [Int.natCast_mul,Int.toNat_of_nonneg h0,Int.mul_comm]
  omega
 have hn63:n<=16777216:=by
  have h1:(1:Int)*n<=(inf.bytes:Int)*n:=Int.mul_le_mul_of_nonneg_right (by rw [hby];omega) h0
  omega
 have hmk:=run_make (P:=G.P) w t e inf z hut hi hz k1 k2 n n h0 (Int.le_refl _) (by omega) (by omega)
 have hrun:(execOp ρ' o).run G.P w=.ok (.value (.slice (some ⟨w.heap.size,0,none⟩) n.toNat n.toNat)) (w.alloc (.cells (madeCells z.cells (n.toNat*inf.size)) e)):=by
  simp only [execOp,ho,hlv,hcv,Sem.run_bind,hmk,Result.andThen_ok]
  rfl
 have hcs:z.cells.size=te.size:=by rw [<-hzl,<-hzc];simp
 have hlen:(te.zero).length=te.size:=hzl
 obtain ⟨p,hps,hpA,hcap,hpi,hst⟩:=newPtr H hB (t:=e) (c:=.row te.size n.toNat fun _=>te.zero) (cs:=madeCells z.cells (n.toNat*inf.size)) (fun i _=>by simp [Cont.el,Cont.sz,ofCells,hlen]) (by simp [Cont.n,Cont.sz,size_madeCells,hs]) (fun i j a hi ha=>by
  have hi':i<n.toNat:=hi
  simp only [Cont.el,ofCells,List.getElem?_map,Option.map_eq_some_iff] at ha
  obtain ⟨x,hx,rfl⟩:=ha
  have hj:j<te.size:=by rw [<-hlen];exact (List.getElem?_eq_some_iff.1 hx).1
  have hlt:i*te.size+j<n.toNat*te.size:=by
   have:(i+1)*te.size<=n.toNat*te.size:=Nat.mul_le_mul_right _ hi'
   rw [Nat.add_mul] at this
   omega
  refine ⟨x,?_,rfl,hz1 x (List.mem_of_getElem? hx)⟩
  have hmod:(i*te.size+j) % te.size=j:=by rw [Nat.mul_comm,Nat.mul_add_mod];exact Nat.mod_eq_of_lt hj
  have hzx:z.cells[j]?=some x:=by rw [<-hzc] at hx;simpa using hx
  have hzj:z.cells[j]! = x:=by simp [Array.getElem!_eq_getD,Array.getD_eq_getD_getElem?,hzx]
  show (madeCells z.cells (n.toNat*inf.size))[i*te.size+j]?=some x
  simp only [madeCells,hs,Array.getElem?_map,Array.getElem?_range,hlt,if_true,Option.map_some,hcs,hmod,hzj])
 exact ⟨_,_,_,.inl hrun,hst,⟨p,_,_,hpi,rfl,⟨Nat.le_refl _,fun e=>nomatch e⟩,fun _=>⟨hpA.symm,by rw [hcap];simp [Cont.n]⟩,fun _=>⟨_,hpA,rfl,by simp⟩⟩⟩
end
end
end Go.Proofs.Ytcpahifgdppkbaa.QAI
