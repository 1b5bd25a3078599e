/- The abstract machine: values by places, a heap of rows and variables, one function that runs a Go function's code on them. Definitions alone. -/
import Derived.Calls
import Derived.Orders
set_option linter.unusedVariables false
set_option linter.unusedSimpArgs false
namespace Go.Proofs.Ytcpahifgdppkbaa.QAI
open Go

/-- One cell's value: not known; a value without an address; a pointer to cell j of element i of block id; a slice of n elements of block id from element i on. -/
inductive AC where
  | any
  | v (x : Value)
  | ptr (id i j : Nat)
  | sl (id i n : Nat)
  deriving Inhabited

inductive AV where
  | c (x : AC)
  | agg (l : List AC)
  | arr (n : Nat) (f : Nat → Value)
  | tup (l : List AV)
instance : Inhabited AV := ⟨.c .any⟩

/-- What a block holds: one variable's cells; n elements of sz cells each (behind them zeros); the same, the elements written out. -/
inductive Cont where
  | one (l : List AC)
  | row (sz n : Nat) (f : Nat → List Value)
  | lst (sz : Nat) (l : List (List AC)) (z : List AC)

structure ABlk where
  t : TypeId
  own : Bool
  c : Cont

abbrev AHeap := List (Option ABlk)

/-- What is told of a type: what lies behind its name, how many cells, how many bytes an element, its zero cells, whether it is a struct or an array; 'shape' of what is seen as a row (an array, a struct of one array): elements' number and size. -/
structure TI where
  t : TypeId
  u : TypeDesc
  size : Nat
  bytes : Nat
  zero : List Value
  agg : Bool
  flat : Bool
  shape : Option (Nat × Nat)

def ofCells (l : List Value) : List AC := l.map AC.v

def Cont.n : Cont → Nat
  | .one _ => 1
  | .row _ n _ => n
  | .lst _ l _ => l.length
def Cont.sz : Cont → Nat
  | .one l => l.length
  | .row sz _ _ => sz
  | .lst sz _ _ => sz
def Cont.el : Cont → Nat → List AC
  | .one l => fun _ => l
  | .row _ _ f => fun i => ofCells (f i)
  | .lst _ l z => fun i => l.getD i z

/-- A tree of what may happen, parted by tests. -/
inductive Tr (α : Type) where
  | ret (a : α)
  | ite (b : Bool) (t e : Tr α)
  | fail

def Tr.bind {α β : Type} : Tr α → (α → Tr β) → Tr β
  | .ret a, f => f a
  | .ite b t e, f => .ite b (t.bind f) (e.bind f)
  | .fail, _ => .fail
def Tr.eval {α : Type} : Tr α → Option α
  | .ret a => some a
  | .ite b t e => cond b t.eval e.eval
  | .fail => none
def Tr.need {α : Type} (b : Bool) (t : Tr α) : Tr α := .ite b t .fail
def Tr.opt {α : Type} : Option α → Tr α
  | some a => .ret a
  | none => .fail

structure St where
  sl : List AV
  h : AHeap

def lookT (T : List TI) (t : TypeId) : Option TI := T.find? (fun i => i.t == t)

/-- A constant. -/
def ofConst : Value → AV
  | .agg cs => .agg (ofCells cs.toList)
  | x => .c (.v x)

def evs (sl : List AV) : Operand → AV
  | .tmp t => sl.getD t (.c .any)
  | .const x => ofConst x
  | .global g => .c (.v (.pointer (some ⟨g, 0, none⟩)))
  | .func f => .c (.v (.func (.func f) #[] #[]))

/-- What runs without looking at the memory. -/
def pureRun (P : Program) {α : Type} : Sem α → Option α
  | .pure a => some a
  | .program k => pureRun P (k P)
  | _ => none

def scal : AV → Option Value
  | .c (.v x) => some x
  | _ => none
def isInt : AV → Option (IntKind × Int)
  | .c (.v (.int k n)) => some (k, n)
  | _ => none

def oneV : Value → Bool
  | .agg _ => false
  | .tuple _ => false
  | _ => true
def acOk : AC → Bool
  | .any => false
  | .v x => oneV x
  | _ => true
/-- A value's cells, each of which can lie in one. -/
def cellsOf : AV → Option (List AC)
  | .c x => if acOk x then some [x] else none
  | .agg l => if l.all acOk then some l else none
  | _ => none

def AHeap.at (h : AHeap) (id : Nat) : Option ABlk := (h[id]?).join

/-- Cells j to j + s of a list, as a value of a type. -/
def cut (i : TI) (l : List AC) (j : Nat) : Option AV :=
  if i.agg then (if (l.drop j).length < i.size then none else some (.agg ((l.drop j).take i.size)))
  else (l[j]?).map AV.c

def aload0 (T : List TI) (h : AHeap) (t : TypeId) : AV → Tr AV
  | .c (.ptr id i j) =>
    match lookT T t, h.at id with
    | some ti, some b =>
      match b.c, ti.shape with
      | .row 1 n f, some (m, 1) => if i = 0 ∧ j = 0 then .need (decide (n = m)) (.ret (.arr n fun k => (f k).headD undef)) else .fail
      | .one l, _ => if i = 0 then .opt (cut ti l j) else .fail
      | c, _ => .need (decide (i < c.n)) (.opt (cut ti (c.el i) j))
    | _, _ => .fail
  | _ => .fail

/-- A row written out, of texts or of numbers of one kind, at any place. -/
def strsOf : List (List AC) → Option (List ByteArray)
  | [] => some []
  | [.v (.string s)] :: l => (strsOf l).map (s :: ·)
  | _ => none
def intsOf (k : IntKind) : List (List AC) → Option (List Int)
  | [] => some []
  | [.v (.int k' a)] :: l => if k' = k then (intsOf k l).map (a :: ·) else none
  | _ => none
def tblOf : List (List AC) → Option (Nat → Value)
  | [.v (.string s)] :: x :: l => (strsOf ([.v (.string s)] :: x :: l)).map fun ss i => .string (ss.getD i ⟨#[]⟩)
  | [.v (.int k a)] :: x :: l => (intsOf k ([.v (.int k a)] :: x :: l)).map fun xs i => .int k (xs.getD i 0)
  | _ => none
def tblIn (T : List TI) (h : AHeap) (t : TypeId) (id : Nat) : Option (Nat × (Nat → Value)) :=
  match lookT T t, h.at id with
  | some ti, some ⟨_, _, .lst 1 l _⟩ => if ti.agg then none else (tblOf l).map fun f => (l.length, f)
  | _, _ => none
def aload (T : List TI) (h : AHeap) (t : TypeId) (x : AV) : Tr AV :=
  match x with
  | .c (.ptr id i 0) => match tblIn T h t id with
    | some (n, f) => .need (decide (i < n)) (.ret (.c (.v (f i))))
    | none => aload0 T h t x
  | _ => aload0 T h t x

def bt (s : ByteArray) (i : Int) : Int := ((s.data.toList.getD i.toNat 0).toNat : Int)

def fieldOf (T : List TI) (t : TypeId) (k : Nat) : Option Field :=
  match lookT T t with
  | some ⟨_, .struct fs, _, _, _, _, _, _⟩ => fs.toList[k]?
  | _ => none

/-- All operands without addresses: run the model's own operation. -/
def apure (P : Program) (o : Oper) (ρ : Operand → AV) : Tr AV :=
  if o.op.operands.toList.all fun x => (scal (ρ x)).isSome then
    match pureRun P (execOp (fun x => ((scal (ρ x)).getD undef)) o) with
    | some (.value v) => .ret (ofConst v)
    | _ => .fail
  else .fail

def ceq : AC → AC → Option Bool
  | .v (.int k a), .v (.int k' b) => if k = k' then some (a == b) else none
  | .v (.bool a), .v (.bool b) => some (a == b)
  | .v (.string a), .v (.string b) => some (a == b)
  | _, _ => none
def kindAC : AC → Nat
  | .v (.int _ _) => 1
  | .v (.bool _) => 2
  | .v (.string _) => 3
  | _ => 0
def ceqs : List AC → List AC → Option Bool
  | [], [] => some true
  | a :: as, b :: bs => match ceq a b, ceqs as bs with
    | some x, some y => some (x && y)
    | _, _ => none
  | _, _ => none

def decInt (a b : Int) (n : Nat) : Bool := decide (0 ≤ a) && decide (a ≤ b) && decide (b ≤ (n : Int))

/-- The struct types whose equality is told: number and cells. -/
structure Ctx where
  P : Program
  T : List TI
  eqs : List (TypeId × List Nat)

def fills (z : List AC) : List (Nat × List AC) → Option (List AC)
  | [] => some z
  | (off, l) :: rest => if off + l.length ≤ z.length then fills (z.take off ++ l ++ z.drop (off + l.length)) rest else none

def partsAt (T : List TI) (fs : List Field) : List (Nat × AV) → Option (List (Nat × List AC))
  | [] => some []
  | (k, x) :: rest =>
    match fs[k]?, cellsOf x, partsAt T fs rest with
    | some f, some l, some r =>
      match lookT T f.type with
      | some ti => if l.length = ti.size then some ((f.offset, l) :: r) else none
      | none => none
    | _, _, _ => none

def valOf : AC → Option Value
  | .v x => some x
  | _ => none
def valsOf : List AC → Option (List Value)
  | [] => some []
  | a :: l => match valOf a, valsOf l with
    | some x, some r => some (x :: r)
    | _, _ => none
def valss : List (List AC) → Option (List (List Value))
  | [] => some []
  | a :: l => match valsOf a, valss l with
    | some x, some r => some (x :: r)
    | _, _ => none

/-- A row's bytes, as a text. -/
def isU8 : List Value → Bool
  | [.int .u8 _] => true
  | _ => false
def u8Of : List Value → UInt8
  | [.int _ x] => UInt8.ofNat x.toNat
  | _ => 0
def allB (n : Nat) (p : Nat → Bool) : Bool := (List.range n).all p
def bytesOf (f : Nat → List Value) (i n : Nat) : ByteArray := ⟨((List.range n).map fun k => u8Of (f (i + k))).toArray⟩
def valRow (c : Cont) : Option (Nat × (Nat → List Value)) :=
  match c with
  | .row 1 n f => some (n, f)
  | .lst 1 l _ => (valss l).map fun vs => (l.length, fun i => vs.getD i [])
  | _ => none

/-- The operations that turn nothing. -/
def alight (G : Ctx) (o : Oper) (ρ : Operand → AV) (h : AHeap) : Tr AV :=
  match o.op with
  | .move x | .assign x => .ret (ρ x)
  | .pick c a b =>
    match ρ c with
    | .c (.v (.bool t)) => .ite t (.ret (ρ a)) (.ret (ρ b))
    | _ => .fail
  | .load t a => aload G.T h t (ρ a)
  | .nilCheck x =>
    match ρ x with
    | .c (.ptr id i j) => .ret (.c (.ptr id i j))
    | _ => apure G.P o ρ
  | .fieldAddr s x k =>
    match ρ x, fieldOf G.T s k with
    | .c (.ptr id i j), some f => match lookT G.T f.type with
      | some _ => .ret (.c (.ptr id i (j + f.offset)))
      | none => .fail
    | _, _ => .fail
  | .field t x k =>
    match ρ x, fieldOf G.T t k with
    | .agg l, some f => match lookT G.T f.type with
      | some ti => .opt (cut ti l f.offset)
      | none => .fail
    | _, _ => .fail
  | .indexAddr t x ix =>
    match lookT G.T t, ρ x, isInt (ρ ix) with
    | some ⟨_, .slice e, _, _, _, _, _, _⟩, .c (.sl id i n), some (_, k) =>
      match lookT G.T e, h.at id with
      | some ti, some b => if b.c.sz = ti.size then .need (decide (0 ≤ k)) (.need (decide (k < (n : Int))) (.ret (.c (.ptr id (i + k.toNat) 0)))) else .fail
      | _, _ => .fail
    | some ⟨_, .array m e, _, _, _, _, _, _⟩, .c (.ptr id i j), some (_, k) =>
      match lookT G.T e, h.at id with
      | some ti, some b => .need (decide (0 ≤ k)) (.need (decide (k < (m : Int))) (match b.c with
        | .row sz n _ => if sz = ti.size ∧ i = 0 ∧ j = 0 then .ret (.c (.ptr id k.toNat 0)) else .fail
        | .one _ => .ret (.c (.ptr id i (j + k.toNat * ti.size)))
        | _ => .fail))
      | _, _ => .fail
    | _, _, _ => .fail
  | .index t x ix =>
    match lookT G.T t, ρ x, isInt (ρ ix) with
    | some ⟨_, .string, _, _, _, _, _, _⟩, .c (.v (.string s)), some (_, k) =>
      .need (decide (0 ≤ k)) (.need (decide (k < (s.size : Int))) (.ret (.c (.v (.int .u8 (bt s k))))))
    | some ⟨_, .array m e, _, _, _, _, _, _⟩, .arr n f, some (_, k) =>
      match lookT G.T e with
      | some ti => if ti.size = 1 ∧ ti.agg = false ∧ n = m then .need (decide (0 ≤ k)) (.need (decide (k < (m : Int))) (.ret (.c (.v (f k.toNat))))) else .fail
      | none => .fail
    | _, _, _ => .fail
  | .slice t x lo hi mx =>
    match mx, lookT G.T t, ρ x with
    | none, some ⟨_, .string, _, _, _, _, _, _⟩, .c (.v (.string s)) =>
      match (match lo with | some x => isInt (ρ x) | none => some (.i64, 0)), (match hi with | some x => isInt (ρ x) | none => some (.i64, (s.size : Int))) with
      | some (_, a), some (_, b) => .need (decInt a b s.size) (.ret (.c (.v (.string (s.extract a.toNat b.toNat)))))
      | _, _ => .fail
    | none, some ⟨_, .slice e, _, _, _, _, _, _⟩, .c (.sl id i n) =>
      match lookT G.T e, h.at id with
      | some ti, some bb => if bb.c.sz = ti.size then (match (match lo with | some x => isInt (ρ x) | none => some (.i64, 0)), (match hi with | some x => isInt (ρ x) | none => some (.i64, (n : Int))) with
      | some (_, a), some (_, b) => .need (decInt a b n) (.ret (.c (.sl id (i + a.toNat) (b.toNat - a.toNat))))
      | _, _ => .fail) else .fail
      | _, _ => .fail
    | _, _, _ => .fail
  | .extract x k =>
    match ρ x with
    | .tup l => .opt l[k]?
    | _ => .fail
  | .build t ps =>
    match lookT G.T t with
    | some ⟨_, .struct fs, _, _, zero, _, _, sh⟩ =>
      match partsAt G.T fs.toList (ps.toList.map fun p => (p.1, ρ p.2)) with
      | some [] => match sh with
        | some (n, _) => .ret (.arr n fun _ => zero.headD undef)
        | none => .opt ((fills (ofCells zero) []).map AV.agg)
      | some l => .opt ((fills (ofCells zero) l).map AV.agg)
      | none => .fail
    | _ => .fail
  | .binOp op t x y _ =>
    match op, ρ x, ρ y with
    | .eql, .agg a, .agg b => if G.eqs.contains (t, a.map kindAC) then .opt ((ceqs a b).map fun r => .c (.v (.bool r))) else .fail
    | .neq, .agg a, .agg b => if G.eqs.contains (t, a.map kindAC) then .opt ((ceqs a b).map fun r => .c (.v (.bool !r))) else .fail
    | .rem, .c (.v (.int k a)), .c (.v (.int k' b)) => if k = k' then .need (decide (b ≠ 0)) (.ret (.c (.v (.int k (a.tmod b))))) else .fail
    | .quo, .c (.v (.int k a)), .c (.v (.int k' b)) => if k = k' then .need (decide (b ≠ 0)) (.ret (.c (.v (.int k (k.wrap (a.tdiv b)))))) else .fail
    | .shl, .c (.v (.int k a)), .c (.v (.int _ b)) => .need (decide (0 ≤ b)) (.ret (.c (.v (.int k (k.wrap (a * 2 ^ (min b.toNat k.bits)))))))
    | .shr, .c (.v (.int k a)), .c (.v (.int _ b)) => .need (decide (0 ≤ b)) (.ret (.c (.v (.int k (a.fdiv (2 ^ (min b.toNat k.bits)))))))
    | .add, .c (.v (.string a)), .c (.v (.string b)) => .need (decide (((a.size + b.size : Nat) : Int) ≤ IntKind.i64.max)) (.ret (.c (.v (.string (a ++ b)))))
    | _, _, _ => apure G.P o ρ
  | .call ⟨.builtin .len, args, ts⟩ =>
    match args.toList, ts.toList with
    | [x], [t] => match ρ x, lookT G.T t with
      | .c (.sl _ _ n), some ⟨_, .slice _, _, _, _, _, _, _⟩ => .ret (.c (.v (.int .i64 (n : Int))))
      | .c (.v (.string s)), some ⟨_, .string, _, _, _, _, _, _⟩ => .ret (.c (.v (.int .i64 (s.size : Int))))
      | _, _ => apure G.P o ρ
    | _, _ => .fail
  | .convert s d x =>
    match ρ x with
    | .c (.sl id i n) => match lookT G.T s, lookT G.T d with
      | some ⟨_, .slice e, _, _, _, _, _, _⟩, some ⟨_, .string, _, _, _, _, _, _⟩ =>
        match lookT G.T e, (h.at id).bind fun b => valRow b.c with
        | some ⟨_, .int .u8, _, _, _, _, _, _⟩, some (m, f) => .need (decide (i + n ≤ m)) (.need (allB n fun k => isU8 (f (i + k))) (.ret (.c (.v (.string (bytesOf f i n))))))
        | _, _ => .fail
      | _, _ => .fail
    | _ => apure G.P o ρ
  | .unOp .. | .makeInterface .. => apure G.P o ρ
  | .call ⟨.builtin .max, _, _⟩ | .call ⟨.builtin .min, _, _⟩ => apure G.P o ρ
  | _ => .fail

def isLight : Op → Bool
  | .alloc .. | .box .. | .buildSlice .. | .store .. | .makeSlice .. | .call ⟨.value _, _, _⟩ | .call ⟨.builtin .append, _, _⟩ | .call ⟨.builtin .copy, _, _⟩ => false
  | .convert .. => true
  | _ => true

def selV (b : Bool) : Value → Value → Value
  | .int k a, .int k' a' => if k = k' then .int k (bif b then a else a') else bif b then .int k a else .int k' a'
  | .bool a, .bool a' => .bool (bif b then a else a')
  | x, y => bif b then x else y
def selL (b : Bool) : List Value → List Value → List Value
  | x :: xs, y :: ys => selV b x y :: selL b xs ys
  | [], [] => []
  | xs, ys => bif b then xs else ys
theorem selV_eq (b : Bool) (x y : Value) : selV b x y = bif b then x else y := by
  unfold selV
  split
  · split
    · rename_i h; subst h; cases b <;> rfl
    · rfl
  · cases b <;> rfl
  · rfl
theorem selL_eq (b : Bool) : ∀ xs ys : List Value, selL b xs ys = bif b then xs else ys
  | [], [] => by cases b <;> rfl
  | [], _ :: _ => rfl
  | _ :: _, [] => rfl
  | x :: xs, y :: ys => by
    simp only [selL, selV_eq, selL_eq b xs ys]
    cases b <;> rfl
/-- A row with another element, cell by cell. -/
def updC (f : Nat → List Value) (n : Nat) (x : List Value) : Nat → List Value := fun k => selL (decide (k = n)) x (f k)
def upd {α : Type} (f : Nat → α) (n : Nat) (x : α) : Nat → α := fun k => if k = n then x else f k
def cat {α : Type} (z : α) (f : Nat → α) (n : Nat) (g : Nat → α) (i m : Nat) : Nat → α := fun k => if k < n then f k else if k < n + m then g (i + (k - n)) else z
def updL {α : Type} (f : Nat → α) (n : Nat) : List α → Nat → α
  | [] => f
  | x :: xs => updL (upd f n x) (n + 1) xs

/-- A new block. -/
def newBlk (ti : TI) (v : AV) : Option Cont :=
  match ti.shape, v with
  | some (n, 1), .arr m f => if m = n then some (.row 1 n fun k => [f k]) else none
  | some _, _ => none
  | none, x => (cellsOf x).bind fun l => if l.length = ti.size then some (.one l) else none

def zeroCont (ti : TI) : Cont :=
  match ti.shape with
  | some (n, sz) => .row sz n fun _ => ti.zero.take sz
  | none => .one (ofCells ti.zero)

def setAt (h : AHeap) (id : Nat) (b : ABlk) : AHeap := h.set id (some b)

def splice {α : Type} (l : List α) (j : Nat) (c : List α) : List α := l.take j ++ c ++ l.drop (j + c.length)

def astore (T : List TI) (h : AHeap) (t : TypeId) (p x : AV) : Tr AHeap :=
  match p, lookT T t with
  | .c (.ptr id i j), some ti =>
    match h.at id with
    | some ⟨bt, true, c⟩ =>
      match c, x with
      | .row 1 n _, .arr m g => if i = 0 ∧ j = 0 ∧ ti.size = m ∧ n = m then .ret (setAt h id ⟨bt, true, .row 1 n fun k => [g k]⟩) else .fail
      | .one l, x => match cellsOf x with
        | some cs => if i = 0 ∧ cs.length = ti.size ∧ j + cs.length ≤ l.length then .ret (setAt h id ⟨bt, true, .one (splice l j cs)⟩) else .fail
        | none => .fail
      | .row sz n f, x => match (cellsOf x).bind valsOf with
        | some cs => if cs.length = ti.size ∧ j + cs.length ≤ sz then .need (decide (i < n)) (.ret (setAt h id ⟨bt, true, .row sz n (updC f i (splice (f i) j cs))⟩)) else .fail
        | none => .fail
      | .lst sz l z, x => match cellsOf x with
        | some cs => if cs.length = ti.size ∧ j + cs.length ≤ sz then .need (decide (i < l.length)) (.ret (setAt h id ⟨bt, true, .lst sz (l.set i (splice (l.getD i z) j cs)) z⟩)) else .fail
        | none => .fail
    | _ => .fail
  | _, _ => .fail

def maxCells : Nat := 140737488355328

/-- The row that a slice or a text shows: from where on, how many, the elements; of nil: none. -/
def srcOf (h : AHeap) (ti : TI) : AV → Option (Nat × Nat × Cont)
  | .c (.sl id i n) => (h.at id).map fun b => (i, n, b.c)
  | .c (.v (.slice none 0 0)) => some (0, 0, .lst ti.size [] [])
  | .c (.v (.string s)) => some (0, s.size, .row 1 s.size fun k => [.int .u8 (bt s k)])
  | _ => none

def rowOf (ti : TI) (c : Cont) : Cont :=
  match c with
  | .lst sz l z => if ti.flat then (match valss l with | some vs => .row sz l.length (fun i => vs.getD i ti.zero) | none => .lst sz l z) else .lst sz l z
  | c => c

/-- What is appended to (given up): the heap without it, its elements. -/
def dstOf (h : AHeap) (ti : TI) : AV → Option (AHeap × Cont × Nat)
  | .c (.v (.slice none 0 0)) => some (h, (if ti.flat then .row ti.size 0 fun _ => ti.zero else .lst ti.size [] (ofCells ti.zero)), 0)
  | .c (.sl id 0 n) =>
    match h.at id with
    | some ⟨bt, true, c⟩ => if c.sz = ti.size ∧ bt = ti.t then some (h.set id none, rowOf ti c, n) else none
    | _ => none
  | _ => none

/-- The elements of both, one behind the other. -/
def joinC (ti : TI) : Cont → Nat × Nat × Cont → Option Cont
  | .row _ n f, (i, m, .lst _ l _) => (valss ((l.drop i).take m)).map fun vs => .row ti.size (n + m) (updL f n vs)
  | .row _ n f, (i, m, .row _ _ g) => some (.row ti.size (n + m) (cat ti.zero f n g i m))
  | .lst _ l z, (i, m, .lst _ l' _) => some (.lst ti.size (l ++ (l'.drop i).take m) z)
  | _, _ => none

def isSrcD : TypeDesc → Bool
  | .slice _ => true
  | .string => true
  | _ => false

def aappend (T : List TI) (h : AHeap) (t t2 : TypeId) (s x : AV) : Tr (AV × AHeap) :=
  match lookT T t, lookT T t2 with
  | some ⟨_, .slice e, _, _, _, _, _, _⟩, some ti2 =>
    match isSrcD ti2.u, lookT T e with
    | true, some ti =>
      match dstOf h ti s, srcOf h ti x with
      | some (h', c, nn), some (i, m, cs) =>
        if cs.sz = ti.size then
          match joinC ti c (i, m, cs) with
          | some c' => .need (decide (c.n = nn)) (.need (decide (i + m ≤ cs.n)) (.need (decide ((c.n + m) * ti.bytes ≤ maxCells)) (.ret (.c (.sl h.length 0 (c.n + m)), h' ++ [some ⟨e, true, c'⟩]))))
          | none => .fail
        else .fail
      | _, _ => .fail
    | _, _ => .fail
  | _, _ => .fail

/-! ### Places given other numbers -/
def renAC (g : Nat → Option Nat) : AC → AC
  | .any => .any
  | .v x => .v x
  | .ptr id i j => match g id with
    | some k => .ptr k i j
    | none => .any
  | .sl id i n => match g id with
    | some k => .sl k i n
    | none => .any
mutual
def renAV (g : Nat → Option Nat) : AV → AV
  | .c x => .c (renAC g x)
  | .agg l => .agg (l.map (renAC g))
  | .arr n f => .arr n f
  | .tup l => .tup (renAVs g l)
def renAVs (g : Nat → Option Nat) : List AV → List AV
  | [] => []
  | x :: l => renAV g x :: renAVs g l
end
def renC (g : Nat → Option Nat) : Cont → Cont
  | .one l => .one (l.map (renAC g))
  | .row sz n f => .row sz n f
  | .lst sz l z => .lst sz (l.map (List.map (renAC g))) (z.map (renAC g))
def renB (g : Nat → Option Nat) (b : ABlk) : ABlk := { b with c := renC g b.c }

def refAC : AC → List Nat
  | .ptr id _ _ => [id]
  | .sl id _ _ => [id]
  | _ => []
mutual
def refAV : AV → List Nat
  | .c x => refAC x
  | .agg l => l.flatMap refAC
  | .arr _ _ => []
  | .tup l => refAVs l
def refAVs : List AV → List Nat
  | [] => []
  | x :: l => refAV x ++ refAVs l
end
def refC : Cont → List Nat
  | .one l => l.flatMap refAC
  | .row _ _ _ => []
  | .lst _ l _ => l.flatMap fun x => x.flatMap refAC
def refB : Option ABlk → List Nat
  | some b => refC b.c
  | none => []

/-- All blocks that are led to, each once, in the order in which they are met, behind those that are listed. -/
def closeOf (h : AHeap) : Nat → List Nat → List Nat → List Nat
  | 0, _, acc => acc
  | _ + 1, [], acc => acc
  | k + 1, id :: todo, acc => if acc.contains id || decide (h.length ≤ id) then closeOf h k todo acc else closeOf h k (todo ++ refB (h[id]?).join) (acc ++ [id])

def idxIn (R : List Nat) (id : Nat) : Option Nat := if R.contains id then some (R.idxOf id) else none
def subHeap (h : AHeap) (R : List Nat) : AHeap := R.map fun id => ((h[id]?).join).map (renB (idxIn R))
def backIn (R : List Nat) (n id : Nat) : Option Nat := some (if id < R.length then R.getD id 0 else n + (id - R.length))
def mergeIn (h : AHeap) (R : List Nat) (hs : AHeap) : AHeap :=
  (List.range h.length).map (fun id => if R.contains id then ((hs[R.idxOf id]?).join).map (renB (backIn R h.length)) else (h[id]?).join)
    ++ (hs.drop R.length).map (Option.map (renB (backIn R h.length)))

/-- A number, a list of numbers, worked out. -/
def natL {β : Type} (a : Nat) (k : Nat → β) : β := match a with
  | 0 => k 0
  | n + 1 => k (Nat.succ n)
theorem natL_eq {β : Type} (a : Nat) (k : Nat → β) : natL a k = k a := by cases a <;> rfl
def forceM {β : Type} : List Nat → (List Nat → β) → β
  | [], k => k []
  | a :: l, k => natL a fun a' => forceM l fun l' => k (a' :: l')
theorem forceM_eq {β : Type} : ∀ (l : List Nat) (k : List Nat → β), forceM l k = k l
  | [], _ => rfl
  | a :: l, k => by rw [forceM, natL_eq, forceM_eq l]
/-- What is worked out before it goes on: constructors, places; the numbers themselves stay as they are. -/
def forceC {β : Type} (c : AC) (k : AC → β) : β := match c with
  | .any => k .any
  | .v (.int q n) => k (.v (.int q n))
  | .v (.bool b) => k (.v (.bool b))
  | .v (.string s) => k (.v (.string s))
  | .v x => k (.v x)
  | .ptr id i j => natL id fun id => k (.ptr id i j)
  | .sl id i n => natL id fun id => k (.sl id i n)
theorem forceC_eq {β : Type} (c : AC) (k : AC → β) : forceC c k = k c := by
  unfold forceC
  split <;> simp only [natL_eq]
def forceCs {β : Type} : List AC → (List AC → β) → β
  | [], k => k []
  | c :: l, k => forceC c fun c => forceCs l fun l => k (c :: l)
theorem forceCs_eq {β : Type} : ∀ (l : List AC) (k : List AC → β), forceCs l k = k l
  | [], _ => rfl
  | c :: l, k => by simp only [forceCs, forceC_eq, forceCs_eq l]
def forceCss {β : Type} : List (List AC) → (List (List AC) → β) → β
  | [], k => k []
  | c :: l, k => forceCs c fun c => forceCss l fun l => k (c :: l)
theorem forceCss_eq {β : Type} : ∀ (l : List (List AC)) (k : List (List AC) → β), forceCss l k = k l
  | [], _ => rfl
  | c :: l, k => by simp only [forceCss, forceCs_eq, forceCss_eq l]
def forceV1 {β : Type} (v : AV) (k : AV → β) : β := match v with
  | .c c => forceC c fun c => k (.c c)
  | .agg l => forceCs l fun l => k (.agg l)
  | .arr n f => k (.arr n f)
  | .tup l => k (.tup l)
theorem forceV1_eq {β : Type} (v : AV) (k : AV → β) : forceV1 v k = k v := by
  unfold forceV1
  split <;> simp only [forceC_eq, forceCs_eq]
def forceVs {β : Type} : List AV → (List AV → β) → β
  | [], k => k []
  | c :: l, k => forceV1 c fun c => forceVs l fun l => k (c :: l)
theorem forceVs_eq {β : Type} : ∀ (l : List AV) (k : List AV → β), forceVs l k = k l
  | [], _ => rfl
  | c :: l, k => by simp only [forceVs, forceV1_eq, forceVs_eq l]
def forceV {β : Type} (v : AV) (k : AV → β) : β := match v with
  | .tup l => forceVs l fun l => k (.tup l)
  | v => forceV1 v k
theorem forceV_eq {β : Type} (v : AV) (k : AV → β) : forceV v k = k v := by
  unfold forceV
  split
  · simp only [forceVs_eq]
  · exact forceV1_eq _ _
def forceB {β : Type} (b : Option ABlk) (k : Option ABlk → β) : β := match b with
  | none => k none
  | some ⟨t, own, .one l⟩ => natL t fun t => forceCs l fun l => k (some ⟨t, own, .one l⟩)
  | some ⟨t, own, .row sz n f⟩ => natL t fun t => natL sz fun sz => k (some ⟨t, own, .row sz n f⟩)
  | some ⟨t, own, .lst sz l z⟩ => natL t fun t => natL sz fun sz => forceCss l fun l => forceCs z fun z => k (some ⟨t, own, .lst sz l z⟩)
theorem forceB_eq {β : Type} (b : Option ABlk) (k : Option ABlk → β) : forceB b k = k b := by
  unfold forceB
  split <;> simp only [natL_eq, forceCs_eq, forceCss_eq]
def forceH {β : Type} : AHeap → (AHeap → β) → β
  | [], k => k []
  | b :: h, k => forceB b fun b => forceH h fun h => k (b :: h)
theorem forceH_eq {β : Type} : ∀ (h : AHeap) (k : AHeap → β), forceH h k = k h
  | [], _ => rfl
  | b :: h, k => by simp only [forceH, forceB_eq, forceH_eq h]

abbrev Spec := List AV → AHeap → Tr (AV × AHeap)

def acall (F : Spec) (args : List AV) (h : AHeap) : Tr (AV × AHeap) :=
  forceM (closeOf h 10000 (refAVs args) []) fun R =>
  forceVs (renAVs (idxIn R) args) fun as => forceH (subHeap h R) fun sh =>
  (F as sh).bind fun (r, hs) => .ret (renAV (backIn R h.length) r, mergeIn h R hs)
theorem acall_def (F : Spec) (args : List AV) (h : AHeap) : acall F args h =
    (F (renAVs (idxIn (closeOf h 10000 (refAVs args) [])) args) (subHeap h (closeOf h 10000 (refAVs args) []))).bind fun (r, hs) => .ret (renAV (backIn (closeOf h 10000 (refAVs args) []) h.length) r, mergeIn h (closeOf h 10000 (refAVs args) []) hs) := by
  simp only [acall, forceM_eq, forceVs_eq, forceH_eq]

structure Ctx2 extends Ctx where
  σ : Nat → Option Spec
  keep : Nat → List (Nat × Option TypeId)
  L : Nat
  /-- Functions of which it is asked at each call that they leave the memory as it was. -/
  tame : List Nat := []

def partsSl : List (Nat × AV) → Nat → Nat → Option (List (List AC))
  | [], _, _ => some []
  | (k, x) :: rest, sz, i =>
    match cellsOf x, partsSl rest sz (i + 1) with
    | some l, some r => if k = i ∧ l.length = sz then some (l :: r) else none
    | _, _ => none

def funcOf : AV → Option Nat
  | .c (.v (.func (.func k) f c)) => match f.toList, c.toList with
    | [], [] => some k
    | _, _ => none
  | _ => none

def aheavy (G : Ctx2) (o : Oper) (ρ : Operand → AV) (h : AHeap) : Tr (AV × AHeap) :=
  match o.op with
  | .alloc t => match lookT G.T t with
    | some ti => .ret (.c (.ptr h.length 0 0), h ++ [some ⟨t, true, zeroCont ti⟩])
    | none => .fail
  | .box t x => match lookT G.T t with
    | some ti => match newBlk ti (ρ x) with
      | some c => .ret (.c (.ptr h.length 0 0), h ++ [some ⟨t, true, c⟩])
      | none => .fail
    | none => .fail
  | .buildSlice t len ps => match lookT G.T t with
    | some ⟨_, .slice e, _, _, _, _, _, _⟩ => match lookT G.T e with
      | some ti => match partsSl (ps.toList.map fun p => (p.1, ρ p.2)) ti.size 0 with
        | some l => if l.length = len ∧ len * ti.size ≤ 16777216 then .ret (.c (.sl h.length 0 len), h ++ [some ⟨e, true, .lst ti.size l (ofCells ti.zero)⟩]) else .fail
        | none => .fail
      | none => .fail
    | _ => .fail
  | .makeSlice t l c => match lookT G.T t, ρ l, ρ c with
    | some ⟨_, .slice e, _, _, _, _, _, _⟩, .c (.v (.int _ n)), .c (.v (.int _ n')) => match lookT G.T e with
      | some ti => if ti.flat then .need (decide (0 ≤ n)) (.need (decide (n' = n)) (.need (decide (n.toNat * ti.bytes ≤ 16777216)) (.ret (.c (.sl h.length 0 n.toNat), h ++ [some ⟨e, true, .row ti.size n.toNat fun _ => ti.zero⟩])))) else .fail
      | none => .fail
    | _, _, _ => .fail
  | .store t p x => (astore G.T h t (ρ p) (ρ x)).bind fun h' => .ret (.c (.v undef), h')
  | .call ⟨.builtin .append, args, ts⟩ =>
    match args.toList, ts.toList with
    | [s, x], [t, t2] => aappend G.T h t t2 (ρ s) (ρ x)
    | _, _ => .fail
  | .call ⟨.value f, args, _⟩ =>
    match funcOf (ρ f) with
    | some k => match G.σ k with
      | some F => acall F (args.toList.map ρ) h
      | none => .fail
    | none => .fail
  | _ => .fail

def putA (sl : List AV) : Option Tmp → AV → List AV
  | some d, v => sl.set d v
  | none, _ => sl

/-- The list, spine first. -/
def forceL {α β : Type} : List α → (List α → β) → β
  | [], k => k []
  | a :: as, k => forceL as fun as' => k (a :: as')
theorem forceL_eq {α β : Type} : ∀ (l : List α) (k : List α → β), forceL l k = k l
  | [], _ => rfl
  | a :: as, k => by rw [forceL, forceL_eq as]
def stepOp (G : Ctx2) (o : Oper) (S : St) : Tr St :=
  if isLight o.op then (alight G.toCtx o (evs S.sl) S.h).bind fun v => forceV v fun v => forceL (putA S.sl o.dst v) fun sl => .ret ⟨sl, S.h⟩
  else (aheavy G o (evs S.sl) S.h).bind fun (v, h') => forceV v fun v => forceH h' fun h' => forceL (putA S.sl o.dst v) fun sl => .ret ⟨sl, h'⟩
theorem stepOp_def (G : Ctx2) (o : Oper) (S : St) : stepOp G o S =
  if isLight o.op then (alight G.toCtx o (evs S.sl) S.h).bind fun v => .ret ⟨putA S.sl o.dst v, S.h⟩
  else (aheavy G o (evs S.sl) S.h).bind fun (v, h') => .ret ⟨putA S.sl o.dst v, h'⟩ := by
  simp only [stepOp, forceL_eq, forceV_eq, forceH_eq]

def skipOp (o : Oper) (S : St) : St := ⟨putA S.sl o.dst (.c (.v undef)), S.h⟩

def litB (S : St) (t : Nat) (b : Bool) : St := ⟨S.sl.set t (.c (.v (.bool b))), S.h⟩

/-- An operation with its guard. -/
def guarded (G : Ctx2) (ops : Array Oper) (o : Oper) (S : St) : Tr St :=
  match o.guard with
  | none => stepOp G o S
  | some (g, want) =>
    match (ops[g]?).bind (·.dst) with
    | some t =>
      match S.sl.getD t (.c .any) with
      | .c (.v (.bool b)) => .ite b (if want then stepOp G o (litB S t true) else .ret (skipOp o (litB S t true))) (if want then .ret (skipOp o (litB S t false)) else stepOp G o (litB S t false))
      | .c (.v (.tuple _)) => .ret (skipOp o S)
      | _ => .fail
    | none => .fail

def regSeq (G : Ctx2) (ops : Array Oper) : List Oper → St → Tr St
  | [], S => .ret S
  | o :: rest, S => (guarded G ops o S).bind (regSeq G ops rest)

/-! ### A region that draws its order -/
/-- Number y of those of w bits that are kept in one. -/
def pkAt (w D y : Nat) : Nat := (D >>> (w * y)) % 2 ^ w
def edgeMask (f : Nat → Nat) (o : Oper) : Nat := o.after.toList.foldl (fun s e => if Region.binds .any e then s ||| (1 <<< e.on) ||| f e.on else s) 0
/-- Of each operation: all that must be ahead of it. -/
def predsGo (n : Nat) : List Oper → Nat → Nat → List Nat
  | [], _, _ => []
  | o :: rest, j, acc => natL (edgeMask (pkAt n acc) o) fun m => natL (acc ||| (m <<< (n * j))) fun acc' => m :: predsGo n rest (j + 1) acc'
def predsOf (ops : List Oper) : List Nat := natL ops.length fun n => predsGo n ops 0 0

def looksAt (ops : Array Oper) (o : Oper) : List Tmp :=
  (o.op.operands.toList.filterMap fun | .tmp t => some t | _ => none) ++ (match o.guard with | some (g, _) => ((ops[g]?).bind (·.dst)).toList | none => [])

/-- An operation that makes memory and looks at none. -/
def isQuiet : Op → Bool
  | .alloc .. | .box .. | .buildSlice .. | .makeSlice .. => true
  | _ => false

/-- Blocks whose row an operation that turns nothing asks for. -/
def hardOf (o : Oper) (ρ : Operand → AV) : List Nat :=
  match o.op with
  | .load _ a => refAV (ρ a)
  | .convert _ _ x => refAV (ρ x)
  | _ => []
/-- Blocks of which it asks the kind and the element's size alone. -/
def softOf (o : Oper) (ρ : Operand → AV) : List Nat :=
  match o.op with
  | .indexAddr _ x _ => refAV (ρ x)
  | .slice _ x _ _ _ => refAV (ρ x)
  | _ => []
def kindC : Cont → Nat
  | .one _ => 0
  | .row _ _ _ => 1
  | .lst _ _ _ => 2
def shEq : Option ABlk → Option ABlk → Bool
  | none, none => true
  | some b, some b' => Nat.beq (kindC b.c) (kindC b'.c) && Nat.beq b.c.sz b'.c.sz
  | _, _ => false

/-- Blocks that an operation may turn. -/
def writesOf (o : Oper) (ρ : Operand → AV) (h : AHeap) : List Nat :=
  match o.op with
  | .store _ p _ => refAV (ρ p)
  | .call ⟨.builtin .append, args, _⟩ => match args.toList with
    | s :: _ => refAV (ρ s)
    | _ => []
  | .call ⟨.value _, args, _⟩ => closeOf h 10000 (refAVs (args.toList.map ρ)) []
  | _ => []

/-- Blocks that it may look at. -/
def reachOf (o : Oper) (ρ : Operand → AV) (h : AHeap) : List Nat :=
  match o.op with
  | .store _ p _ => refAV (ρ p)
  | .call ⟨.builtin .append, args, _⟩ => refAVs (args.toList.map ρ)
  | .call ⟨.value _, args, _⟩ => closeOf h 10000 (refAVs (args.toList.map ρ)) []
  | _ => []
/-- Of those that it may turn: those that have another kind or size behind it, or are given up. -/
def breaksOf (ws : List Nat) (h h' : AHeap) : List Nat := ws.filter fun id => !shEq (h.at id) (h'.at id)

/-- The order in which the operations are run here: whatever turns nothing as soon as it may be. -/
def behindHeavy (m lm : Nat) : List Nat → Bool
  | [] => false
  | q :: rest => bif m.testBit q then false else bif lm.testBit q then behindHeavy m lm rest else true
def insAt (m lm : Nat) (i : Nat) : List Nat → List Nat
  | [] => [i]
  | q :: rest => bif behindHeavy m lm (q :: rest) then q :: insAt m lm i rest else i :: q :: rest
def eagerGo (P : List Nat) (lm : Nat) : List Oper → Nat → List Nat → List Nat
  | [], _, acc => acc.reverse
  | o :: rest, i, acc => eagerGo P lm rest (i + 1) (bif isLight o.op || isQuiet o.op then insAt (P.getD i 0) lm i acc else i :: acc)
def lightMask : List Oper → Nat → Nat
  | [], _ => 0
  | o :: rest, i => (bif isLight o.op || isQuiet o.op then 1 <<< i else 0) ||| lightMask rest (i + 1)
def eagerP (P : List Nat) (ops : Array Oper) : List Nat := natL (lightMask ops.toList 0) fun lm => eagerGo P lm ops.toList 0 []
def eager (ops : Array Oper) : List Nat := eagerP (predsOf ops.toList) ops

def before (P : List Nat) (i j : Nat) : Bool := (P.getD j 0).testBit i

/-- Along the order: each operation once, behind whatever it waits for; what is quiet waits for whatever is loud and stands ahead of it. -/
def walkPi (P : List Nat) (lm qm n : Nat) : List Nat → Nat → Bool
  | [], acc => Nat.beq acc (2 ^ n - 1)
  | q :: l, acc => natL (P.getD q 0) fun m => Nat.blt q n && !acc.testBit q && Nat.beq (m &&& acc) m && (!qm.testBit q || Nat.beq ((acc &&& lm) ||| m) m) && natL (acc ||| (1 <<< q)) fun acc' => walkPi P lm qm n l acc'
def maskOf (p : Oper → Bool) : List Oper → Nat → Nat
  | [], _ => 0
  | o :: rest, i => (bif p o then 1 <<< i else 0) ||| maskOf p rest (i + 1)
def isLoud (o : Oper) : Bool := !isLight o.op && !isQuiet o.op
/-- None writes another one's slot. -/
def dstsOk : List Oper → Nat → Bool
  | [], _ => true
  | o :: rest, m => match o.dst with
    | some x => !m.testBit x && natL (m ||| (1 <<< x)) fun m' => dstsOk rest m'
    | none => dstsOk rest m
/-- Of a slot: which operation writes it (its number and one; 0: none). -/
def defsOf : List Oper → Nat → Nat → Nat
  | [], _, D => D
  | o :: rest, i, D => match o.dst with
    | some x => natL (D ||| ((i + 1) <<< (12 * x))) fun D' => defsOf rest (i + 1) D'
    | none => defsOf rest (i + 1) D
def looksOk (P : List Nat) (ops : Array Oper) (D : Nat) : List Oper → List Nat → Nat → Bool
  | o :: rest, m :: ms, i => (looksAt ops o).all (fun y => match pkAt 12 D y with
      | 0 => true
      | j + 1 => Nat.beq i j || m.testBit j || before P i j) && looksOk P ops D rest ms (i + 1)
  | [], _, _ => true
  | _, [], _ => false
/-- None waits for one that stands behind it in the text. -/
def backOk : List Nat → Nat → Bool
  | [], _ => true
  | m :: ms, k => Nat.blt m (2 ^ k) && backOk ms (k + 1)
def loudsOf : List Oper → Nat → List Nat
  | [], _ => []
  | o :: rest, i => bif isLoud o then i :: loudsOf rest (i + 1) else loudsOf rest (i + 1)
def pairsOk (P : List Nat) : List Nat → Bool
  | [] => true
  | i :: rest => rest.all (fun j => before P i j || before P j i) && pairsOk P rest
/-- What is asked of a region and of the order: each operation once, none ahead of what it waits for; none writes another one's slot; who looks at a slot and who writes it wait for each other; what turns memory has one order. -/
def orderOkP (P : List Nat) (ops : Array Oper) (π : List Nat) : Bool :=
  Nat.beq π.length ops.size && Nat.blt ops.size 4095 && backOk P 0 && (natL (maskOf isLoud ops.toList 0) fun lm => natL (maskOf (fun o => isQuiet o.op) ops.toList 0) fun qm => walkPi P lm qm ops.size π 0) && dstsOk ops.toList 0 &&
  (natL (defsOf ops.toList 0 0) fun D => looksOk P ops D ops.toList P 0) && pairsOk P (loudsOf ops.toList 0)
def orderOk (ops : Array Oper) (π : List Nat) : Bool := orderOkP (predsOf ops.toList) ops π

/-- Of operations that turn nothing: what they ask for, of what they ask the kind; of those that turn memory: what they may turn, what they break, what they may look at; of those that make memory alone: the new block. -/
structure Log where
  lights : List (Nat × List Nat × List Nat)
  louds : List (Nat × List Nat × List Nat × List Nat)
  quiets : List (Nat × Nat)

def logOkP (P : List Nat) (l : Log) : Bool :=
  l.lights.all (fun r => l.louds.all fun x => before P r.1 x.1 || before P x.1 r.1 || (r.2.1.all (fun id => !x.2.1.contains id) && r.2.2.all fun id => !x.2.2.1.contains id)) &&
  l.lights.all (fun r => l.quiets.all fun q => before P q.1 r.1 || (!r.2.1.contains q.2 && !r.2.2.contains q.2)) &&
  l.louds.all (fun x => l.quiets.all fun q => before P q.1 x.1 || (!x.2.1.contains q.2 && !x.2.2.2.contains q.2))

def logOk (ops : Array Oper) (l : Log) : Bool := logOkP (predsOf ops.toList) l

def readsIn (o : Oper) (S : St) : Bool := (hardOf o (evs S.sl) ++ softOf o (evs S.sl)).all fun id => decide (id < S.h.length)

/-- What an operation that turns memory may turn; nothing, of a call that was asked to leave all as it was. -/
def turnsOf (t : Bool) (o : Oper) (S : St) : List Nat := bif t then [] else writesOf o (evs S.sl) S.h
def logOf (t : Bool) (i : Nat) (o : Oper) (S S' : St) (l : Log) : Log :=
  if isLight o.op then { l with lights := (i, hardOf o (evs S.sl), softOf o (evs S.sl)) :: l.lights }
  else if isQuiet o.op then { l with quiets := (i, S.h.length) :: l.quiets }
  else { l with louds := (i, turnsOf t o S, breaksOf (turnsOf t o S) S.h S'.h, reachOf o (evs S.sl) S.h) :: l.louds }
def isTame (G : Ctx2) (o : Oper) : Bool :=
  match o.op with
  | .call ⟨.value (.func f), _, _⟩ => G.tame.any (Nat.beq f)
  | _ => false
noncomputable def yes (p : Prop) : Bool := @decide p (Classical.propDecidable p)
noncomputable section
def stepLog (G : Ctx2) (i : Nat) (o : Oper) (S : St) (l : Log) : Tr (St × Log) :=
  if readsIn o S then (stepOp G o S).bind fun S' => if isTame G o then .need (yes ((writesOf o (evs S.sl) S.h).map (fun id => S'.h[id]?) = (writesOf o (evs S.sl) S.h).map fun id => S.h[id]?)) (.ret (S', logOf true i o S S' l)) else .ret (S', logOf false i o S S' l) else .fail

def regRun (G : Ctx2) (ops : Array Oper) : List Nat → St → Log → Tr (St × Log)
  | [], S, l => .ret (S, l)
  | i :: rest, S, l =>
    match ops[i]? with
    | none => .fail
    | some o =>
      match o.guard with
      | none => (stepLog G i o S l).bind fun r => regRun G ops rest r.1 r.2
      | some (g, want) =>
        match (ops[g]?).bind (·.dst) with
        | some t =>
          match S.sl.getD t (.c .any) with
          | .c (.v (.bool b)) => .ite b
            (if want then (stepLog G i o (litB S t true) l).bind fun r => regRun G ops rest r.1 r.2 else regRun G ops rest (skipOp o (litB S t true)) l)
            (if want then regRun G ops rest (skipOp o (litB S t false)) l else (stepLog G i o (litB S t false) l).bind fun r => regRun G ops rest r.1 r.2)
          | .c (.v (.tuple _)) => regRun G ops rest (skipOp o S) l
          | _ => .fail
        | none => .fail

def regDraw (G : Ctx2) (ops : Array Oper) (S : St) : Tr St :=
  forceM (predsOf ops.toList) fun P => forceM (eagerP P ops) fun π =>
    if orderOkP P ops π then (regRun G ops π S ⟨[], [], []⟩).bind fun r => if logOkP P r.2 then .ret r.1 else .fail else .fail
theorem regDraw_def (G : Ctx2) (ops : Array Oper) (S : St) : regDraw G ops S =
  if orderOk ops (eager ops) then (regRun G ops (eager ops) S ⟨[], [], []⟩).bind fun r => if logOk ops r.2 then .ret r.1 else .fail else .fail := by
  simp only [regDraw, forceM_eq, orderOk, logOk, eager]
  rfl

inductive Ex where
  | normal | exit (id : Nat) | ret
  deriving DecidableEq

def firstReg : Code → Nat
  | .region id _ _ => id
  | .seq a _ => firstReg a
  | .block _ b => firstReg b
  | .loop b => firstReg b
  | _ => 0

/-- Slots that are kept, the others forgotten; a nil slice becomes an empty row (of a type that is told); then all blocks that are led to get new numbers, but for the first ones. -/
def keepSl (T : List TI) : List (Nat × Option TypeId) → List AV → AHeap → List AV × AHeap
  | [], sl, h => (sl.map fun _ => .c .any, h)
  | (t, e) :: rest, sl, h =>
    let r := keepSl T rest sl h
    match sl.getD t (.c .any), e with
    | .c (.v (.slice none 0 0)), some e =>
      match lookT T e with
      | some ti => (r.1.set t (.c (.sl r.2.length 0 0)), r.2 ++ [some ⟨e, true, if ti.flat then .row ti.size 0 fun _ => ti.zero else .lst ti.size [] (ofCells ti.zero)⟩])
      | none => r
    | x, _ => (r.1.set t x, r.2)

def refsOf (h : AHeap) (n : Nat) : List Nat := (h.take n).flatMap refB

def canon (T : List TI) (n0 : Nat) (k : List (Nat × Option TypeId)) (S : St) : St :=
  let r := keepSl T k S.sl S.h
  let R := closeOf r.2 10000 (refsOf r.2 n0 ++ refAVs r.1) (List.range n0)
  ⟨renAVs (idxIn R) r.1, subHeap r.2 R⟩

def iter (f : St → Tr (Ex × St)) (k : St → St) : Nat → St → Tr (Ex × St)
  | 0, _ => .fail
  | n + 1, S => (f S).bind fun (e, S') => match e with
    | .normal => iter f k n (k S')
    | e => .ret (e, S')

def arun (G : Ctx2) (n0 : Nat) : Nat → Code → St → Tr (Ex × St)
  | 0, _, _ => .fail
  | _ + 1, .skip, S => .ret (.normal, S)
  | _ + 1, .region _ ops draw, S => (if draw then regDraw G ops S else regSeq G ops ops.toList S).bind fun S' => .ret (.normal, S')
  | d + 1, .seq a b, S => (arun G n0 d a S).bind fun (e, S') => match e with
    | .normal => arun G n0 d b S'
    | e => .ret (e, S')
  | d + 1, .cond c a b, S =>
    match c with
    | .tmp t =>
      match S.sl.getD t (.c .any) with
      | .c (.v (.bool x)) => .ite x (arun G n0 d a (litB S t true)) (arun G n0 d b (litB S t false))
      | _ => .fail
    | _ => .fail
  | d + 1, .block id b, S => (arun G n0 d b S).bind fun (e, S') => match e with
    | .exit k => if k = id then .ret (.normal, S') else .ret (.exit k, S')
    | e => .ret (e, S')
  | d + 1, .loop b, S => iter (arun G n0 d b) (canon G.T n0 (G.keep (firstReg b))) G.L (canon G.T n0 (G.keep (firstReg b)) S)
  | _ + 1, .exit id, S => .ret (.exit id, S)
  | _ + 1, .ret, S => .ret (.ret, S)
  | _ + 1, _, _ => .fail

def resOf (T : List TI) (S : St) : ResultVar → Tr AV
  | .tmp t => .ret (S.sl.getD t (.c .any))
  | .cell a t => aload T S.h t (S.sl.getD a (.c .any))

def resL (T : List TI) (S : St) : List ResultVar → Tr (List AV)
  | [] => .ret []
  | r :: l => (resOf T S r).bind fun x => (resL T S l).bind fun xs => .ret (x :: xs)

def oneRes : List AV → AV
  | [x] => x
  | l => .tup l

/-- A function's code, run; what it has made and does not hand on is dropped. -/
def afun (G : Ctx2) (d : Nat) (fn : Func) : Spec := fun args h =>
  match fn.body with
  | none => .fail
  | some c => (arun G h.length d c ⟨args ++ List.replicate (fn.ntmps - args.length) (.c .any), h⟩).bind fun (e, S) =>
    match e with
    | .exit _ => .fail
    | _ => (resL G.T S fn.results.toList).bind fun l =>
      let r := oneRes l
      let R := closeOf S.h 10000 (refsOf S.h h.length ++ refAV r) (List.range h.length)
      .ret (renAV (idxIn R) r, subHeap S.h R)

end
end Go.Proofs.Ytcpahifgdppkbaa.QAI
