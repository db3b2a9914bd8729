/- An abstract reading of one operation: what it yields, out of what is known of its operands. (Part 2: tables, operations, that each is carried out so.) -/
import Derived.Test.YtoocihhnlhehlaaDena
import Derived.Laws.Entries
import Derived.Laws.IdiomCopy
import Derived.Deep.MidRow
namespace Go.Proofs.Ytoocihhnlhehlaa.Den
open Go Go.RowKit

/-- The kinds of a cell. -/
inductive CK where
  | int (k : IntKind) | bool | str
  deriving DecidableEq

inductive TD where
  | int (k : IntKind) | bool | str | struct (fs : List (Nat × Nat)) | arr (n e : Nat) | slice (e : Nat) | other

structure TI where
  agg : Bool
  size : Nat
  bytes : Nat
  zero : List Value
  desc : TD
  ck : List CK := []
  eq : Bool := false
  keep : Bool := false

def ckOk : List CK → List Value → Bool
  | [], [] => true
  | .int k :: r, .int k' _ :: vs => k == k' && ckOk r vs
  | .bool :: r, .bool _ :: vs => ckOk r vs
  | .str :: r, .string _ :: vs => ckOk r vs
  | _, _ => false

def cellsEq : List Value → List Value → Bool
  | .int _ a :: r, .int _ b :: s => a == b && cellsEq r s
  | .bool a :: r, .bool b :: s => a == b && cellsEq r s
  | .string a :: r, .string b :: s => a.toList == b.toList && cellsEq r s
  | [], [] => true
  | _, _ => false

/-- What the table says of a type is so. -/
structure TIok (P : Program) (t : Nat) (ti : TI) : Prop where
  info : ∃ i z, P.info? t = some i ∧ i.size = ti.size ∧ i.bytes = ti.bytes ∧ i.zero = some z ∧ z.cells.toList = ti.zero ∧ (∀ x ∈ ti.zero, x.oneCell' = true) ∧ z.cells.size = ti.size
  und : ∃ d, P.underlying t = some d ∧ ((match d with | .struct _ => true | .array _ _ => true | _ => false) = ti.agg) ∧
    match ti.desc with
    | .int k => d = .int k
    | .bool => d = .bool
    | .str => d = .string
    | .slice e => d = .slice e
    | .arr n e => d = .array n e ∧ ∃ i, P.info? e = some i ∧ i.size ≠ 0
    | .struct fs => ∃ fa, d = .struct fa ∧ fs.length = fa.size ∧ ∀ (j o s : Nat), fs[j]? = some (o, s) → ∃ (f : Field) (i : TypeInfo), fa[j]? = some f ∧ f.offset = o ∧ P.info? f.type = some i ∧ i.size = s ∧ s ≠ 0
    | .other => True
  eqs : ti.eq = true → ∀ (w : World) (x y : Operand) (xs ys : List Value), ckOk ti.ck xs = true → ckOk ti.ck ys = true →
    (eqGuard .eql t x y (.agg xs.toArray) (.agg ys.toArray)).run P w = .ok () w ∧ (eqGuard .neq t x y (.agg xs.toArray) (.agg ys.toArray)).run P w = .ok () w ∧
    (binOp .eql t (.agg xs.toArray) (.agg ys.toArray)).run P w = .ok (.bool (cellsEq xs ys)) w ∧ (binOp .neq t (.agg xs.toArray) (.agg ys.toArray)).run P w = .ok (.bool (!cellsEq xs ys)) w

abbrev Tab := Nat → Option TI
def TabOk (P : Program) (T : Tab) : Prop := ∀ t ti, T t = some ti → TIok P t ti

def descOf (T : Tab) (t : Nat) : TD := match T t with
  | some ti => ti.desc
  | none => .other


/-- What is known at a place of the code: the slots, the blocks, the next number, what whoever called holds. -/
structure AS where
  fr : List D
  mem : List (Nat × Blk)
  nxt : Nat
  ks : List D := []

/-- The functions that may be called: by their contracts; those that take a row for their own; those that are read in place. -/
structure Env where
  calls : Nat → List D → Option (Prop × D)
  eats : Nat → Option (Rx → List D → Option (Prop × Rx)) := fun _ => none
  inl : Nat → Option (List D → AS → (D → AS → Prop) → Prop) := fun _ => none
  does : Nat → List D → D → Prop := fun _ _ _ => False
  raw : Bool := false
  hard : List Nat := []

/-- Arithmetic by name: nothing of it is laid open while code is read. -/
structure Ar where
  add : IntKind → Int → Int → Int
  sub : IntKind → Int → Int → Int
  mul : IntKind → Int → Int → Int
  quo : IntKind → Int → Int → Int
  rem : Int → Int → Int
  eq : Int → Int → Bool
  ne : Int → Int → Bool
  lt : Int → Int → Bool
  le : Int → Int → Bool
  gt : Int → Int → Bool
  ge : Int → Int → Bool
  ne0 : Int → Prop
  seq : ByteArray → ByteArray → Bool
  not : Bool → Bool
  and : Bool → Bool → Bool
  beq : Bool → Bool → Bool
  min : Int → Int → Int
  max : Int → Int → Int
  nat : Int → Nat
  int : Nat → Int
  inb : Int → Nat → Prop
  bnd : Int → Nat → Prop
  bnd2 : Int → Int → Nat → Prop
  nsub : Nat → Nat → Nat
  from_ : (Nat → List Value) → Nat → Nat → List Value
  ssize : ByteArray → Int
  snat : ByteArray → Nat
  sat : ByteArray → Int → Int
  nadd : Nat → Nat → Nat
  lit : List (List Value) → Nat → List Value
  cat : (Nat → List Value) → Nat → (Nat → List Value) → Nat → List Value
  set : (Nat → List Value) → Nat → Nat → List Value → Nat → List Value
  fits : Nat → Nat → Nat → Prop

def Ar.std : Ar where
  add k a b := k.wrap (a + b)
  sub k a b := k.wrap (a - b)
  mul k a b := k.wrap (a * b)
  quo k a b := k.wrap (a.tdiv b)
  rem a b := a.tmod b
  eq a b := a == b
  ne a b := a != b
  lt a b := decide (a < b)
  le a b := decide (a ≤ b)
  gt a b := decide (a > b)
  ge a b := decide (a ≥ b)
  ne0 b := b ≠ 0
  seq a b := a.toList == b.toList
  not b := !b
  and a b := a && b
  beq a b := a == b
  min x y := if y < x then y else x
  max x y := if x < y then y else x
  nat i := i.toNat
  int n := (n : Int)
  inb i n := 0 ≤ i ∧ i < n
  bnd i n := 0 ≤ i ∧ i ≤ n
  bnd2 l h n := 0 ≤ l ∧ l ≤ h ∧ h ≤ n
  nsub a b := a - b
  from_ get k j := get (j + k)
  ssize s := s.size
  snat s := s.size
  sat s i := (s.data.toList.getD i.toNat 0).toNat
  nadd a b := a + b
  lit l i := l.getD i []
  cat f n g i := if i < n then f i else g (i - n)
  set f i off xs j := if j = i then (f i).take off ++ xs ++ (f i).drop (off + xs.length) else f j
  fits n m bytes := n + m ≤ 9223372036854775807 ∧ (n + m) * bytes ≤ 140737488355328

def Rx.lenA (A : Ar) : Rx → Nat
  | .lit l => l.length
  | .of n _ => n
  | .cat a b => A.nadd (a.lenA A) (b.lenA A)
  | .set a _ _ _ => a.lenA A
def Rx.getA (A : Ar) : Rx → Nat → List Value
  | .lit l => A.lit l
  | .of _ get => get
  | .cat a b => A.cat (a.getA A) (a.lenA A) (b.getA A)
  | .set a i off xs => A.set (a.getA A) i off xs
theorem Rx.lenA_std : ∀ x : Rx, x.lenA Ar.std = x.len
  | .lit _ => rfl
  | .of _ _ => rfl
  | .cat a b => by simp only [Rx.lenA, Rx.len, a.lenA_std, b.lenA_std]; rfl
  | .set a _ _ _ => by simp only [Rx.lenA, Rx.len, a.lenA_std]
theorem Rx.getA_std : ∀ x : Rx, x.getA Ar.std = x.get
  | .lit _ => rfl
  | .of _ _ => rfl
  | .cat a b => by simp only [Rx.getA, Rx.get, a.getA_std, b.getA_std, a.lenA_std]; rfl
  | .set a i off xs => by simp only [Rx.getA, Rx.get, a.getA_std]; rfl

def cellsEqA (A : Ar) : List Value → List Value → Bool
  | .int _ a :: r, .int _ b :: s => A.and (A.eq a b) (cellsEqA A r s)
  | .bool a :: r, .bool b :: s => A.and (A.beq a b) (cellsEqA A r s)
  | .string a :: r, .string b :: s => A.and (A.seq a b) (cellsEqA A r s)
  | [], [] => true
  | _, _ => false

theorem cellsEqA_std : ∀ xs ys, cellsEqA Ar.std xs ys = cellsEq xs ys
  | [], [] => rfl
  | [], _ :: _ => by simp only [cellsEqA, cellsEq]
  | .int _ a :: r, .int _ b :: s => by simp only [cellsEqA, cellsEq, cellsEqA_std r s]; rfl
  | .bool a :: r, .bool b :: s => by simp only [cellsEqA, cellsEq, cellsEqA_std r s]; rfl
  | .string a :: r, .string b :: s => by simp only [cellsEqA, cellsEq, cellsEqA_std r s]; rfl
  | x :: r, ys => by
    cases x <;> cases ys <;> first | rfl | (rename_i y _; cases y <;> first | rfl | (simp only [cellsEqA, cellsEq, cellsEqA_std]; rfl))
/-- What an operation does, as far as it is known. -/
inductive Eff where
  | ret (p : Prop) (d : D)
  | sel (t : Bool) (x y : D)
  | nilq (n : Nat) (neg : Bool)
  | box (t : Nat) (cs : List C)
  | row (p : Prop) (e sz : Nat) (xs : Rx)
  | store (i t : Nat) (cs : List C)
  | app (k : Nat) (p : Prop) (e sz : Nat) (xs : Rx)
  | rset (k e sz : Nat) (xs : Rx)
  | call (R : D → Prop) (ef : D → Eff)
  | arr (k e sz : Nat) (xs : Rx)
  | bad

def look : List (Nat × Blk) → Nat → Option Blk
  | [], _ => none
  | (j, b) :: r, i => if i = j then some b else look r i

def ofConst (v : Value) : D :=
  match v with
  | .agg a => if a.toList.all (·.oneCell') then .agg (a.toList.map C.v) else .c .any
  | .tuple _ => .c .any
  | v => .c (.v v)

def ev0 (fr : List D) : Operand → D
  | .tmp t => fr.getD t (.c .any)
  | .const v => ofConst v
  | .func f => .c (.fn f [])
  | .global _ => .c .any

/-- What has been laid by for reading alone is read so. -/
def C.res (mem : List (Nat × Blk)) : C → C
  | .own k => match look mem k with
    | some (.fsl sz n get) => .sl sz n get
    | _ => .own k
  | .ptr i off => match look mem i with
    | some (.fbx cs) => .rp cs off
    | _ => .ptr i off
  | c => c
def D.res (mem : List (Nat × Blk)) : D → D
  | .c x => .c (x.res mem)
  | d => d

def ev (mem : List (Nat × Blk)) (fr : List D) (x : Operand) : D := (ev0 fr x).res mem

def C.solid : C → Bool
  | .any | .own _ | .rpt _ _ _ _ | .rsl _ _ _ => false
  | _ => true

def cval : C → Option Value
  | .v x => some x
  | .b t => some (.bool t)
  | _ => none
def cvals : List C → Option (List Value)
  | [] => some []
  | c :: r => match cval c, cvals r with
    | some x, some xs => some (x :: xs)
    | _, _ => none

/-- The cells that a value fills. -/
def cellsOf : D → Option (List C)
  | .c x => if x.solid then some [x] else none
  | .agg xs => some xs
  | _ => none

def setAll (cs : List C) (off : Nat) : List C → List C
  | [] => cs
  | x :: r => setAll (cs.set off x) (off + 1) r

/-- Fill the parts of a struct's or an array's value. -/
def fillD (place : Nat → Option (Nat × Nat)) (cs : List C) : List (Nat × D) → Option (List C)
  | [] => some cs
  | (i, d) :: r => match place i, cellsOf d with
    | some (o, s), some xs => if xs.length = s ∧ o + s ≤ cs.length then fillD place (setAll cs o xs) r else none
    | _, _ => none

mutual
/-- No number of the call's own is in it. -/
def C.pure : C → Bool
  | .own _ | .ptr _ _ | .rpt _ _ _ _ | .rsl _ _ _ => false
  | .rp cells _ => C.pures cells
  | .fn _ caps => C.pures caps
  | _ => true
def C.pures : List C → Bool
  | [] => true
  | c :: r => c.pure && C.pures r
end
def D.pure : D → Bool
  | .c x => x.pure
  | .agg xs => C.pures xs
  | _ => false

/-- A row handed back is read from now on. -/
def D.adopt (A : Ar) : D → D
  | .rowv _ sz xs => .c (.sl sz (xs.lenA A) (xs.getA A))
  | d => d
def adopts (A : Ar) : List D → List D
  | [] => []
  | d :: r => d.adopt A :: adopts A r

/-- What a call's answer comes to. -/
def effD (A : Ar) : D → Eff
  | .rowv e sz xs => .row True e sz xs
  | .tup ds => .ret True (.tup (adopts A ds))
  | d => .ret True d
def callPlain (A : Ar) (env : Env) (f : Nat) (args : List D) : Eff :=
  if args.all D.pure then
    match env.calls f args with
    | some (p, .rowv e sz xs) => .row p e sz xs
    | some (p, .tup ds) => .ret p (.tup (adopts A ds))
    | some (p, d) => .ret p d
    | none => .call (env.does f args) (effD A)
  else .bad
def callEff (A : Ar) (env : Env) (mem : List (Nat × Blk)) (f : Nat) (args : List D) : Eff :=
  match env.eats f, args with
  | some h, .c (.own k) :: rest => match look mem k with
    | some (.row e sz xs) => if rest.all D.pure then
        (match h xs rest with
        | some (p, ys) => .app k p e sz ys
        | none => .bad) else .bad
    | _ => .bad
  | _, args => callPlain A env f args

def nums (xs : List (Nat × D)) (n : Nat) : Bool := xs.map (·.1) == List.range n
def partRows : List (Nat × D) → Option (List (List Value))
  | [] => some []
  | (_, d) :: r => match cellsOf d with
    | some cs => match cvals cs, partRows r with
      | some xs, some ys => some (xs :: ys)
      | _, _ => none
    | none => none

def part (ti : TI) (cs : List C) (off : Nat) : Option D :=
  if ti.agg then (if ((cs.drop off).take ti.size).length = ti.size then some (.agg ((cs.drop off).take ti.size)) else none)
  else match cs[off]? with
    | some c => some (.c c)
    | none => none

def C.noOwn : C → Bool
  | .own _ => false
  | _ => true
/-- A part of a variable of the call's own. -/
def partB (ti : TI) (cs : List C) (off : Nat) : Option D :=
  if ti.agg then (if ((cs.drop off).take ti.size).length = ti.size ∧ ((cs.drop off).take ti.size).all C.noOwn then some (.agg ((cs.drop off).take ti.size)) else none)
  else match cs[off]? with
    | some c => some (.c c)
    | none => none
/-- What a store lays down: a row of the call's own, too. -/
def cellsOfB (mem : List (Nat × Blk)) : D → Option (List C)
  | .c (.own k) => match look mem k with
    | some (.row _ _ _) => some [.own k]
    | _ => none
  | d => cellsOf d

def Eff.of : Option D → Eff
  | some d => .ret True d
  | none => .bad

def cvalsOf : List D → Option (List C)
  | [] => some []
  | .c x :: r => match x.solid, cvalsOf r with
    | true, some cs => some (x :: cs)
    | _, _ => none
  | _ => none

def abin (A : Ar) (ti : Option TI) (op : BinOp) (x y : D) : Eff :=
  match op, x, y with
  | .add, .c (.v (.int k a)), .c (.v (.int k' b)) => if k = k' then .ret True (.c (.v (.int k (A.add k a b)))) else .bad
  | .sub, .c (.v (.int k a)), .c (.v (.int k' b)) => if k = k' then .ret True (.c (.v (.int k (A.sub k a b)))) else .bad
  | .mul, .c (.v (.int k a)), .c (.v (.int k' b)) => if k = k' then .ret True (.c (.v (.int k (A.mul k a b)))) else .bad
  | .quo, .c (.v (.int k a)), .c (.v (.int k' b)) => if k = k' then .ret (A.ne0 b) (.c (.v (.int k (A.quo k a b)))) else .bad
  | .rem, .c (.v (.int k a)), .c (.v (.int k' b)) => if k = k' then .ret (A.ne0 b) (.c (.v (.int k (A.rem a b)))) else .bad
  | .eql, .c (.v (.int k a)), .c (.v (.int k' b)) => if k = k' then .ret True (.c (.b (A.eq a b))) else .bad
  | .neq, .c (.v (.int k a)), .c (.v (.int k' b)) => if k = k' then .ret True (.c (.b (A.ne a b))) else .bad
  | .lss, .c (.v (.int k a)), .c (.v (.int k' b)) => if k = k' then .ret True (.c (.b (A.lt a b))) else .bad
  | .leq, .c (.v (.int k a)), .c (.v (.int k' b)) => if k = k' then .ret True (.c (.b (A.le a b))) else .bad
  | .gtr, .c (.v (.int k a)), .c (.v (.int k' b)) => if k = k' then .ret True (.c (.b (A.gt a b))) else .bad
  | .geq, .c (.v (.int k a)), .c (.v (.int k' b)) => if k = k' then .ret True (.c (.b (A.ge a b))) else .bad
  | .eql, .agg xs, .agg ys => match ti with
    | some ti => if ti.eq then (match cvals xs, cvals ys with
      | some us, some vs => if ckOk ti.ck us && ckOk ti.ck vs then .ret True (.c (.b (cellsEqA A us vs))) else .bad
      | _, _ => .bad) else .bad
    | none => .bad
  | .neq, .agg xs, .agg ys => match ti with
    | some ti => if ti.eq then (match cvals xs, cvals ys with
      | some us, some vs => if ckOk ti.ck us && ckOk ti.ck vs then .ret True (.c (.b (A.not (cellsEqA A us vs)))) else .bad
      | _, _ => .bad) else .bad
    | none => .bad
  | _, _, _ => .bad


def boolC : C → Option Bool
  | .b t => some t
  | .v (.bool t) => some t
  | _ => none
def boolsOf (op : BinOp) (x y : D) : Option (Bool × Bool × Bool) :=
  match op, x, y with
  | .eql, .c x, .c y => match boolC x, boolC y with
    | some p, some q => some (false, p, q)
    | _, _ => none
  | .neq, .c x, .c y => match boolC x, boolC y with
    | some p, some q => some (true, p, q)
    | _, _ => none
  | _, _, _ => none
def binEff (A : Ar) (T : Tab) (op : BinOp) (t : Nat) (x y : D) : Eff :=
  match op, x, y with
  | .eql, .c (.sl _ n _), .c (.v (.slice none 0 0)) => match descOf T t with
    | .slice _ => .nilq n false
    | _ => .bad
  | .eql, .c (.v (.string a)), .c (.v (.string b)) => .ret True (.c (.b (A.seq a b)))
  | .neq, .c (.v (.string a)), .c (.v (.string b)) => .ret True (.c (.b (A.not (A.seq a b))))
  | op, a, b => match boolsOf op a b with
    | some (neg, p, q) => match descOf T t with
      | .bool => .ret True (.c (.b (match neg with
        | true => A.not (A.beq p q)
        | false => A.beq p q)))
      | _ => .bad
    | none => abin A (T t) op a b


/-- What is appended, to a row whose elements have so many cells. -/
def srcRows (mem : List (Nat × Blk)) (k sz : Nat) : D → Option Rx
  | .c (.sl sz' n get) => if sz' = sz then some (.of n get) else none
  | .c (.v (.slice none 0 0)) => some (.lit [])
  | .c (.own j) => if j = k then none else match look mem j with
    | some (.row _ sz' xs) => if sz' = sz then some xs else none
    | _ => none
  | _ => none

def srcRowsN (mem : List (Nat × Blk)) (sz : Nat) : D → Option Rx
  | .c (.sl sz' n get) => if sz' = sz then some (.of n get) else none
  | .c (.v (.slice none 0 0)) => some (.lit [])
  | .c (.own j) => match look mem j with
    | some (.row _ sz' xs) => if sz' = sz then some xs else none
    | _ => none
  | _ => none

def chunks (sz n : Nat) (vs : List Value) : List (List Value) := (List.range n).map fun i => (vs.drop (i * sz)).take sz
def clrRow (A : Ar) (xs : Rx) (lo : Nat) (z : List Value) : Rx := .cat (.of lo (xs.getA A)) (.of (A.nsub (xs.lenA A) lo) (fun _ => z))
def builtinEff (A : Ar) (T : Tab) (mem : List (Nat × Blk)) (b : Builtin) (tys : List Nat) (args : List D) : Eff :=
  match b, tys, args with
  | .len, [t], [.c (.sl _ n _)] => match descOf T t with
    | .slice _ => .ret True (.c (.v (.int .i64 (A.int n))))
    | _ => .bad
  | .len, [t], [.c (.v (.slice none 0 0))] => match descOf T t with
    | .slice _ => .ret True (.c (.v (.int .i64 0)))
    | _ => .bad
  | .len, [t], [.c (.v (.string s))] => match descOf T t with
    | .str => .ret True (.c (.v (.int .i64 (A.ssize s))))
    | _ => .bad
  | .len, [t], [.c (.own k)] => match descOf T t, look mem k with
    | .slice _, some (.row _ _ xs) => .ret True (.c (.v (.int .i64 (A.int (xs.lenA A)))))
    | _, _ => .bad
  | .clear, [t], [.c (.rsl k lo sz)] => match descOf T t, look mem k with
    | .slice e, some (.row e' sz' xs) => match T e with
      | some ei => if sz = sz' ∧ sz = ei.size ∧ 0 < sz then .rset k e' sz' (clrRow A xs lo ei.zero) else .bad
      | none => .bad
    | _, _ => .bad
  | .min, _, [.c (.v (.int k x)), .c (.v (.int k' y))] => if k = k' then .ret True (.c (.v (.int k (A.min x y)))) else .bad
  | .max, _, [.c (.v (.int k x)), .c (.v (.int k' y))] => if k = k' then .ret True (.c (.v (.int k (A.max x y)))) else .bad
  | .append, [t, t'], [.c (.own k), src] => match descOf T t, look mem k with
    | .slice e, some (.row e' sz xs) => match T e, srcRows mem k sz src with
      | some ei, some ys => if t = t' ∧ e = e' ∧ sz = ei.size ∧ 0 < sz then .app k (A.fits (xs.lenA A) (ys.lenA A) ei.bytes) e sz (.cat xs ys) else .bad
      | _, _ => .bad
    | _, _ => .bad
  | .append, [t, t'], [.c (.v (.slice none 0 0)), src] => match descOf T t with
    | .slice e => match T e with
      | some ei => match srcRowsN mem ei.size src with
        | some ys => if t = t' ∧ 0 < ei.size then .row (A.fits 0 (ys.lenA A) ei.bytes) e ei.size ys else .bad
        | none => .bad
      | none => .bad
    | _ => .bad
  | _, _, _ => .bad


/-- What an operation does: T the types, env the functions, mem the call's memory, fr the frame. -/
def gop (A : Ar) (T : Tab) (env : Env) (mem : List (Nat × Blk)) (fr : List D) (o : Oper) : Eff :=
  match o.op with
  | .move x | .assign x => .ret True (ev mem fr x)
  | .pick c x y => match ev mem fr c with
    | .c (.v (.bool true)) => .ret True (ev mem fr x)
    | .c (.v (.bool false)) => .ret True (ev mem fr y)
    | .c (.b t) => .sel t (ev mem fr x) (ev mem fr y)
    | _ => .bad
  | .alloc t => match T t with
    | some ti => .box t (ti.zero.map C.v)
    | none => .bad
  | .box t x => match T t, cellsOf (ev mem fr x) with
    | some ti, some cs => if cs.length = ti.size then .box t cs else .bad
    | _, _ => .bad
  | .build t parts => match T t, descOf T t with
    | some ti, .struct fs => match fillD (fun i => fs[i]?) (ti.zero.map C.v) (parts.toList.map fun (i, x) => (i, ev mem fr x)) with
      | some cs => .ret True (.agg cs)
      | none => .bad
    | some ti, .arr _ e => match T e with
      | some ei => match fillD (fun i => some (i * ei.size, ei.size)) (ti.zero.map C.v) (parts.toList.map fun (i, x) => (i, ev mem fr x)) with
        | some cs => .ret True (.agg cs)
        | none => .bad
      | none => .bad
    | _, _ => .bad
  | .buildSlice t n parts => match descOf T t with
    | .slice e => match T e, partRows (parts.toList.map fun (i, x) => (i, ev mem fr x)) with
      | some ei, some xs => if nums (parts.toList.map fun (i, x) => (i, ev mem fr x)) n && n * ei.size ≤ 1000 && xs.all (fun x => x.length == ei.size) && decide (0 < ei.size) then .row True e ei.size (.lit xs) else .bad
      | _, _ => .bad
    | _ => .bad
  | .load t x => match ev mem fr x, T t with
    | .c (.ptr i off), some ti => match look mem i with
      | some (.box _ cs) => Eff.of (partB ti cs off)
      | _ => .bad
    | .c (.rp cs off), some ti => Eff.of (part ti cs off)
    | .c (.rpt k i sz off), some ti => match look mem k with
      | some (.row _ sz' xs) => if sz = sz' then Eff.of (part ti ((xs.getA A i).map C.v) off) else .bad
      | _ => .bad
    | _, _ => .bad
  | .store t a x => match ev mem fr a, T t with
    | .c (.ptr i off), some ti => match look mem i, cellsOfB mem (ev mem fr x) with
      | some (.box t' cs), some xs => if xs.length = ti.size ∧ off + ti.size ≤ cs.length then .store i t' (setAll cs off xs) else .bad
      | _, _ => .bad
    | .c (.rpt k i sz off), some ti => match look mem k, (cellsOf (ev mem fr x)).bind cvals with
      | some (.row e sz' xs), some us => if us.length = ti.size ∧ off + ti.size ≤ sz ∧ sz = sz' then .rset k e sz (.set xs i off us) else .bad
      | _, _ => .bad
    | _, _ => .bad
  | .nilCheck x => match ev mem fr x with
    | .c (.ptr i off) => .ret True (.c (.ptr i off))
    | .c (.rp cs off) => .ret True (.c (.rp cs off))
    | .c (.rpt k i sz off) => .ret True (.c (.rpt k i sz off))
    | _ => .bad
  | .binOp op t x y _ => binEff A T op t (ev mem fr x) (ev mem fr y)
  | .unOp .not _ x => match ev mem fr x with
    | .c (.v (.bool t)) => .ret True (.c (.v (.bool (!t))))
    | .c (.b t) => .ret True (.c (.b (A.not t)))
    | _ => .bad
  | .unOp .neg _ x => match ev mem fr x with
    | .c (.v (.int k n)) => .ret True (.c (.v (.int k (A.sub k 0 n))))
    | _ => .bad
  | .fieldAddr t x f => match descOf T t with
    | .struct fs => match fs[f]? with
      | some (o, _) => match ev mem fr x with
        | .c (.ptr i off) => .ret True (.c (.ptr i (off + o)))
        | .c (.rp cs off) => .ret True (.c (.rp cs (off + o)))
        | .c (.rpt k i sz off) => .ret True (.c (.rpt k i sz (off + o)))
        | _ => .bad
      | none => .bad
    | _ => .bad
  | .indexAddr t x ix => match descOf T t with
    | .slice e => match T e with
      | some ei => match ev mem fr x, ev mem fr ix with
        | .c (.sl sz n get), .c (.v (.int _ i)) => if sz = ei.size then .ret (A.inb i n) (.c (.rp ((get (A.nat i)).map C.v) 0)) else .bad
        | .c (.own k), .c (.v (.int _ i)) => match look mem k with
          | some (.row _ sz xs) => if sz = ei.size then .ret (A.inb i (xs.lenA A)) (.c (.rpt k (A.nat i) sz 0)) else .bad
          | _ => .bad
        | _, _ => .bad
      | none => .bad
    | .arr n e => match T e with
      | some ei => match ev mem fr x, ev mem fr ix with
        | .c (.ptr i off), .c (.v (.int _ k)) => .ret (0 ≤ k ∧ k < n) (.c (.ptr i (off + k.toNat * ei.size)))
        | _, _ => .bad
      | none => .bad
    | _ => .bad
  | .index t x ix => match descOf T t with
    | .str => match ev mem fr x, ev mem fr ix with
      | .c (.v (.string s)), .c (.v (.int _ i)) => .ret (A.inb i (A.snat s)) (.c (.v (.int .u8 (A.sat s i))))
      | _, _ => .bad
    | .arr n e => match T e, ev mem fr x, ev mem fr ix with
      | some ei, .agg cs, .c (.v (.int _ i)) => match ei.agg, cs[i.toNat * ei.size]? with
        | false, some c => .ret (A.inb i n) (.c c)
        | _, _ => .bad
      | _, _, _ => .bad
    | _ => .bad
  | .slice t x lo hi none => match descOf T t with
    | .slice e => match T e, ev mem fr x with
      | some ei, .c (.sl sz n get) => if sz = ei.size then
          (match lo.map (ev mem fr), hi.map (ev mem fr) with
          | none, none => .ret True (.c (.sl sz n get))
          | some (.c (.v (.int _ l))), none => .ret (A.bnd l n) (.c (.sl sz (A.nsub n (A.nat l)) (A.from_ get (A.nat l))))
          | none, some (.c (.v (.int _ h))) => .ret (A.bnd h n) (.c (.sl sz (A.nat h) get))
          | some (.c (.v (.int _ l))), some (.c (.v (.int _ h))) => .ret (A.bnd2 l h n) (.c (.sl sz (A.nsub (A.nat h) (A.nat l)) (A.from_ get (A.nat l))))
          | _, _ => .bad) else .bad
      | some ei, .c (.own k) => match look mem k, lo.map (ev mem fr), hi with
        | some (.row _ sz xs), some (.c (.v (.int _ l))), none => if sz = ei.size then .ret (A.inb l (xs.lenA A)) (.c (.rsl k (A.nat l) sz)) else .bad
        | _, _, _ => .bad
      | _, _ => .bad
    | .arr n e => match T e, ev mem fr x, lo, hi with
      | some ei, .c (.ptr i 0), none, none => match look mem i with
        | some (.box t' cs) => match cvals cs with
          | some vs => if vs.length = n * ei.size ∧ 0 < ei.size ∧ n ≤ 1000 then .arr i t' ei.size (.lit (chunks ei.size n vs)) else .bad
          | none => .bad
        | _ => .bad
      | _, _, _, _ => .bad
    | _ => .bad
  | .extract x i => match ev mem fr x with
    | .tup ds => match ds[i]? with
      | some d => .ret True d
      | none => .bad
    | _ => .bad
  | .makeFunc (.func f) first captured => if first.size = 0 then (match cvalsOf (captured.toList.map (ev mem fr)) with
    | some cs => .ret True (.c (.fn f cs))
    | none => .bad) else .bad
  | .call { callee := .builtin b, args, argTypes } => builtinEff A T mem b argTypes.toList (args.toList.map (ev mem fr))
  | .call { callee := .value fo, args, .. } => match ev mem fr fo with
    | .c (.fn f caps) => callEff A env mem f (args.toList.map (ev mem fr) ++ caps.map D.c)
    | _ => .bad
  | _ => .bad

end Go.Proofs.Ytoocihhnlhehlaa.Den
