/- A small machine of values: what it answers, the program answers (its definitions). -/
import Derived.Calls
import Derived.Orders
import Derived.KernelRfl
namespace Go.Proofs.Ytohfaccniialmaa.Am
open Go
set_option linter.constructorNameAsVariable false
set_option linter.unusedVariables false

/-- the types of what a row holds -/
inductive Ty where
  | i (k : IntKind) | b | s | u | pr (x y : Ty) | sl (t : Ty)
  deriving DecidableEq

@[reducible] def Ty.D : Ty → Type
  | .i _ => Int | .b => Bool | .s => ByteArray | .u => Unit | .pr x y => x.D × y.D | .sl t => List t.D

def Ty.sz : Ty → Nat
  | .i _ | .b | .s | .sl _ => 1 | .u => 0 | .pr x y => x.sz + y.sz

/-- values: bad (anything), und (the empty place), pointers and rows of objects that are one's own (object, version), rows that stay (lst), pointers into these (rp) -/
inductive AV where
  | bad | und | mb
  | i (k : IntKind) (n : Int)
  | b (x : Bool)
  | s (x : ByteArray)
  | nilp | nilf | nili | nils
  | ptr (o off : Nat)
  | eptr (o ver j off : Nat)
  | rp (cs : List AV)
  | own (o ver : Nat)
  | sub (o ver lo n : Nat)
  | lst (t : Ty) (xs : List t.D)
  | fn (f : FuncId) (cap : List AV)
  | agg (cs : List AV)
  | tup (vs : List AV)

inductive AO where
  | dead
  | box (cs : List AV)
  | row (ver : Nat) (t : Ty) (xs : List t.D)
  | fro (ver : Nat) (t : Ty) (xs : List t.D)

structure St where
  tm : List (Nat × AV)
  ob : List (Nat × AO)

abbrev Ret := AV × List AO

def br {R : Type} (x : Bool) (a b : Option R) : Option R := match x with | true => a | false => b
def bd {A R : Type} (x : Option A) (f : A → Option R) : Option R := match x with | some a => f a | none => none
/-- two ways of which nobody knows which one is taken -/
noncomputable def both {R : Type} (x y : Option R) : Option R := match Classical.propDecidable (x = y) with | .isTrue _ => x | .isFalse _ => none
def gt {A R : Type} (xs : List A) (j : Nat) (f : A → Option R) : Option R := match xs[j]? with | some a => f a | none => none

inductive Tree (α : Type) where
  | ret (a : α)
  | fail
  | br (x : Bool) (a b : Tree α)
  | gt (t : Ty) (xs : List t.D) (j : Nat) (k : t.D → Tree α)
  | call (f : FuncId) (as : List AV) (os : List AO) (k : Ret → Tree α)

namespace Tree
def bind {α β : Type} : Tree α → (α → Tree β) → Tree β
  | .ret a, f => f a
  | .fail, _ => .fail
  | .br x a b, f => .br x (a.bind f) (b.bind f)
  | .gt t xs j k, f => .gt t xs j fun x => (k x).bind f
  | .call g as os k, f => .call g as os fun r => (k r).bind f
end Tree

structure Pack where
  T : Type
  x : Option T
  enc : T → Ret
abbrev Table := FuncId → List AV → List AO → Option Pack

def cps {α R : Type} (T : Table) : Tree α → (α → Option R) → Option R
  | .ret a, K => K a
  | .fail, _ => none
  | .br x a b, K => br x (cps T a K) (cps T b K)
  | .gt _ xs j k, K => gt xs j fun x => cps T (k x) K
  | .call f as os k, K => match T f as os with
    | some p => bd p.x fun t => cps T (k (p.enc t)) K
    | none => none

/-! ### places -/
def look {α : Type} : List (Nat × α) → Nat → Option α
  | [], _ => none
  | (k, v) :: l, n => match Nat.beq k n with | true => some v | false => look l n
def upd {α : Type} : List (Nat × α) → Nat → α → List (Nat × α)
  | [], n, a => [(n, a)]
  | (k, v) :: l, n, a => match Nat.beq k n with | true => (k, a) :: l | false => (k, v) :: upd l n a
def upds {α : Type} (l : List (Nat × α)) : List (Nat × α) → List (Nat × α)
  | [] => l
  | (n, a) :: r => upds (upd l n a) r
def has : List Nat → Nat → Bool
  | [], _ => false
  | k :: l, n => match Nat.beq k n with | true => true | false => has l n
def idx : List Nat → Nat → Option Nat
  | [], _ => none
  | k :: l, n => match Nat.beq k n with | true => some 0 | false => match idx l n with | some i => some (i + 1) | none => none

def constV : Value → AV
  | .int k n => .i k n
  | .bool x => .b x
  | .string s => .s s
  | .pointer none => .nilp
  | .nilFunc => .nilf
  | .nilIface => .nili
  | .slice none 0 0 => .nils
  | _ => .bad

def isBad : AV → Bool | .bad => true | _ => false
def consts : List Value → Option (List AV)
  | [] => some []
  | v :: r => match isBad (constV v), consts r with | false, some l => some (constV v :: l) | _, _ => none
def St.get (st : St) (t : Nat) : AV := match look st.tm t with | some a => a | none => .bad
def St.ev (st : St) : Operand → AV
  | .tmp t => st.get t
  | .const v => constV v
  | .func f => .fn f []
  | .global _ => .bad

/-! ### types -/
def szOf (P : Program) (t : TypeId) : Option Nat := match P.info? t with | some i => some i.size | none => none
def szIs (P : Program) (t : TypeId) (n : Nat) : Bool := match szOf P t with | some m => Nat.beq m n | none => false
def aggT (P : Program) (t : TypeId) : Option Bool := match P.underlying t with | some (.struct _) => some true | some (.array _ _) => some true | some _ => some false | none => none
def fieldsTy (g : TypeId → Option Ty) : List Field → Option Ty
  | [] => some .u
  | [f] => g f.type
  | f :: q :: r => match g f.type, fieldsTy g (q :: r) with | some a, some b => some (.pr a b) | _, _ => none
def tyOf (P : Program) : Nat → TypeId → Option Ty
  | 0, _ => none
  | n + 1, t => match P.underlying t with
    | some (.int k) => some (.i k)
    | some .bool => some .b
    | some .string => some .s
    | some (.slice e) => match tyOf P n e with | some u => some (.sl u) | none => none
    | some (.struct fs) => fieldsTy (tyOf P n) fs.toList
    | _ => none
def elemT (P : Program) (t : TypeId) : Option Ty := match P.underlying t with | some (.slice e) => tyOf P 8 e | _ => none
def zeroC (P : Program) (t : TypeId) : Option (List AV) := match P.info? t with
  | some i => match i.zero with | some v => consts v.cells.toList | none => none
  | none => none

def view : (t : Ty) → t.D → List AV
  | .i k, n => [.i k n]
  | .b, x => [.b x]
  | .s, x => [.s x]
  | .u, _ => []
  | .pr a b, x => view a x.1 ++ view b x.2
  | .sl t, xs => [.lst t xs]
def unI (k : IntKind) : List AV → Option Int
  | [.i k' n] => if k' = k then some n else none
  | _ => none
def unB : List AV → Option Bool
  | [.b x] => some x
  | _ => none
def unS : List AV → Option ByteArray
  | [.s x] => some x
  | _ => none
def unU : List AV → Option Unit
  | [] => some ()
  | _ => none
def unL (t : Ty) : List AV → Option (List t.D)
  | [.lst t' xs] => if h : t' = t then some (h ▸ xs) else none
  | [.nils] => some []
  | _ => none
def unview : (t : Ty) → List AV → Option t.D
  | .i k, cs => unI k cs
  | .b, cs => unB cs
  | .s, cs => unS cs
  | .u, cs => unU cs
  | .pr a b, cs => match unview a (cs.take a.sz), unview b (cs.drop a.sz) with | some x, some y => some (x, y) | _, _ => none
  | .sl t, cs => unL t cs

def cellsA : AV → Option (List AV)
  | .agg cs => some cs
  | .bad => none
  | .und => none
  | .tup _ => none
  | a => some [a]
def mkA (P : Program) (t : TypeId) (cs : List AV) : Option AV := match aggT P t with
  | some true => some (.agg cs)
  | some false => match cs with | [a] => some a | _ => none
  | none => none
def cut (cs : List AV) (off n : Nat) : Option (List AV) := match Nat.beq ((cs.drop off).take n).length n with | true => some ((cs.drop off).take n) | false => none
def splice (cs : List AV) (off : Nat) (new : List AV) : List AV := cs.take off ++ new ++ cs.drop (off + new.length)

/-! ### rows -/
structure RV where
  t : Ty
  xs : List t.D
  rd : List Nat
def rowOf (ob : Nat → Option AO) (dflt : Option Ty) : AV → Option RV
  | .own o v => match ob o with
    | some (.row v' t xs) => match Nat.beq v' v with | true => some ⟨t, xs, [o]⟩ | false => none
    | some (.fro v' t xs) => match Nat.beq v' v with | true => some ⟨t, xs, [o]⟩ | false => none
    | _ => none
  | .sub o v lo n => match ob o with
    | some (.row v' t xs) => match Nat.beq v' v with | true => some ⟨t, (xs.drop lo).take n, [o]⟩ | false => none
    | some (.fro v' t xs) => match Nat.beq v' v with | true => some ⟨t, (xs.drop lo).take n, [o]⟩ | false => none
    | _ => none
  | .lst t xs => some ⟨t, xs, []⟩
  | .nils => match dflt with | some t => some ⟨t, [], []⟩ | none => none
  | _ => none
def castR (t : Ty) (r : RV) : Option (List t.D) := if h : r.t = t then some (h ▸ r.xs) else none

/-- what is put into a row: its rows are frozen -/
def frz1 (ob : Nat → Option AO) : AV → Option (AV × List (Nat × AO))
  | .own o v => match ob o with
    | some (.row v' t xs) => match Nat.beq v' v with | true => some (.lst t xs, [(o, .fro v t xs)]) | false => none
    | some (.fro v' t xs) => match Nat.beq v' v with | true => some (.lst t xs, [(o, .fro v t xs)]) | false => none
    | _ => none
  | .bad => none | .und => none | .ptr _ _ => none | .eptr _ _ _ _ => none | .sub _ _ _ _ => none | .fn _ _ => none | .agg _ => none | .tup _ => none | .rp _ => none
  | a => some (a, [])
def frz (ob : Nat → Option AO) : List AV → Option (List AV × List (Nat × AO))
  | [] => some ([], [])
  | a :: r => match frz1 ob a, frz ob r with | some (b, w), some (s, w') => some (b :: s, w ++ w') | _, _ => none

structure Delta where
  v : AV
  ow : List (Nat × AO)
  rd : List Nat
def St.app (st : St) (dst : Option Nat) (d : Delta) : St := { tm := match dst with | some t => upd st.tm t d.v | none => st.tm, ob := upds st.ob d.ow }

def newId (d r : Nat) : Nat := 10000 + 100 * d + r

/-- an object that is new -/
def fresh (ob : Nat → Option AO) (k : Nat) {α : Type} (t : Tree α) : Tree α := match ob k with | none => t | some _ => .fail
abbrev TD := Tree Delta
def now (v : AV) : TD := .ret ⟨v, [], []⟩
def grd {α : Type} (c : Bool) (t : Tree α) : Tree α := .br c t .fail
def opt {α β : Type} : Option α → (α → Tree β) → Tree β
  | some a, f => f a
  | none, _ => .fail

/-! ### operations -/
def intBits (op : BinOp) (k : IntKind) (x y : Int) : Option Int := match op with
  | .and => some (k.wrap (BitVec.ofInt k.bits x &&& BitVec.ofInt k.bits y).toNat)
  | .or => some (k.wrap (BitVec.ofInt k.bits x ||| BitVec.ofInt k.bits y).toNat)
  | .xor => some (k.wrap (BitVec.ofInt k.bits x ^^^ BitVec.ofInt k.bits y).toNat)
  | .andNot => some (k.wrap (BitVec.ofInt k.bits x &&& ~~~ BitVec.ofInt k.bits y).toNat)
  | _ => none
def seq (x y : ByteArray) : Bool := x.toList == y.toList
def slt (x y : ByteArray) : Bool := Op.bytesLess x.toList y.toList
def binI (op : BinOp) (k : IntKind) (x y : Int) : TD := match op with
  | .add => now (.i k (k.wrap (x + y)))
  | .sub => now (.i k (k.wrap (x - y)))
  | .mul => now (.i k (k.wrap (x * y)))
  | .quo => grd (!decide (y = 0)) (now (.i k (k.wrap (x.tdiv y))))
  | .rem => grd (!decide (y = 0)) (now (.i k (x.tmod y)))
  | .eql => now (.b (x == y))
  | .neq => now (.b (x != y))
  | .lss => now (.b (decide (x < y)))
  | .leq => now (.b (decide (x ≤ y)))
  | .gtr => now (.b (decide (x > y)))
  | .geq => now (.b (decide (x ≥ y)))
  | .and => opt (intBits .and k x y) fun n => now (.i k n)
  | .or => opt (intBits .or k x y) fun n => now (.i k n)
  | .xor => opt (intBits .xor k x y) fun n => now (.i k n)
  | .andNot => opt (intBits .andNot k x y) fun n => now (.i k n)
  | .shl => grd (decide (0 ≤ y)) (now (.i k (k.wrap (x * 2 ^ min y.toNat k.bits))))
  | .shr => grd (decide (0 ≤ y)) (now (.i k (x.fdiv (2 ^ min y.toNat k.bits))))
def binS (op : BinOp) (x y : ByteArray) : TD := match op with
  | .add => grd (decide (((x.size + y.size : Nat) : Int) ≤ 9223372036854775807)) (now (.s (x ++ y)))
  | .eql => now (.b (seq x y))
  | .neq => now (.b (!seq x y))
  | .lss => now (.b (slt x y))
  | .leq => now (.b (slt x y || seq x y))
  | .gtr => now (.b (!(slt x y || seq x y)))
  | .geq => now (.b (!slt x y))
  | _ => .fail
/-- structs that are equal, field by field -/
def eqF (P : Program) : List Field → List AV → List AV → Option Bool
  | [], _, _ => some true
  | f :: r, xs, ys => match f.name == "_", aggT P f.type, P.underlying f.type, xs[f.offset]?, ys[f.offset]?, eqF P r xs ys with
    | false, some false, some (.int _), some (.i k a), some (.i k' b), some q => if k = k' then some ((a == b) && q) else none
    | false, some false, some .string, some (.s a), some (.s b), some q => some ((a == b) && q)
    | false, some false, some .bool, some (.b a), some (.b b), some q => some ((a == b) && q)
    | _, _, _, _, _, _ => none
def eqOk (P : Program) (t : TypeId) : Bool := !(P.stoodInHeld t) && !(P.eqGuardType P.depth t)
def eqS (P : Program) (t : TypeId) (xs ys : List AV) : Option Bool := match P.underlying t with
  | some (.struct fs) => match eqOk P t with | true => eqF P fs.toList xs ys | false => none
  | _ => none
def binA (P : Program) (op : BinOp) (t : TypeId) : AV → AV → TD
  | .i k x, .i k' y => match op with
    | .shl => binI op k x y
    | .shr => binI op k x y
    | _ => if k = k' then binI op k x y else .fail
  | .s x, .s y => binS op x y
  | .b x, .b y => match P.underlying t with
    | some .bool => match op with | .eql => now (.b (x == y)) | .neq => now (.b (!(x == y))) | _ => .fail
    | _ => .fail
  | .agg xs, .agg ys => opt (eqS P t xs ys) fun q => match op with | .eql => now (.b q) | .neq => now (.b (!q)) | _ => .fail
  | _, _ => .fail
def isNilC : Operand → Bool
  | .const (.slice none 0 0) => true
  | _ => false
/-- is a row nil? -/
def nilQ (op : BinOp) (n : Nat) : TD := match op with
  | .eql => .br (decide (0 < n)) (now (.b false)) (now .mb)
  | .neq => .br (decide (0 < n)) (now (.b true)) (now .mb)
  | _ => .fail
def nilA (P : Program) (op : BinOp) (t : TypeId) (a : AV) : TD := match P.underlying t with
  | some (.slice _) => match a with
    | .lst _ xs => nilQ op xs.length
    | .nils => nilQ op 0
    | _ => .fail
  | _ => .fail
def unA (op : UnOp) : AV → TD
  | .b x => match op with | .not => now (.b (!x)) | _ => .fail
  | .i k x => match op with | .neg => now (.i k (k.wrap (0 - x))) | _ => .fail
  | _ => .fail

def loadA (P : Program) (ob : Nat → Option AO) (t : TypeId) (n : Nat) : AV → TD
  | .ptr o off => match ob o with
    | some (.box cs) => opt (cut cs off n) fun l => opt (mkA P t l) fun a => .ret ⟨a, [], [o]⟩
    | _ => .fail
  | .rp cs => opt (cut cs 0 n) fun l => opt (mkA P t l) fun a => now a
  | .eptr o v j off => match ob o with
    | some (.row v' u xs) => match Nat.beq v' v with
      | true => .gt u xs j fun x => opt (cut (view u x) off n) fun l => opt (mkA P t l) fun a => .ret ⟨a, [], [o]⟩
      | false => .fail
    | some (.fro v' u xs) => match Nat.beq v' v with
      | true => .gt u xs j fun x => opt (cut (view u x) off n) fun l => opt (mkA P t l) fun a => .ret ⟨a, [], [o]⟩
      | false => .fail
    | _ => .fail
  | _ => .fail
def storeA (ob : Nat → Option AO) (n : Nat) (p x : AV) : TD := opt (cellsA x) fun xc =>
  match Nat.beq xc.length n with
  | false => .fail
  | true => match p with
    | .ptr o off => match ob o with
      | some (.box cs) => match Nat.ble (off + n) cs.length with
        | true => .ret ⟨.und, [(o, .box (splice cs off xc))], [o]⟩
        | false => .fail
      | _ => .fail
    | .eptr o v j off => match ob o with
      | some (.row v' u xs) => match Nat.beq v' v with
        | true => opt (frz ob xc) fun w => .gt u xs j fun y =>
            match Nat.ble (off + n) u.sz, has (w.2.map (·.1)) o with
            | true, false => opt (unview u (splice (view u y) off w.1)) fun z => .ret ⟨.und, w.2 ++ [(o, .row v u (xs.set j z))], o :: w.2.map (·.1)⟩
            | _, _ => .fail
        | false => .fail
      | _ => .fail
    | _ => .fail

/-- the parts of a struct that is built -/
def fillA (place : Nat → Option (Nat × Nat)) (cs : List AV) : List (Nat × AV) → Option (List AV)
  | [] => some cs
  | (i, a) :: r => match place i with
    | none => none
    | some (off, size) => match cellsA a with
      | none => none
      | some ac => match Nat.beq ac.length size, Nat.ble (off + size) cs.length with
        | true, true => fillA place (splice cs off ac) r
        | _, _ => none
def places (P : Program) : List Field → Option (List (Nat × Nat))
  | [] => some []
  | f :: r => match szOf P f.type, places P r with | some n, some l => some ((f.offset, n) :: l) | _, _ => none
def placeF (P : Program) (fs : List Field) (i : Nat) : Option (Nat × Nat) := match fs[i]? with
  | some f => match szOf P f.type with | some n => some (f.offset, n) | none => none
  | none => none
def fieldsOf (P : Program) (t : TypeId) : Option (List Field) := match P.underlying t with | some (.struct fs) => some fs.toList | _ => none

def chunks (sz : Nat) : Nat → List AV → List (List AV)
  | 0, _ => []
  | n + 1, cs => cs.take sz :: chunks sz n (cs.drop sz)
def unviews (t : Ty) : List (List AV) → Option (List t.D)
  | [] => some []
  | c :: r => match unview t c, unviews t r with | some x, some l => some (x :: l) | _, _ => none
def repl {α : Type} (n : Nat) (l : List α) : List α := match n with | 0 => [] | k + 1 => l ++ repl k l

def lenA (ob : Nat → Option AO) : AV → Option (Int × List Nat)
  | .own o v => match rowOf ob none (.own o v) with | some r => some ((r.xs.length : Int), r.rd) | none => none
  | .sub o v lo n => match rowOf ob none (.sub o v lo n) with | some r => some ((n : Int), r.rd) | none => none
  | .lst _ xs => some ((xs.length : Int), [])
  | .nils => some (0, [])
  | _ => none

/-- a length up to which rows of elements of so many bytes grow without end of memory -/
def room (bytes : Nat) : Nat := 35184372088832 / (bytes + 1)

def bytesT (P : Program) (t : TypeId) : Option Nat := match P.underlying t with
  | some (.slice e) => match P.info? e with | some i => some i.bytes | none => none
  | _ => none

def appendB (d : Nat) (ob : Nat → Option AO) (u : Ty) (by_ : Nat) (rd : List Nat) (ys : List u.D) : AV → TD
  | .nils => grd (decide (ys.length ≤ room by_)) (fresh ob (newId d 0) (.ret ⟨.own (newId d 0) 0, [(newId d 0, .row 0 u ys)], rd⟩))
  | .own o v => match ob o with
    | some (.row v' t' xs) => match Nat.beq v' v with
      | true => opt (castR u ⟨t', xs, []⟩) fun zs => grd (decide (zs.length + ys.length ≤ room by_)) (.ret ⟨.own o (v + 1), [(o, .row (v + 1) u (zs ++ ys))], o :: rd⟩)
      | false => .fail
    | _ => .fail
  | _ => .fail
def appendA (P : Program) (d : Nat) (ob : Nat → Option AO) (ts : List TypeId) (s x : AV) : TD := match ts with
  | [t, tx] => match P.underlying t, P.underlying tx with
    | some (.slice e), some (.slice _) => opt (tyOf P 8 e) fun u => opt (bytesT P t) fun by_ => opt (zeroC P e) fun z => match szIs P e u.sz && Nat.beq z.length u.sz with
      | true => opt (rowOf ob (some u) x) fun rx => opt (castR u rx) fun ys => appendB d ob u by_ rx.rd ys s
      | false => .fail
    | _, _ => .fail
  | _ => .fail

def minI (x y : Int) : Int := if y < x then y else x
def maxI (x y : Int) : Int := if y > x then y else x
def foldI (f : Int → Int → Int) (k : IntKind) : Int → List AV → Option Int
  | n, [] => some n
  | n, .i k' m :: r => if k' = k then foldI f k (f n m) r else none
  | _, _ => none

/-! ### handing on -/
def lend (ob : Nat → Option AO) : AV → Option (AV × List Nat)
  | .own o v => match rowOf ob none (.own o v) with | some r => some (.lst r.t r.xs, [o]) | none => none
  | .sub o v lo n => match rowOf ob none (.sub o v lo n) with | some r => some (.lst r.t r.xs, [o]) | none => none
  | .agg cs => match lends ob cs with | some (l, w) => some (.agg l, w) | none => none
  | .bad => none | .und => none | .ptr _ _ => none | .eptr _ _ _ _ => none | .fn _ _ => none | .tup _ => none
  | a => some (a, [])
  where
  lends (ob : Nat → Option AO) : List AV → Option (List AV × List Nat)
  | [] => some ([], [])
  | a :: r => match lend ob a, lends ob r with | some (b, w), some (s, w') => some (b :: s, w ++ w') | _, _ => none
/-- by the function's marks: handed over (true), or lent -/
def passes (ob : Nat → Option AO) : List Bool → List AV → Option (List AV × List Nat)
  | _, [] => some ([], [])
  | true :: m, a :: r => match passes ob m r with | some (s, w) => some (a :: s, w) | none => none
  | false :: m, a :: r => match lend ob a, passes ob m r with | some (b, w), some (s, w') => some (b :: s, w ++ w') | _, _ => none
  | [], a :: r => match lend ob a, passes ob [] r with | some (b, w), some (s, w') => some (b :: s, w ++ w') | _, _ => none

def refs : AV → List Nat
  | .ptr o _ => [o]
  | .eptr o _ _ _ => [o]
  | .own o _ => [o]
  | .sub o _ _ _ => [o]
  | .fn _ cs => refsL cs
  | .agg cs => refsL cs
  | .tup cs => refsL cs
  | .rp cs => refsL cs
  | _ => []
  where
  refsL : List AV → List Nat
  | [] => []
  | a :: r => refs a ++ refsL r
def refsO : AO → List Nat
  | .box cs => refs.refsL cs
  | _ => []
/-- the objects that are come to, in the order in which they are met -/
def reach (ob : Nat → Option AO) : Nat → List Nat → List Nat → List Nat
  | 0, _, seen => seen
  | _, [], seen => seen
  | n + 1, o :: r, seen => match has seen o with
    | true => reach ob n r seen
    | false => match ob o with
      | some a => reach ob n (refsO a ++ r) (seen ++ [o])
      | none => reach ob n r (seen ++ [o])

def ren (ρ : Nat → Nat → Option (Nat × Nat)) : AV → AV
  | .ptr o off => match ρ o 0 with | some (o', _) => .ptr o' off | none => .bad
  | .eptr o v j off => match ρ o v with | some (o', v') => .eptr o' v' j off | none => .bad
  | .own o v => match ρ o v with | some (o', v') => .own o' v' | none => .bad
  | .sub o v lo n => match ρ o v with | some (o', v') => .sub o' v' lo n | none => .bad
  | .fn f cs => .fn f (renL ρ cs)
  | .agg cs => .agg (renL ρ cs)
  | .tup cs => .tup (renL ρ cs)
  | .rp cs => .rp (renL ρ cs)
  | a => a
  where
  renL (ρ : Nat → Nat → Option (Nat × Nat)) : List AV → List AV
  | [] => []
  | a :: r => ren ρ a :: renL ρ r
def verO : AO → Nat
  | .row v _ _ => v
  | .fro v _ _ => v
  | _ => 0
def renO (ρ : Nat → Nat → Option (Nat × Nat)) (ver : Nat) : AO → AO
  | .box cs => .box (ren.renL ρ cs)
  | .row _ t xs => .row ver t xs
  | .fro _ t xs => .fro ver t xs
  | .dead => .dead
def immT : Ty → Bool
  | .sl _ => true
  | .pr a b => immT a || immT b
  | _ => false
def imm : AV → Bool
  | .lst _ _ => true
  | .rp _ => true
  | .fn _ cs => immL cs
  | .agg cs => immL cs
  | .tup cs => immL cs
  | _ => false
  where
  immL : List AV → Bool
  | [] => false
  | a :: r => imm a || immL r
def immO : AO → Bool
  | .box cs => imm.immL cs
  | .row _ t _ => immT t
  | .fro _ _ _ => true
  | .dead => false
def rowsOk : List AO → Bool
  | [] => true
  | .fro _ _ _ :: _ => false
  | .dead :: _ => false
  | _ :: r => rowsOk r
/-- a box stays a box -/
def boxOk (v : Nat → Nat) : Nat → List AO → Bool
  | _, [] => true
  | i, .box _ :: r => match v i with | 0 => boxOk v (i + 1) r | _ => false
  | i, _ :: r => boxOk v (i + 1) r

def isDead : AO → Bool
  | .dead => true
  | _ => false
def rin (ob : Nat → Option AO) (L : List Nat) (o v : Nat) : Option (Nat × Nat) := match idx L o with
  | some i => match ob o with
    | some a => match isDead a, Nat.beq (verO a) v with | false, true => some (i, 0) | _, _ => none
    | none => none
  | none => none
def obsOf (ob : Nat → Option AO) (ρ : Nat → Nat → Option (Nat × Nat)) : List Nat → Option (List AO)
  | [] => some []
  | o :: r => match ob o, obsOf ob ρ r with | some a, some l => some (renO ρ 0 a :: l) | _, _ => none
/-- the i-th object behind a call -/
def sig (d : Nat) (L : List Nat) (i : Nat) : Nat := match L[i]? with | some o => o | none => newId d 0 + (i - L.length)
def verAt (ob : Nat → Option AO) (L : List Nat) (i : Nat) : Nat := match L[i]? with
  | some o => (match ob o with | some a => verO a | none => 0)
  | none => 0
def rout (d : Nat) (ob : Nat → Option AO) (L : List Nat) (i v : Nat) : Option (Nat × Nat) := some (sig d L i, verAt ob L i + v)
def backO (d : Nat) (ob : Nat → Option AO) (L : List Nat) : Nat → List AO → List (Nat × AO)
  | _, [] => []
  | i, a :: r => (sig d L i, renO (rout d ob L) (verAt ob L i + verO a) a) :: backO d ob L (i + 1) r
def froz (ob : Nat → Option AO) : List Nat → List (Nat × AO)
  | [] => []
  | o :: r => (match ob o with | some (.row v t xs) => [(o, .fro v t xs)] | _ => []) ++ froz ob r
def nodupB : List Nat → Bool
  | [] => true
  | a :: r => match has r a with | true => false | false => nodupB r
def disj : List Nat → List Nat → Bool
  | [], _ => true
  | a :: r, l => match has l a with | true => false | false => disj r l
def freshN (ob : Nat → Option AO) (k : Nat) : Nat → Bool
  | 0 => true
  | n + 1 => match ob (k + n) with | none => freshN ob k n | some _ => false
def anyImm : List AO → Bool
  | [] => false
  | a :: r => immO a || anyImm r
def callA (M : FuncId → List Bool) (d : Nat) (ob : Nat → Option AO) (f : FuncId) (as : List AV) : TD :=
  opt (passes ob (M f) as) fun p =>
  opt (obsOf ob (rin ob (reach ob 100 (refs.refsL p.1) [])) (reach ob 100 (refs.refsL p.1) [])) fun os =>
  match nodupB (reach ob 100 (refs.refsL p.1) []) && disj p.2 (reach ob 100 (refs.refsL p.1) []) && rowsOk os with
  | false => .fail
  | true => .call f (ren.renL (rin ob (reach ob 100 (refs.refsL p.1) [])) p.1) os fun r =>
    match Nat.ble (reach ob 100 (refs.refsL p.1) []).length r.2.length && freshN ob (newId d 0) (r.2.length - (reach ob 100 (refs.refsL p.1) []).length) && boxOk (verAt ob (reach ob 100 (refs.refsL p.1) [])) 0 r.2 with
    | false => .fail
    | true => match imm r.1 || anyImm r.2 with
      | true => .ret ⟨ren (rout d ob (reach ob 100 (refs.refsL p.1) [])) r.1, backO d ob (reach ob 100 (refs.refsL p.1) []) 0 r.2 ++ froz ob p.2, reach ob 100 (refs.refsL p.1) [] ++ p.2⟩
      | false => .ret ⟨ren (rout d ob (reach ob 100 (refs.refsL p.1) [])) r.1, backO d ob (reach ob 100 (refs.refsL p.1) []) 0 r.2, reach ob 100 (refs.refsL p.1) [] ++ p.2⟩

def numA (d : Int) : Option AV → Option Int
  | none => some d
  | some (.i _ n) => some n
  | _ => none
def bndA (n : Nat) (l h : Int) (k : TD) : TD := grd (decide (0 ≤ l)) (grd (decide (l ≤ h)) (grd (decide (h ≤ (n : Int))) k))
def zeroA : Option AV → Bool
  | some (.i _ n) => match n with | .ofNat m => Nat.beq m 0 | _ => false
  | _ => false
def sliceA (P : Program) (ob : Nat → Option AO) (t : TypeId) (x : AV) (lo hi mx : Option AV) : TD :=
  match P.underlying t with
  | some .string => match x, mx with
    | .s b, none => opt (numA 0 lo) fun l => opt (numA (b.size : Int) hi) fun h => bndA b.size l h (now (.s (b.extract l.toNat h.toNat)))
    | _, _ => .fail
  | some (.slice e) => opt (szOf P e) fun sz => match mx with
    | some m => match zeroA lo && (zeroA hi && zeroA (some m)) with
      | true => opt (lenA ob x) fun r => .ret ⟨.nils, [], r.2⟩
      | false => .fail
    | none => match x with
      | .lst t xs => match Nat.beq t.sz sz with
        | true => opt (numA 0 lo) fun l => opt (numA (xs.length : Int) hi) fun h => bndA xs.length l h (now (.lst t ((xs.take h.toNat).drop l.toNat)))
        | false => .fail
      | .own o v => opt (rowOf ob none (.own o v)) fun r => match Nat.beq r.t.sz sz with
        | true => opt (numA 0 lo) fun l => opt (numA (r.xs.length : Int) hi) fun h => bndA r.xs.length l h (.ret ⟨.sub o v l.toNat (h.toNat - l.toNat), [], r.rd⟩)
        | false => .fail
      | _ => .fail
  | _ => .fail

/-- a part of a row of one's own: the object, its version, where, how long -/
def partA (ob : Nat → Option AO) : AV → Option (Nat × Nat × Nat × Nat)
  | .own o v => match ob o with
    | some (.row v' _ xs) => match Nat.beq v' v with | true => some (o, v, 0, xs.length) | false => none
    | _ => none
  | .sub o v lo n => match ob o with
    | some (.row v' _ _) => match Nat.beq v' v with | true => some (o, v, lo, n) | false => none
    | _ => none
  | _ => none
def clearA (P : Program) (ob : Nat → Option AO) (e : TypeId) (x : AV) : TD := opt (zeroC P e) fun z => opt (partA ob x) fun p => match ob p.1 with
  | some (.row v t xs) => match Nat.beq z.length t.sz with
    | true => opt (unview t z) fun y => .ret ⟨.bad, [(p.1, .row v t (xs.take p.2.2.1 ++ List.replicate p.2.2.2 y ++ xs.drop (p.2.2.1 + p.2.2.2)))], [p.1]⟩
    | false => .fail
  | _ => .fail
def copyA (P : Program) (ob : Nat → Option AO) (e : TypeId) (x s : AV) : TD := opt (szOf P e) fun sz => opt (partA ob x) fun p => match ob p.1 with
  | some (.row v t xs) => match Nat.beq sz t.sz with
    | true => opt (rowOf ob (some t) s) fun r => opt (castR t r) fun ys =>
      .ret ⟨.i .i64 ((min ys.length p.2.2.2 : Nat) : Int), [(p.1, .row v t (xs.take p.2.2.1 ++ ys.take p.2.2.2 ++ xs.drop (p.2.2.1 + min ys.length p.2.2.2)))], p.1 :: r.rd⟩
    | false => .fail
  | _ => .fail

def lenB (P : Program) (ob : Nat → Option AO) (ts : List TypeId) (x : AV) : TD := match ts with
  | t :: _ => match P.underlying t with
    | some .string => match x with | .s b => now (.i .i64 (b.size : Int)) | _ => .fail
    | some (.slice _) => match x with
      | .s _ => .fail
      | y => opt (lenA ob y) fun n => .ret ⟨.i .i64 n.1, [], n.2⟩
    | _ => .fail
  | [] => .fail
def builtinA (P : Program) (d : Nat) (ob : Nat → Option AO) (b : Builtin) (ts : List TypeId) (as : List AV) : TD :=
  match b, as with
  | .len, [x] => lenB P ob ts x
  | .append, [s, x] => appendA P d ob ts s x
  | .copy, [x, y] => match ts with
    | t :: _ => match P.underlying t with | some (.slice e) => copyA P ob e x y | _ => .fail
    | [] => .fail
  | .clear, [x] => match ts with
    | t :: _ => match P.underlying t with | some (.slice e) => clearA P ob e x | _ => .fail
    | [] => .fail
  | .min, .i k n :: r => opt (foldI minI k n r) fun m => now (.i k m)
  | .max, .i k n :: r => opt (foldI maxI k n r) fun m => now (.i k m)
  | _, _ => .fail

/-- a text out of bytes -/
def strOf (xs : List Int) : ByteArray := ⟨(xs.map fun n => UInt8.ofNat n.toNat).toArray⟩
def convA (P : Program) (ob : Nat → Option AO) (s t : TypeId) (x : AV) : TD := match P.underlying s, P.underlying t with
  | some _, some (.int k) => match x with | .i _ n => now (.i k (k.wrap n)) | _ => .fail
  | some (.slice e), some .string => match P.underlying e with
    | some (.int .u8) => opt (rowOf ob (some (.i .u8)) x) fun r => opt (castR (.i .u8) r) fun ys => .ret ⟨.s (strOf ys), [], r.rd⟩
    | _ => .fail
  | _, _ => .fail

def opA (P : Program) (M : FuncId → List Bool) (ev : Operand → AV) (ob : Nat → Option AO) (o : Oper) : TD :=
  let d := o.dst.getD 0
  match o.op with
  | .move x => now (ev x)
  | .assign x => now (ev x)
  | .pick c a b => match ev c, ev a, ev b with
    | .b x, .b p, .b q => now (.b (cond x p q))
    | .b x, p, q => .br x (now p) (now q)
    | _, _, _ => .fail
  | .alloc t => opt (zeroC P t) fun cs => fresh ob (newId d 0) (.ret ⟨.ptr (newId d 0) 0, [(newId d 0, .box cs)], []⟩)
  | .box _ x => opt (cellsA (ev x)) fun cs => fresh ob (newId d 0) (.ret ⟨.ptr (newId d 0) 0, [(newId d 0, .box cs)], []⟩)
  | .build t ps => opt (zeroC P t) fun z => opt (fieldsOf P t) fun fs => opt (places P fs) fun pl => opt (fillA (fun i => pl[i]?) z (ps.toList.map fun p => (p.1, ev p.2))) fun cs => now (.agg cs)
  | .buildSlice t n ps => match P.underlying t with
    | some (.slice e) => opt (tyOf P 8 e) fun u => opt (szOf P e) fun sz => opt (zeroC P e) fun z => match Nat.beq sz u.sz && Nat.beq z.length sz, Nat.ble (n * sz) 16777216 with
      | true, true => opt (fillA (fun i => some (i * sz, sz)) (repl n z) (ps.toList.map fun p => (p.1, ev p.2))) fun cs =>
          opt (frz ob cs) fun w => opt (unviews u (chunks sz n w.1)) fun xs => fresh ob (newId d 0) (.ret ⟨.own (newId d 0) 0, w.2 ++ [(newId d 0, .row 0 u xs)], w.2.map (·.1)⟩)
      | _, _ => .fail
    | _ => .fail
  | .load t x => opt (szOf P t) fun n => loadA P ob t n (ev x)
  | .store t p x => opt (szOf P t) fun n => storeA ob n (ev p) (ev x)
  | .nilCheck x => match ev x with
    | .ptr o off => now (.ptr o off)
    | .eptr o v j off => now (.eptr o v j off)
    | .rp cs => now (.rp cs)
    | .fn f cs => now (.fn f cs)
    | _ => .fail
  | .binOp op t x y _ => match isNilC y with | true => nilA P op t (ev x) | false => binA P op t (ev x) (ev y)
  | .unOp op _ x => unA op (ev x)
  | .makeFunc (.func f) a cs => match a.size with | 0 => now (.fn f (cs.toList.map ev)) | _ => .fail
  | .makeSlice t l c => opt (elemT P t) fun u => match P.underlying t with
    | some (.slice e) => opt (zeroC P e) fun z => opt (unview u z) fun y => opt (bytesT P t) fun by_ => match ev l, ev c, szIs P e u.sz with
      | .i .i64 n, .i .i64 m, true => grd (decide (0 ≤ n)) (grd (decide (n ≤ m)) (grd (decide (m ≤ (room by_ : Int))) (fresh ob (newId d 0) (.ret ⟨.own (newId d 0) 0, [(newId d 0, .row 0 u (List.replicate n.toNat y))], []⟩))))
      | _, _, _ => .fail
    | _ => .fail
  | .slice t x lo hi mx => sliceA P ob t (ev x) (lo.map ev) (hi.map ev) (mx.map ev)
  | .fieldAddr t x f => opt (fieldsOf P t) fun fs => opt (placeF P fs f) fun pl => match pl.2 with
    | 0 => .fail
    | _ => match ev x with
      | .ptr o off => now (.ptr o (off + pl.1))
      | .eptr o v j off => now (.eptr o v j (off + pl.1))
      | .rp cs => now (.rp (cs.drop pl.1))
      | _ => .fail
  | .field t x f => opt (fieldsOf P t) fun fs => opt (fs[f]?) fun fd => opt (szOf P fd.type) fun n => match ev x with
    | .agg cs => opt (cut cs fd.offset n) fun l => opt (mkA P fd.type l) now
    | _ => .fail
  | .indexAddr t x i => match P.underlying t, ev i with
    | some (.slice e), .i _ n => opt (szOf P e) fun sz => match ev x with
      | .lst u xs => match Nat.beq u.sz sz with
        | true => grd (decide (0 ≤ n)) (.gt u xs n.toNat fun y => now (.rp (view u y)))
        | false => .fail
      | .own o v => opt (rowOf ob none (.own o v)) fun r => match Nat.beq r.t.sz sz with
        | true => grd (decide (0 ≤ n)) (grd (decide (n < (r.xs.length : Int))) (.ret ⟨.eptr o v n.toNat 0, [], r.rd⟩))
        | false => .fail
      | .sub o v lo m => opt (rowOf ob none (.own o v)) fun r => match Nat.beq r.t.sz sz with
        | true => grd (decide (0 ≤ n)) (grd (decide (n < (m : Int))) (.ret ⟨.eptr o v (lo + n.toNat) 0, [], r.rd⟩))
        | false => .fail
      | _ => .fail
    | _, _ => .fail
  | .index t x i => match P.underlying t, ev x, ev i with
    | some .string, .s b, .i _ n => grd (decide (0 ≤ n)) (grd (decide (n < (b.size : Int))) (now (.i .u8 ((b.data.toList.getD n.toNat 0).toNat : Int))))
    | _, _, _ => .fail
  | .extract x i => match ev x with | .tup vs => opt (vs[i]?) now | _ => .fail
  | .convert s t x => convA P ob s t (ev x)
  | .call c => match c.callee with
    | .builtin b => builtinA P d ob b c.argTypes.toList (c.args.toList.map ev)
    | .value f => match ev f with | .fn g cs => callA M d ob g (c.args.toList.map ev ++ cs) | _ => .fail
    | _ => .fail
  | _ => .fail

/-- an operation under its guard -/
def stepA (P : Program) (M : FuncId → List Bool) (ops : Array Oper) (st : St) (o : Oper) : Tree St :=
  match o.guard with
  | none => (opA P M st.ev (look st.ob) o).bind fun d => .ret (st.app o.dst d)
  | some (j, want) => match (ops[j]?).bind (·.dst) with
    | none => .fail
    | some g => match st.get g with
      | .und => .ret (st.app o.dst ⟨.und, [], []⟩)
      | .b x =>
        let yes : Tree St := let st' := { st with tm := upd st.tm g (.b want) }; (opA P M st'.ev (look st'.ob) o).bind fun d => .ret (st'.app o.dst d)
        let no : Tree St := .ret ({ st with tm := upd st.tm g (.b (!want)) }.app o.dst ⟨.und, [], []⟩)
        match want with | true => .br x yes no | false => .br x no yes
      | _ => .fail
def regA (P : Program) (M : FuncId → List Bool) (ops : Array Oper) : List Oper → St → Tree St
  | [], st => .ret st
  | o :: r, st => (stepA P M ops st o).bind (regA P M ops r)

/-! ### regions in an order that is drawn -/
def opsOf : Op → List Operand
  | .move x => [x]
  | .assign x => [x]
  | .pick c a b => [c, a, b]
  | .box _ x => [x]
  | .build _ ps => ps.toList.map fun p => p.2
  | .buildSlice _ _ ps => ps.toList.map fun p => p.2
  | .load _ x => [x]
  | .store _ p x => [p, x]
  | .nilCheck x => [x]
  | .binOp _ _ x y _ => [x, y]
  | .unOp _ _ x => [x]
  | .makeFunc _ _ cs => cs.toList
  | .makeSlice _ l c => [l, c]
  | .slice _ x lo hi mx => x :: (lo.toList ++ (hi.toList ++ mx.toList))
  | .fieldAddr _ x _ => [x]
  | .field _ x _ => [x]
  | .indexAddr _ x i => [x, i]
  | .index _ x i => [x, i]
  | .extract x _ => [x]
  | .convert _ _ x => [x]
  | .call c => (match c.callee with | .value f => [f] | _ => []) ++ c.args.toList
  | _ => []
def tmpsOf : List Operand → List Nat
  | [] => []
  | .tmp t :: r => t :: tmpsOf r
  | _ :: r => tmpsOf r
def readsOf (ops : Array Oper) (o : Oper) : List Nat := match o.guard with
  | none => tmpsOf (opsOf o.op)
  | some (j, _) => match (ops[j]?).bind (·.dst) with | some g => g :: tmpsOf (opsOf o.op) | none => tmpsOf (opsOf o.op)
def stepD (P : Program) (M : FuncId → List Bool) (ops : Array Oper) (st : St) (o : Oper) : Tree (St × Delta) :=
  match o.guard with
  | none => (opA P M st.ev (look st.ob) o).bind fun d => .ret (st.app o.dst d, d)
  | some (j, want) => match (ops[j]?).bind (·.dst) with
    | none => .fail
    | some g => match st.get g with
      | .und => .ret (st.app o.dst ⟨.und, [], []⟩, ⟨.und, [], []⟩)
      | .b x =>
        let yes : Tree (St × Delta) := let st' := { st with tm := upd st.tm g (.b want) }; (opA P M st'.ev (look st'.ob) o).bind fun d => .ret (st'.app o.dst d, d)
        let no : Tree (St × Delta) := .ret ({ st with tm := upd st.tm g (.b (!want)) }.app o.dst ⟨.und, [], []⟩, ⟨.und, [], []⟩)
        match want with | true => .br x yes no | false => .br x no yes
      | _ => .fail
def regL (P : Program) (M : FuncId → List Bool) (ops : Array Oper) : List Oper → St → Tree (St × List Delta)
  | [], st => .ret (st, [])
  | o :: r, st => (stepD P M ops st o).bind fun p => (regL P M ops r p.1).bind fun q => .ret (q.1, p.2 :: q.2)
def keysOf : List (Nat × AO) → List Nat
  | [] => []
  | p :: r => p.1 :: keysOf r
def writes (x : Oper) (l : List Nat) (y : Oper) : Bool := match x.dst with
  | some t => match has l t with | true => true | false => (match y.dst with | some u => Nat.beq t u | none => false)
  | none => false
def clash (ops : Array Oper) (x : Oper) (dx : Delta) (y : Oper) (dy : Delta) : Bool :=
  writes x (readsOf ops y) y || (writes y (readsOf ops x) x || (!disj (keysOf dx.ow) (keysOf dy.ow ++ dy.rd) || !disj (keysOf dy.ow) dx.rd))
def maskOf (ms : List Nat) : List Edge → Option Nat
  | [] => some 0
  | e :: r => match Region.binds .any e with
    | true => match ms[e.on]?, maskOf ms r with | some m, some n => some (Nat.lor (2 ^ e.on) (Nat.lor m n)) | _, _ => none
    | false => maskOf ms r
def okWith (ops : Array Oper) (m : Nat) (o : Oper) (d : Delta) : Nat → List (Oper × Delta) → Bool
  | _, [] => true
  | j, p :: r => match clash ops p.1 p.2 o d, Nat.testBit m j with
    | true, false => false
    | _, _ => okWith ops m o d (j + 1) r
def ordOk (ops : Array Oper) : List (Oper × Delta) → List Nat → List Oper → List Delta → Bool
  | _, _, [], [] => true
  | done, ms, o :: r, d :: ds => match maskOf ms o.after.toList with
    | some m => match okWith ops m o d 0 done with | true => ordOk ops (done ++ [(o, d)]) (ms ++ [m]) r ds | false => false
    | none => false
  | _, _, _, _ => false

/-- how a result is told: as it is; a row of one's own; a row that stays -/
inductive Cv where
  | id
  | own (t : Ty) (k : Nat)
  | lst (t : Ty)
  | agg (l : List Cv)
def conv1 (ob : Nat → Option AO) (cv : Cv) (a : AV) : Option (AV × List (Nat × AO)) := match cv with
  | .own t k => match a with
    | .nils => match ob k, Nat.ble 1000 k with | none, true => some (.own k 0, [(k, .row 0 t [])]) | _, _ => none
    | .sub o v lo n => match ob o with
      | some (.row v' t' xs) => match Nat.beq v' v with | true => some (.own o (v + 1), [(o, .row (v + 1) t' ((xs.drop lo).take n))]) | false => none
      | _ => none
    | a => some (a, [])
  | .lst t => match a with
    | .nils => some (.lst t [], [])
    | .own o v => frz1 ob (.own o v)
    | .sub o v lo n => match ob o with
      | some (.row v' t' xs) => match Nat.beq v' v with | true => some (.lst t' ((xs.drop lo).take n), [(o, .fro v' t' xs)]) | false => none
      | some (.fro v' t' xs) => match Nat.beq v' v with | true => some (.lst t' ((xs.drop lo).take n), []) | false => none
      | _ => none
    | a => some (a, [])
  | _ => some (a, [])
def convL (cvs : List Cv) (ob : List (Nat × AO)) : List AV → Option (List AV × List (Nat × AO))
  | [] => some ([], ob)
  | a :: r => match cvs with
    | [] => match convL [] ob r with | some (l, ob') => some (a :: l, ob') | none => none
    | .agg cs :: m => match a with
      | .agg as => match convF cs ob as with
        | some (as', ob1) => match convL m ob1 r with | some (l, ob') => some (.agg as' :: l, ob') | none => none
        | none => none
      | _ => none
    | cv :: m => match conv1 (look ob) cv a with
      | some (b, u) => match convL m (upds ob u) r with | some (l, ob') => some (b :: l, ob') | none => none
      | none => none
  where
  convF (cvs : List Cv) (ob : List (Nat × AO)) : List AV → Option (List AV × List (Nat × AO))
  | [] => some ([], ob)
  | a :: r => match cvs with
    | [] => match convF [] ob r with | some (l, ob') => some (a :: l, ob') | none => none
    | cv :: m => match conv1 (look ob) cv a with
      | some (b, u) => match convF m (upds ob u) r with | some (l, ob') => some (b :: l, ob') | none => none
      | none => none

/-! ### loops: what stays -/
def firstReg : Code → Option Nat
  | .region id _ _ => some id
  | .seq a b => match firstReg a with | some i => some i | none => firstReg b
  | .cond _ a b => match firstReg a with | some i => some i | none => firstReg b
  | .block _ c => firstReg c
  | .loop c => firstReg c
  | .scope c => firstReg c
  | _ => none
def small : List (Nat × AO) → List Nat
  | [] => []
  | (o, _) :: r => match Nat.blt o 1000 with | true => o :: small r | false => small r
/-- the version that is told: 0 as it came, 1 behind an append -/
def newV (bump : List Nat) (o v : Nat) : Nat := match Nat.blt o 1000 with
  | true => match has bump o, v with | true, _ => 1 | false, 0 => 0 | false, _ => 1
  | false => 0
def isBox : AO → Bool
  | .box _ => true
  | _ => false
/-- objects that stay, under new names -/
def names (ob : Nat → Option AO) (nm : Nat → Nat → Nat) (bump : List Nat) : Nat → List Nat → List (Nat × Nat × Nat)
  | _, [] => []
  | i, o :: r => match ob o with
    | some a => match isDead a with
      | false => (o, nm i o, match isBox a with | true => 0 | false => newV bump o (verO a)) :: names ob nm bump (i + 1) r
      | true => names ob nm bump (i + 1) r
    | none => names ob nm bump (i + 1) r
def rnm (ob : Nat → Option AO) : List (Nat × Nat × Nat) → Nat → Nat → Option (Nat × Nat)
  | [], _, _ => none
  | (o', n, v') :: r, o, v => match Nat.beq o' o with
    | true => match ob o with | some a => (match Nat.beq (verO a) v with | true => some (n, v') | false => none) | none => none
    | false => rnm ob r o v
def objs (ob : Nat → Option AO) (ρ : Nat → Nat → Option (Nat × Nat)) : List (Nat × Nat × Nat) → List (Nat × AO)
  | [] => []
  | (o, n, v') :: r => match ob o with | some a => (n, renO ρ v' a) :: objs ob ρ r | none => objs ob ρ r
def fsts : List (Nat × Nat × Nat) → List Nat
  | [] => []
  | (o, _, _) :: r => o :: fsts r
def snds : List (Nat × Nat × Nat) → List Nat
  | [] => []
  | (_, n, _) :: r => n :: snds r
def keepT (st : St) (ρ : Nat → Nat → Option (Nat × Nat)) : List Nat → List (Nat × AV)
  | [] => []
  | t :: r => (t, ren ρ (st.get t)) :: keepT st ρ r
def valsOf (st : St) : List Nat → List AV
  | [] => []
  | t :: r => st.get t :: valsOf st r
def loopNm (i o : Nat) : Nat := match Nat.blt o 1000 with | true => o | false => 5000 + i
def cleanK (st : St) (l bump : List Nat) : List (Nat × Nat × Nat) := names (look st.ob) loopNm bump 0 (reach (look st.ob) 100 (small st.ob ++ refs.refsL (valsOf st l)) [])
def clean (st : St) (l bump : List Nat) : Option St := match nodupB (fsts (cleanK st l bump)) && nodupB (snds (cleanK st l bump)) with
  | true => some { tm := keepT st (rnm (look st.ob) (cleanK st l bump)) l, ob := objs (look st.ob) (rnm (look st.ob) (cleanK st l bump)) (cleanK st l bump) }
  | false => none
/-- at a loop's head: the body's first region; places that stay; objects that are taken as appended to; places and boxes whose rows are told otherwise -/
structure Hd_ where
  keep : List Nat
  bump : List Nat
  tms : List (Nat × Cv)
  boxes : List (Nat × List Cv)
abbrev Cl_ := List (Nat × Hd_)
def convT : List (Nat × Cv) → St → Option St
  | [], st => some st
  | p :: r, st => match convL [p.2] st.ob [st.get p.1] with
    | some ([b], ob') => convT r ⟨upd st.tm p.1 b, ob'⟩
    | _ => none
def convB : List (Nat × List Cv) → St → Option St
  | [], st => some st
  | p :: r, st => match look st.ob p.1 with
    | some (.box cs) => match convL.convF p.2 st.ob cs with
      | some (cs', ob') => match look ob' p.1 with
        | some (.box _) => convB r ⟨st.tm, upd ob' p.1 (.box cs')⟩
        | _ => none
      | none => none
    | _ => convB r st
def cleanH (h : Hd_) (st : St) : Option St := match convT h.tms st with
  | some st1 => match convB h.boxes st1 with
    | some st2 => clean st2 h.keep h.bump
    | none => none
  | none => none
def cleanAt (cl : Cl_) (body : Code) (st : St) : Option St := match firstReg body with
  | some i => match look cl i with | some h => cleanH h st | none => some st
  | none => some st
def dstsOk (N : Nat) : List Oper → Bool
  | [] => true
  | o :: r => match o.dst with
    | some d => match Nat.blt d N with | true => dstsOk N r | false => false
    | none => dstsOk N r

variable {R : Type}
/-- what a function's text is: the program, which parameters are handed over, what stays in loops, its places -/
structure En where
  P : Program
  M : FuncId → List Bool
  cl : Cl_
  N : Nat
def bo {A B : Type} (x : Option A) (f : A → Option B) : Option B := match x with | some a => f a | none => none
noncomputable def goS (E : En) (T : Table) (fin : St → Option R) (self : List Item → St → Option R) : Nat → List Item → St → Option R
  | 0, _, _ => none
  | s + 1, todo, st => match todo with
    | [] => fin st
    | .code .ret :: _ => fin st
    | .code .skip :: k => goS E T fin self s k st
    | .code (.label _) :: k => goS E T fin self s k st
    | .inBlock _ :: k => goS E T fin self s k st
    | .inScope _ :: k => goS E T fin self s k st
    | .code (.seq a b) :: k => goS E T fin self s (.code a :: .code b :: k) st
    | .code (.cond c a b) :: k => match st.ev c with
      | .b x => br x (goS E T fin self s (.code a :: k) st) (goS E T fin self s (.code b :: k) st)
      | .mb => both (goS E T fin self s (.code a :: k) st) (goS E T fin self s (.code b :: k) st)
      | _ => none
    | .code (.block id body) :: k => goS E T fin self s (.code body :: .inBlock id :: k) st
    | .code (.scope body) :: k => goS E T fin self s (.code body :: .inScope body :: k) st
    | .code (.loop body) :: k => bo (cleanAt E.cl body st) fun st => self (.code body :: .inLoop body :: k) st
    | .inLoop body :: k => bo (cleanAt E.cl body st) fun st => self (.code body :: .inLoop body :: k) st
    | .code (.exit id) :: k => match exitTo id k with | some k' => goS E T fin self s k' st | none => none
    | .code (.region _ ops draw) :: k => match dstsOk E.N ops.toList, draw with
      | true, false => cps T (regA E.P E.M ops ops.toList st) fun st' => goS E T fin self s k st'
      | true, true => cps T (regL E.P E.M ops ops.toList st) fun q => match ordOk ops [] [] ops.toList q.2 with | true => goS E T fin self s k q.1 | false => none
      | _, _ => none
    | _ => none
noncomputable def go (E : En) (T : Nat → Table) (fin : St → Option R) : Nat → List Item → St → Option R
  | 0 => fun _ _ => none
  | n + 1 => goS E (T n) fin (go E T fin n) 100000

/-- where the rounds of loops begin -/
def heads : List Item → Code → List (List Item)
  | k, .seq a b => heads (.code b :: k) a ++ heads k b
  | k, .cond _ a b => heads k a ++ heads k b
  | k, .block id c => heads (.inBlock id :: k) c
  | k, .scope c => heads (.inScope c :: k) c
  | k, .loop c => (.code c :: .inLoop c :: k) :: heads (.inLoop c :: k) c
  | _, _ => []

/-! ### what is returned -/
def resA (P : Program) (ob : Nat → Option AO) (st : St) : List ResultVar → Option (List AV)
  | [] => some []
  | .tmp t :: r => match resA P ob st r with | some l => some (st.get t :: l) | none => none
  | .cell a t :: r => match szOf P t, st.get a, resA P ob st r with
    | some n, .ptr o off, some l => match ob o with
      | some (.box cs) => match cut cs off n with | some q => (match mkA P t q with | some x => some (x :: l) | none => none) | none => none
      | _ => none
    | _, _, _ => none
def tupA : List AV → AV
  | [a] => a
  | l => .tup l
def upto : Nat → Nat → List Nat
  | _, 0 => []
  | i, n + 1 => i :: upto (i + 1) n
def passRefs (ob : Nat → Option AO) : List Nat → List Nat
  | [] => []
  | o :: r => (match ob o with | some a => refsO a | none => []) ++ passRefs ob r
def finL (ob : Nat → Option AO) (m : Nat) (rs : List AV) : List Nat := reach ob 100 (refs.refsL rs ++ passRefs ob (upto 0 m)) (upto 0 m)
def finK (ob : Nat → Option AO) (m : Nat) (bump : List Nat) (rs : List AV) : List (Nat × Nat × Nat) := names ob (fun i _ => i) bump 0 (finL ob m rs)
def outs (l : List (Nat × AO)) : List Nat → List AO
  | [] => []
  | i :: r => (match look l i with | some (.fro _ _ _) => .dead | some x => x | none => .dead) :: outs l r
def ends (ob : Nat → Option AO) (m : Nat) (bump : List Nat) (rs : List AV) : Option (List AV × List AO) := match nodupB (fsts (finK ob m bump rs)) && nodupB (snds (finK ob m bump rs)) with
  | true => some (ren.renL (rnm ob (finK ob m bump rs)) rs, outs (objs ob (rnm ob (finK ob m bump rs)) (finK ob m bump rs)) (upto 0 (finL ob m rs).length))
  | false => none
/-- what a function returns: its results, the objects that came in, new ones -/
def finA (P : Program) (rv : List ResultVar) (m : Nat) (cvs : List Cv) (bump : List Nat) (st : St) : Option (List AV × List AO) :=
  bo (resA P (look st.ob) st rv) fun rs => bo (convL cvs st.ob rs) fun p => ends (look p.2) m bump p.1

/-! ### results, told in Lean's kinds -/
structure Cd (T : Type) where
  dec : Nat → List AV → List AO → Option (T × List AV × List AO)
  enc : Nat → T → List AV × List AO
structure Od (T : Type) where
  dec : List AO → Option (T × List AO)
  enc : T → List AO
def finD {A O : Type} (cd : Cd A) (od : Od O) (m : Nat) (x : Option (List AV × List AO)) : Option (A × O) := match x with
  | some (rs, os) => match od.dec os with
    | some (o, os1) => match cd.dec m rs os1 with
      | some (a, [], []) => some (a, o)
      | _ => none
    | none => none
  | none => none
def encD {A O : Type} (cd : Cd A) (od : Od O) (m : Nat) (x : A × O) : Ret := (tupA (cd.enc m x.1).1, od.enc x.2 ++ (cd.enc m x.1).2)
/-- values, read strictly -/
def dV : (t : Ty) → List AV → Option (t.D × List AV)
  | .i k, .i k' n :: r => if k' = k then some (n, r) else none
  | .b, .b x :: r => some (x, r)
  | .s, .s x :: r => some (x, r)
  | .u, cs => some ((), cs)
  | .pr a b, cs => match dV a cs with
    | some (x, r) => match dV b r with | some (y, q) => some ((x, y), q) | none => none
    | none => none
  | .sl t, .lst t' xs :: r => if h : t' = t then some (h ▸ xs, r) else none
  | _, _ => none
/-- a value of a type: a struct (true), or plain -/
def mkP (agg : Bool) (t : Ty) (x : t.D) : AV := match agg with
  | true => .agg (view t x)
  | false => match view t x with | [a] => a | _ => .bad
def unP (agg : Bool) (t : Ty) (a : AV) : Option t.D := match agg with
  | true => match a with | .agg cs => unview t cs | _ => none
  | false => unview t [a]
def cV (agg : Bool) (t : Ty) : Cd t.D := ⟨fun _ as os => match agg with
  | true => match as with
    | .agg cs :: r => match dV t cs with | some (x, []) => some (x, r, os) | _ => none
    | _ => none
  | false => match dV t as with | some (x, r) => some (x, r, os) | none => none, fun _ x => (match agg with | true => [.agg (view t x)] | false => view t x, [])⟩
def fin0 {A : Type} (cd : Cd A) (x : Option (List AV × List AO)) : Option A := match x with
  | some (rs, os) => match cd.dec 0 rs os with
    | some (a, [], []) => some a
    | _ => none
  | none => none
def enc0 {A : Type} (cd : Cd A) (x : A) : Ret := (tupA (cd.enc 0 x).1, (cd.enc 0 x).2)
def Fun (A : Type) : List (Bool × Ty) → Type
  | [] => Option A
  | p :: r => p.2.D → Fun A r
def appF {A : Type} : (l : List (Bool × Ty)) → Fun A l → List AV → Option (Option A)
  | [], F, [] => some F
  | p :: r, F, a :: as => match unP p.1 p.2 a with | some x => appF r (F x) as | none => none
  | _, _, _ => none
def tabV {A : Type} (l : List (Bool × Ty)) (cd : Cd A) (F : Fun A l) (as : List AV) (os : List AO) : Option Pack := match os with
  | [] => match appF l F as with | some x => some ⟨A, x, enc0 cd⟩ | none => none
  | _ => none
/-- what stands at a cell of a struct, at an argument; what an object is -/
inductive Ac where
  | v (t : Ty)
  | o (a : AV)
inductive Ar where
  | v (agg : Bool) (t : Ty)
  | o (a : AV)
  | a (cs : List Ac)
inductive Ob where
  | row (v : Nat) (t : Ty)
  | box (cs : List Ar)
def FunC (X : Type) : List Ac → Type
  | [] => X
  | .v t :: r => t.D → FunC X r
  | .o _ :: r => FunC X r
def FunA (X : Type) : List Ar → Type
  | [] => X
  | .v _ t :: r => t.D → FunA X r
  | .o _ :: r => FunA X r
  | .a cs :: r => FunC (FunA X r) cs
def FunO (A : Type) : List Ob → Type
  | [] => Option A
  | .row _ t :: r => List t.D → FunO A r
  | .box cs :: r => FunA (FunO A r) cs
def eqA : AV → AV → Bool
  | .ptr a b, .ptr c d => Nat.beq a c && Nat.beq b d
  | .own a b, .own c d => Nat.beq a c && Nat.beq b d
  | .nils, .nils => true
  | .nilp, .nilp => true
  | .fn f cs, .fn g ds => Nat.beq f g && eqL cs ds
  | _, _ => false
  where
  eqL : List AV → List AV → Bool
  | [], [] => true
  | a :: r, b :: q => eqA a b && eqL r q
  | _, _ => false
def appD {X : Type} : (l : List Ac) → FunC X l → List AV → Option X
  | [], F, [] => some F
  | .v t :: r, F, cs => match dV t cs with | some (x, cs') => appD r (F x) cs' | none => none
  | .o b :: r, F, a :: as => match eqA b a with | true => appD r F as | false => none
  | _, _, _ => none
def appA {X : Type} : (l : List Ar) → FunA X l → List AV → Option X
  | [], F, [] => some F
  | .v g t :: r, F, a :: as => match unP g t a with | some x => appA r (F x) as | none => none
  | .o b :: r, F, a :: as => match eqA b a with | true => appA r F as | false => none
  | .a cs :: r, F, .agg ds :: as => match appD cs F ds with | some G => appA r G as | none => none
  | _, _, _ => none
def appC {X : Type} : (l : List Ar) → FunA X l → List AV → Option X
  | [], F, [] => some F
  | .v _ t :: r, F, cs => match dV t cs with | some (x, cs') => appC r (F x) cs' | none => none
  | .o b :: r, F, a :: as => match eqA b a with | true => appC r F as | false => none
  | _, _, _ => none
def appO {A : Type} : (l : List Ob) → FunO A l → List AO → Option (Option A)
  | [], F, [] => some F
  | .row v t :: r, F, .row v' t' xs :: os => match Nat.beq v' v with
    | true => if h : t' = t then appO r (F (h ▸ xs)) os else none
    | false => none
  | .box cs :: r, F, .box ds :: os => match appC cs F ds with | some G => appO r G os | none => none
  | _, _, _ => none
/-- a function to which objects are handed over -/
def tabI {A : Type} (l : List Ar) (ls : List Ob) (enc : A → Ret) (F : FunA (FunO A ls) l) (as : List AV) (os : List AO) : Option Pack := match appA l F as with
  | some G => match appO ls G os with | some x => some ⟨A, x, enc⟩ | none => none
  | none => none
def orT (a b : List AV → List AO → Option Pack) (as : List AV) (os : List AO) : Option Pack := match a as os with
  | some p => some p
  | none => b as os
def tabs : List (Nat × (List AV → List AO → Option Pack)) → Table
  | [], _, _, _ => none
  | p :: l, f, as, os => match Nat.beq p.1 f with | true => p.2 as os | false => tabs l f as os
def ntOf (P : Program) (f : FuncId) : Nat := match P.funcs[f]? with | some fn => fn.ntmps | none => 0
def fnB (P : Program) (f : FuncId) (N : Nat) : Bool := match P.funcs[f]? with
  | some fn => fn.body.isSome && (Nat.beq N fn.ntmps && !(fn.name == "runtime.NumGoroutine"))
  | none => false
def enumA {α : Type} : Nat → List α → List (Nat × α)
  | _, [] => []
  | i, a :: r => (i, a) :: enumA (i + 1) r
def initA (as : List AV) (os : List AO) : St := ⟨enumA 0 as, enumA 0 os⟩
def bodyOf (P : Program) (f : FuncId) : Code := match P.funcs[f]? with | some fn => (match fn.body with | some c => c | none => .skip) | none => .skip
def resOf (P : Program) (f : FuncId) : List ResultVar := match P.funcs[f]? with | some fn => fn.results.toList | none => []
def headOf (P : Program) (f : FuncId) (j : Nat) : List Item := match (heads [] (bodyOf P f))[j]? with | some l => l | none => []

/-- components of results -/
def cB : Cd Bool := ⟨fun _ as os => match as with | .b x :: r => some (x, r, os) | _ => none, fun _ x => ([.b x], [])⟩
def cI (k : IntKind) : Cd Int := ⟨fun _ as os => match as with | .i k' n :: r => if k' = k then some (n, r, os) else none | _ => none, fun _ n => ([.i k n], [])⟩
def cS : Cd ByteArray := ⟨fun _ as os => match as with | .s x :: r => some (x, r, os) | _ => none, fun _ x => ([.s x], [])⟩
def cU : Cd Unit := ⟨fun _ as os => some ((), as, os), fun _ _ => ([], [])⟩
def cL (t : Ty) : Cd (List t.D) := ⟨fun _ as os => match as with | .lst t' xs :: r => if h : t' = t then some (h ▸ xs, r, os) else none | _ => none, fun _ xs => ([.lst t xs], [])⟩
def cR (t : Ty) : Cd (List t.D) := ⟨fun i as os => match as, os with
  | .own o v :: r, .row v' t' xs :: q => match Nat.beq o i, Nat.beq v 0, Nat.beq v' 0 with
    | true, true, true => if h : t' = t then some (h ▸ xs, r, q) else none
    | _, _, _ => none
  | _, _ => none, fun i xs => ([.own i 0], [.row 0 t xs])⟩
/-- a row that came in and is returned -/
def cO (o v : Nat) : Cd Unit := ⟨fun _ as os => match as with
  | .own o' v' :: r => match Nat.beq o' o, Nat.beq v' v with | true, true => some ((), r, os) | _, _ => none
  | _ => none, fun _ _ => ([.own o v], [])⟩
def cP {A B : Type} (a : Cd A) (b : Cd B) : Cd (A × B) := ⟨fun i as os => match a.dec i as os with
  | some (x, as1, os1) => match b.dec (i + (a.enc i x).2.length) as1 os1 with | some (y, as2, os2) => some ((x, y), as2, os2) | none => none
  | none => none, fun i p => ((a.enc i p.1).1 ++ (b.enc (i + (a.enc i p.1).2.length) p.2).1, (a.enc i p.1).2 ++ (b.enc (i + (a.enc i p.1).2.length) p.2).2)⟩
def cG {A : Type} (a : Cd A) : Cd A := ⟨fun i as os => match as with
  | .agg cs :: r => match a.dec i cs os with | some (x, [], os1) => some (x, r, os1) | _ => none
  | _ => none, fun i x => ([.agg (a.enc i x).1], (a.enc i x).2)⟩
def oU : Od Unit := ⟨fun os => some ((), os), fun _ => []⟩
def oR (v : Nat) (t : Ty) : Od (List t.D) := ⟨fun os => match os with
  | .row v' t' xs :: r => match Nat.beq v' v with | true => if h : t' = t then some (h ▸ xs, r) else none | false => none
  | _ => none, fun xs => [.row v t xs]⟩
def oD : Od Unit := ⟨fun os => match os with | .dead :: r => some ((), r) | _ => none, fun _ => [.dead]⟩
/-- a box that came in -/
def oB {A : Type} (a : Cd A) : Od A := ⟨fun os => match os with
  | .box cs :: r => match a.dec 0 cs [] with | some (x, [], []) => some (x, r) | _ => none
  | _ => none, fun x => [.box (a.enc 0 x).1]⟩
def oP {A B : Type} (a : Od A) (b : Od B) : Od (A × B) := ⟨fun os => match a.dec os with
  | some (x, os1) => match b.dec os1 with | some (y, os2) => some ((x, y), os2) | none => none
  | none => none, fun p => a.enc p.1 ++ b.enc p.2⟩
end Go.Proofs.Ytohfaccniialmaa.Am
