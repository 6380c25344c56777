/- A machine of values, which answers as the program does (part 0). -/
import Derived.Calls
import Derived.Orders
import Derived.KernelRfl
import Derived.Deep.AppendSrc
import Derived.Laws.StructEq
import Derived.Laws.MakeOwn
section
/- A small machine of values: what it answers, the program answers (its definitions). -/
namespace Go.Proofs.YtafjengmkiepbaaGreat.Am
open Go
set_option linter.constructorNameAsVariable false
set_option linter.unusedVariables false

/-- the types of what a row holds -/
inductive Ty where
  | i (k : IntKind) | b | s | u | pr (x y : Ty) | sl (t : Ty)
  deriving DecidableEq

@[reducible] def Ty.D : Ty → Type
  | .i _ => Int | .b => Bool | .s => ByteArray | .u => Unit | .pr x y => x.D × y.D | .sl t => List t.D

def Ty.sz : Ty → Nat
  | .i _ | .b | .s | .sl _ => 1 | .u => 0 | .pr x y => x.sz + y.sz

/-- values: bad (anything), und (the empty place), pointers and rows of objects that are one's own (object, version), rows that stay (lst), pointers into these (rp) -/
inductive AV where
  | bad | und | mb
  | i (k : IntKind) (n : Int)
  | b (x : Bool)
  | s (x : ByteArray)
  | nilp | nilf | nili | nils
  | ptr (o off : Nat)
  | eptr (o ver j off : Nat)
  | rp (cs : List AV)
  | own (o ver : Nat)
  | sub (o ver lo n : Nat)
  | nst (o j q : Nat)
  | lst (t : Ty) (xs : List t.D)
  | fn (f : FuncId) (cap : List AV)
  | agg (cs : List AV)
  | tup (vs : List AV)
  | mp (o : Nat)

inductive AO where
  | dead
  | box (cs : List AV)
  | row (ver : Nat) (t : Ty) (xs : List t.D)
  | fro (ver : Nat) (t : Ty) (xs : List t.D)
  | tree (t : Ty) (xs : List t.D)
  | fwd (k : Nat)
  | mpo (es : List (Int × Bool))

structure St where
  tm : List (Nat × AV)
  ob : List (Nat × AO)

abbrev Ret := AV × List AO

def br {R : Type} (x : Bool) (a b : Option R) : Option R := match x with | true => a | false => b
def bd {A R : Type} (x : Option A) (f : A → Option R) : Option R := match x with | some a => f a | none => none
/-- two ways of which nobody knows which one is taken -/
noncomputable def both {R : Type} (x y : Option R) : Option R := match Classical.propDecidable (x = y) with | .isTrue _ => x | .isFalse _ => none
def gt {A R : Type} (xs : List A) (j : Nat) (f : A → Option R) : Option R := match xs[j]? with | some a => f a | none => none

inductive Tree (α : Type) where
  | ret (a : α)
  | fail
  | br (x : Bool) (a b : Tree α)
  | gt (t : Ty) (xs : List t.D) (j : Nat) (k : t.D → Tree α)
  | call (f : FuncId) (as : List AV) (os : List AO) (k : Ret → Tree α)

namespace Tree
def bind {α β : Type} : Tree α → (α → Tree β) → Tree β
  | .ret a, f => f a
  | .fail, _ => .fail
  | .br x a b, f => .br x (a.bind f) (b.bind f)
  | .gt t xs j k, f => .gt t xs j fun x => (k x).bind f
  | .call g as os k, f => .call g as os fun r => (k r).bind f
end Tree

structure Pack where
  T : Type
  x : Option T
  enc : T → Ret
abbrev Table := FuncId → List AV → List AO → Option Pack

def cps {α R : Type} (T : Table) : Tree α → (α → Option R) → Option R
  | .ret a, K => K a
  | .fail, _ => none
  | .br x a b, K => br x (cps T a K) (cps T b K)
  | .gt _ xs j k, K => gt xs j fun x => cps T (k x) K
  | .call f as os k, K => match T f as os with
    | some p => bd p.x fun t => cps T (k (p.enc t)) K
    | none => none

/-! ### places -/
def look {α : Type} : List (Nat × α) → Nat → Option α
  | [], _ => none
  | (k, v) :: l, n => match Nat.beq k n with | true => some v | false => look l n
def upd {α : Type} : List (Nat × α) → Nat → α → List (Nat × α)
  | [], n, a => [(n, a)]
  | (k, v) :: l, n, a => match Nat.beq k n with | true => (k, a) :: l | false => (k, v) :: upd l n a
def upds {α : Type} (l : List (Nat × α)) : List (Nat × α) → List (Nat × α)
  | [] => l
  | (n, a) :: r => upds (upd l n a) r
def has : List Nat → Nat → Bool
  | [], _ => false
  | k :: l, n => match Nat.beq k n with | true => true | false => has l n
def idx : List Nat → Nat → Option Nat
  | [], _ => none
  | k :: l, n => match Nat.beq k n with | true => some 0 | false => match idx l n with | some i => some (i + 1) | none => none

def constV : Value → AV
  | .int k n => .i k n
  | .bool x => .b x
  | .string s => .s s
  | .pointer none => .nilp
  | .nilFunc => .nilf
  | .nilIface => .nili
  | .slice none 0 0 => .nils
  | _ => .bad

def isBad : AV → Bool | .bad => true | _ => false
def consts : List Value → Option (List AV)
  | [] => some []
  | v :: r => match isBad (constV v), consts r with | false, some l => some (constV v :: l) | _, _ => none
def St.get (st : St) (t : Nat) : AV := match look st.tm t with | some a => a | none => .bad
def St.ev (st : St) : Operand → AV
  | .tmp t => st.get t
  | .const v => constV v
  | .func f => .fn f []
  | .global _ => .bad

/-! ### types -/
def szOf (P : Program) (t : TypeId) : Option Nat := match P.info? t with | some i => some i.size | none => none
def szIs (P : Program) (t : TypeId) (n : Nat) : Bool := match szOf P t with | some m => Nat.beq m n | none => false
def aggT (P : Program) (t : TypeId) : Option Bool := match P.underlying t with | some (.struct _) => some true | some (.array _ _) => some true | some _ => some false | none => none
def fieldsTy (g : TypeId → Option Ty) : List Field → Option Ty
  | [] => some .u
  | [f] => g f.type
  | f :: q :: r => match g f.type, fieldsTy g (q :: r) with | some a, some b => some (.pr a b) | _, _ => none
def tyOf (P : Program) : Nat → TypeId → Option Ty
  | 0, _ => none
  | n + 1, t => match P.underlying t with
    | some (.int k) => some (.i k)
    | some .bool => some .b
    | some .string => some .s
    | some (.slice e) => match tyOf P n e with | some u => some (.sl u) | none => none
    | some (.struct fs) => fieldsTy (tyOf P n) fs.toList
    | _ => none
def elemT (P : Program) (t : TypeId) : Option Ty := match P.underlying t with | some (.slice e) => tyOf P 8 e | _ => none
def zeroC (P : Program) (t : TypeId) : Option (List AV) := match P.info? t with
  | some i => match i.zero with | some v => consts v.cells.toList | none => none
  | none => none

def view : (t : Ty) → t.D → List AV
  | .i k, n => [.i k n]
  | .b, x => [.b x]
  | .s, x => [.s x]
  | .u, _ => []
  | .pr a b, x => view a x.1 ++ view b x.2
  | .sl t, xs => [.lst t xs]
def unI (k : IntKind) : List AV → Option Int
  | [.i k' n] => if k' = k then some n else none
  | _ => none
def unB : List AV → Option Bool
  | [.b x] => some x
  | _ => none
def unS : List AV → Option ByteArray
  | [.s x] => some x
  | _ => none
def unU : List AV → Option Unit
  | [] => some ()
  | _ => none
def unL (t : Ty) : List AV → Option (List t.D)
  | [.lst t' xs] => if h : t' = t then some (h ▸ xs) else none
  | [.nils] => some []
  | _ => none
def unview : (t : Ty) → List AV → Option t.D
  | .i k, cs => unI k cs
  | .b, cs => unB cs
  | .s, cs => unS cs
  | .u, cs => unU cs
  | .pr a b, cs => match unview a (cs.take a.sz), unview b (cs.drop a.sz) with | some x, some y => some (x, y) | _, _ => none
  | .sl t, cs => unL t cs

def cellsA : AV → Option (List AV)
  | .agg cs => some cs
  | .bad => none
  | .und => none
  | .tup _ => none
  | .nst _ _ _ => none
  | .mp _ => none
  | a => some [a]
def mkA (P : Program) (t : TypeId) (cs : List AV) : Option AV := match aggT P t with
  | some true => some (.agg cs)
  | some false => match cs with | [a] => some a | _ => none
  | none => none
def cut (cs : List AV) (off n : Nat) : Option (List AV) := match Nat.beq ((cs.drop off).take n).length n with | true => some ((cs.drop off).take n) | false => none
def splice (cs : List AV) (off : Nat) (new : List AV) : List AV := cs.take off ++ new ++ cs.drop (off + new.length)

/-! ### rows -/
structure RV where
  t : Ty
  xs : List t.D
  rd : List Nat
def rowOf (ob : Nat → Option AO) (dflt : Option Ty) : AV → Option RV
  | .own o v => match ob o with
    | some (.row v' t xs) => match Nat.beq v' v with | true => some ⟨t, xs, [o]⟩ | false => none
    | some (.fro v' t xs) => match Nat.beq v' v with | true => some ⟨t, xs, [o]⟩ | false => none
    | _ => none
  | .sub o v lo n => match ob o with
    | some (.row v' t xs) => match Nat.beq v' v with | true => some ⟨t, (xs.drop lo).take n, [o]⟩ | false => none
    | some (.fro v' t xs) => match Nat.beq v' v with | true => some ⟨t, (xs.drop lo).take n, [o]⟩ | false => none
    | _ => none
  | .lst t xs => some ⟨t, xs, []⟩
  | .nils => match dflt with | some t => some ⟨t, [], []⟩ | none => none
  | _ => none
def castR (t : Ty) (r : RV) : Option (List t.D) := if h : r.t = t then some (h ▸ r.xs) else none

/-- what is put into a row: its rows are frozen -/
def frz1 (ob : Nat → Option AO) : AV → Option (AV × List (Nat × AO))
  | .own o v => match ob o with
    | some (.row v' t xs) => match Nat.beq v' v with | true => some (.lst t xs, [(o, .fro v t xs)]) | false => none
    | some (.fro v' t xs) => match Nat.beq v' v with | true => some (.lst t xs, [(o, .fro v t xs)]) | false => none
    | _ => none
  | .bad => none | .und => none | .ptr _ _ => none | .eptr _ _ _ _ => none | .sub _ _ _ _ => none | .fn _ _ => none | .agg _ => none | .tup _ => none | .rp _ => none | .nst _ _ _ => none | .mp _ => none
  | a => some (a, [])
def frz (ob : Nat → Option AO) : List AV → Option (List AV × List (Nat × AO))
  | [] => some ([], [])
  | a :: r => match frz1 ob a, frz ob r with | some (b, w), some (s, w') => some (b :: s, w ++ w') | _, _ => none

structure Delta where
  v : AV
  ow : List (Nat × AO)
  rd : List Nat
def St.app (st : St) (dst : Option Nat) (d : Delta) : St := { tm := match dst with | some t => upd st.tm t d.v | none => st.tm, ob := upds st.ob d.ow }

def newId (d r : Nat) : Nat := 10000 + 100 * d + r

/-- an object that is new -/
def fresh (ob : Nat → Option AO) (k : Nat) {α : Type} (t : Tree α) : Tree α := match ob k with | none => t | some _ => .fail
abbrev TD := Tree Delta
def now (v : AV) : TD := .ret ⟨v, [], []⟩
def grd {α : Type} (c : Bool) (t : Tree α) : Tree α := .br c t .fail
def opt {α β : Type} : Option α → (α → Tree β) → Tree β
  | some a, f => f a
  | none, _ => .fail

/-! ### maps of numbers to truth values -/
def lookB (l : List (Int × Bool)) (n : Int) : Bool := match l.find? (fun p => decide (n = p.1)) with | some p => p.2 | none => false
def putB (l : List (Int × Bool)) (n : Int) (x : Bool) : List (Int × Bool) := match l.findIdx? (fun p => decide (n = p.1)) with | some i => l.set i (n, x) | none => l ++ [(n, x)]
def isI64 (P : Program) (t : TypeId) : Bool := match P.underlying t with | some (.int k) => decide (k = .i64) | _ => false
def zIsF (P : Program) (t : TypeId) : Bool := match P.info? t with | some i => (match i.zero with | some (.bool x) => !x | _ => false) | none => false
/-- a type of maps of numbers to truth values -/
def mapIB (P : Program) (t : TypeId) : Bool := match P.underlying t with | some (.map k e) => isI64 P k && zIsF P e | _ => false
/-! ### operations -/
def intBits (op : BinOp) (k : IntKind) (x y : Int) : Option Int := match op with
  | .and => some (k.wrap (BitVec.ofInt k.bits x &&& BitVec.ofInt k.bits y).toNat)
  | .or => some (k.wrap (BitVec.ofInt k.bits x ||| BitVec.ofInt k.bits y).toNat)
  | .xor => some (k.wrap (BitVec.ofInt k.bits x ^^^ BitVec.ofInt k.bits y).toNat)
  | .andNot => some (k.wrap (BitVec.ofInt k.bits x &&& ~~~ BitVec.ofInt k.bits y).toNat)
  | _ => none
def seq (x y : ByteArray) : Bool := x.toList == y.toList
def slt (x y : ByteArray) : Bool := Op.bytesLess x.toList y.toList
def binI (op : BinOp) (k : IntKind) (x y : Int) : TD := match op with
  | .add => now (.i k (k.wrap (x + y)))
  | .sub => now (.i k (k.wrap (x - y)))
  | .mul => now (.i k (k.wrap (x * y)))
  | .quo => grd (!decide (y = 0)) (now (.i k (k.wrap (x.tdiv y))))
  | .rem => grd (!decide (y = 0)) (now (.i k (x.tmod y)))
  | .eql => now (.b (x == y))
  | .neq => now (.b (x != y))
  | .lss => now (.b (decide (x < y)))
  | .leq => now (.b (decide (x ≤ y)))
  | .gtr => now (.b (decide (x > y)))
  | .geq => now (.b (decide (x ≥ y)))
  | .and => opt (intBits .and k x y) fun n => now (.i k n)
  | .or => opt (intBits .or k x y) fun n => now (.i k n)
  | .xor => opt (intBits .xor k x y) fun n => now (.i k n)
  | .andNot => opt (intBits .andNot k x y) fun n => now (.i k n)
  | .shl => grd (decide (0 ≤ y)) (now (.i k (k.wrap (x * 2 ^ min y.toNat k.bits))))
  | .shr => grd (decide (0 ≤ y)) (now (.i k (x.fdiv (2 ^ min y.toNat k.bits))))
def binS (op : BinOp) (x y : ByteArray) : TD := match op with
  | .add => grd (Nat.ble (x.size + y.size) 9223372036854775807) (now (.s (x ++ y)))
  | .eql => now (.b (seq x y))
  | .neq => now (.b (!seq x y))
  | .lss => now (.b (slt x y))
  | .leq => now (.b (slt x y || seq x y))
  | .gtr => now (.b (!(slt x y || seq x y)))
  | .geq => now (.b (!slt x y))
  | _ => .fail
/-- structs that are equal, field by field -/
def eqF (P : Program) : List Field → List AV → List AV → Option Bool
  | [], _, _ => some true
  | f :: r, xs, ys => match f.name == "_", aggT P f.type, P.underlying f.type, xs[f.offset]?, ys[f.offset]?, eqF P r xs ys with
    | false, some false, some (.int _), some (.i k a), some (.i k' b), some q => if k = k' then some ((a == b) && q) else none
    | false, some false, some .string, some (.s a), some (.s b), some q => some ((a == b) && q)
    | false, some false, some .bool, some (.b a), some (.b b), some q => some ((a == b) && q)
    | _, _, _, _, _, _ => none
def eqOk (P : Program) (t : TypeId) : Bool := !(P.stoodInHeld t) && !(P.eqGuardType P.depth t)
def eqS (P : Program) (t : TypeId) (xs ys : List AV) : Option Bool := match P.underlying t with
  | some (.struct fs) => match eqOk P t with | true => eqF P fs.toList xs ys | false => none
  | _ => none
def binA (P : Program) (op : BinOp) (t : TypeId) : AV → AV → TD
  | .i k x, .i k' y => match op with
    | .shl => binI op k x y
    | .shr => binI op k x y
    | _ => if k = k' then binI op k x y else .fail
  | .s x, .s y => binS op x y
  | .b x, .b y => match P.underlying t with
    | some .bool => match op with | .eql => now (.b (x == y)) | .neq => now (.b (!(x == y))) | _ => .fail
    | _ => .fail
  | .agg xs, .agg ys => opt (eqS P t xs ys) fun q => match op with | .eql => now (.b q) | .neq => now (.b (!q)) | _ => .fail
  | _, _ => .fail
def isNilC : Operand → Bool
  | .const (.slice none 0 0) => true
  | _ => false
/-- is a row nil? -/
def nilQ (op : BinOp) (n : Nat) : TD := match op with
  | .eql => .br (decide (0 < n)) (now (.b false)) (now .mb)
  | .neq => .br (decide (0 < n)) (now (.b true)) (now .mb)
  | _ => .fail
def nilA (P : Program) (op : BinOp) (t : TypeId) (a : AV) : TD := match P.underlying t with
  | some (.slice _) => match a with
    | .lst _ xs => nilQ op xs.length
    | .nils => nilQ op 0
    | _ => .fail
  | _ => .fail
def unA (op : UnOp) : AV → TD
  | .b x => match op with | .not => now (.b (!x)) | _ => .fail
  | .i k x => match op with | .neg => now (.i k (k.wrap (0 - x))) | _ => .fail
  | _ => .fail

def loadA (P : Program) (ob : Nat → Option AO) (t : TypeId) (n : Nat) : AV → TD
  | .ptr o off => match ob o with
    | some (.box cs) => opt (cut cs off n) fun l => opt (mkA P t l) fun a => .ret ⟨a, [], [o]⟩
    | _ => .fail
  | .rp cs => opt (cut cs 0 n) fun l => opt (mkA P t l) fun a => now a
  | .eptr o v j off => match ob o with
    | some (.row v' u xs) => match Nat.beq v' v with
      | true => .gt u xs j fun x => opt (cut (view u x) off n) fun l => opt (mkA P t l) fun a => .ret ⟨a, [], [o]⟩
      | false => .fail
    | some (.fro v' u xs) => match Nat.beq v' v with
      | true => .gt u xs j fun x => opt (cut (view u x) off n) fun l => opt (mkA P t l) fun a => .ret ⟨a, [], [o]⟩
      | false => .fail
    | some (.tree u xs) => match Nat.beq v 0, Nat.beq n 1 with
      | true, true => .gt u xs j fun x => match (view u x)[off]? with
        | some (.lst _ _) => opt (mkA P t [.nst o j off]) fun a => .ret ⟨a, [], [o]⟩
        | _ => .fail
      | _, _ => .fail
    | _ => .fail
  | _ => .fail
def immT : Ty → Bool
  | .sl _ => true
  | .pr a b => immT a || immT b
  | _ => false
/-- rows inside rows hold no rows -/
def nestT : Ty → Bool
  | .sl u => !immT u
  | .pr a b => nestT a && nestT b
  | _ => true
def plainV : AV → Bool
  | .i _ _ => true
  | .b _ => true
  | .s _ => true
  | _ => false
def plainL : List AV → Bool
  | [] => true
  | a :: r => plainV a && plainL r
def deads : List (Nat × AO) → List (Nat × AO)
  | [] => []
  | p :: r => (p.1, .dead) :: deads r
def abs1 (ob : Nat → Option AO) : AV → Bool
  | .own o _ => match ob o with | some (.row _ _ _) => true | _ => false
  | a => plainV a
def absOk (ob : Nat → Option AO) : List AV → Bool
  | [] => true
  | a :: r => abs1 ob a && absOk ob r
def nodup1 : List Nat → Bool
  | [] => true
  | a :: r => match has r a with | true => false | false => nodup1 r
def treeM (M : FuncId → List Bool) : Bool := match M 1000000 with | true :: _ => true | _ => false
def noLst : List AV → Bool
  | [] => true
  | .lst _ _ :: _ => false
  | _ :: r => noLst r
/-- a row that is made: of rows, if it is to be so -/
def madeO (tmd : Bool) (u : Ty) (z : List AV) (xs : List u.D) : AO := match tmd && (immT u && (nestT u && noLst z)) with
  | true => .tree u xs
  | false => .row 0 u xs
/-- what a slice literal makes -/
def litO (tmd : Bool) (ob : Nat → Option AO) (k : Nat) (u : Ty) (cs : List AV) (ws : List (Nat × AO)) (xs : List u.D) : List (Nat × AO) := match tmd && (immT u && (nestT u && (absOk ob cs && nodup1 (ws.map (·.1))))) with
  | true => deads ws ++ [(k, .tree u xs)]
  | false => ws ++ [(k, .row 0 u xs)]
/-- rows of one's own are put into a row of rows -/
def absorbA (ob : Nat → Option AO) (k o v j off : Nat) (u : Ty) (xs : List u.D) (xc : List AV) : TD := opt (frz ob xc) fun w =>
  match Nat.beq v 0 && (Nat.beq off 0 && (Nat.beq xc.length u.sz && (absOk ob xc && (nestT u && nodup1 (o :: w.2.map (·.1)))))) with
  | true => .gt u xs j fun _ => opt (unview u w.1) fun z => fresh ob k (.ret ⟨.und, deads w.2 ++ [(o, .fwd k), (k, .tree u (xs.set j z))], o :: w.2.map (·.1)⟩)
  | false => .fail
def storeA (ob : Nat → Option AO) (tmd : Bool) (k : Nat) (n : Nat) (p x : AV) : TD := opt (cellsA x) fun xc =>
  match Nat.beq xc.length n with
  | false => .fail
  | true => match p with
    | .ptr o off => match ob o with
      | some (.box cs) => match Nat.ble (off + n) cs.length with
        | true => .ret ⟨.und, [(o, .box (splice cs off xc))], [o]⟩
        | false => .fail
      | _ => .fail
    | .eptr o v j off => match ob o with
      | some (.row v' u xs) => match Nat.beq v' v with
        | true => opt (frz ob xc) fun w => .gt u xs j fun y =>
            match Nat.ble (off + n) u.sz, has (w.2.map (·.1)) o with
            | true, false => opt (unview u (splice (view u y) off w.1)) fun z => .ret ⟨.und, w.2 ++ [(o, .row v u (xs.set j z))], o :: w.2.map (·.1)⟩
            | _, _ => .fail
        | false => .fail
      | some (.tree u xs) => match tmd with
        | true => absorbA ob k o v j off u xs xc
        | false => opt (unS xc) fun z => match Nat.beq v 0 with
          | true => .gt u xs j fun y => match (view u y)[off]? with
            | some (.s _) => opt (unview u ((view u y).set off (.s z))) fun zz => .ret ⟨.und, [(o, .tree u (xs.set j zz))], [o]⟩
            | _ => .fail
          | false => .fail
      | _ => .fail
    | _ => .fail

/-- the parts of a struct that is built -/
def fillA (place : Nat → Option (Nat × Nat)) (cs : List AV) : List (Nat × AV) → Option (List AV)
  | [] => some cs
  | (i, a) :: r => match place i with
    | none => none
    | some (off, size) => match cellsA a with
      | none => none
      | some ac => match Nat.beq ac.length size, Nat.ble (off + size) cs.length with
        | true, true => fillA place (splice cs off ac) r
        | _, _ => none
def places (P : Program) : List Field → Option (List (Nat × Nat))
  | [] => some []
  | f :: r => match szOf P f.type, places P r with | some n, some l => some ((f.offset, n) :: l) | _, _ => none
def placeF (P : Program) (fs : List Field) (i : Nat) : Option (Nat × Nat) := match fs[i]? with
  | some f => match szOf P f.type with | some n => some (f.offset, n) | none => none
  | none => none
def fieldsOf (P : Program) (t : TypeId) : Option (List Field) := match P.underlying t with | some (.struct fs) => some fs.toList | _ => none

def chunks (sz : Nat) : Nat → List AV → List (List AV)
  | 0, _ => []
  | n + 1, cs => cs.take sz :: chunks sz n (cs.drop sz)
def unviews (t : Ty) : List (List AV) → Option (List t.D)
  | [] => some []
  | c :: r => match unview t c, unviews t r with | some x, some l => some (x :: l) | _, _ => none
def repl {α : Type} (n : Nat) (l : List α) : List α := match n with | 0 => [] | k + 1 => l ++ repl k l

def lenA (ob : Nat → Option AO) : AV → Option (Int × List Nat)
  | .own o v => match rowOf ob none (.own o v) with
    | some r => some ((r.xs.length : Int), r.rd)
    | none => match ob o with
      | some (.tree _ xs) => match Nat.beq v 0 with | true => some ((xs.length : Int), [o]) | false => none
      | _ => none
  | .sub o v lo n => match rowOf ob none (.sub o v lo n) with | some r => some ((n : Int), r.rd) | none => none
  | .lst _ xs => some ((xs.length : Int), [])
  | .nils => some (0, [])
  | _ => none

/-- a length up to which rows of elements of so many bytes grow without end of memory -/
def room (bytes : Nat) : Nat := 35184372088832 / (bytes + 1)

def bytesT (P : Program) (t : TypeId) : Option Nat := match P.underlying t with
  | some (.slice e) => match P.info? e with | some i => some i.bytes | none => none
  | _ => none

def appendB (d : Nat) (ob : Nat → Option AO) (u : Ty) (by_ : Nat) (rd : List Nat) (ys : List u.D) : AV → TD
  | .nils => grd (decide (ys.length ≤ room by_)) (fresh ob (newId d 0) (.ret ⟨.own (newId d 0) 0, [(newId d 0, .row 0 u ys)], rd⟩))
  | .own o v => match ob o with
    | some (.row v' t' xs) => match Nat.beq v' v with
      | true => opt (castR u ⟨t', xs, []⟩) fun zs => grd (decide (zs.length + ys.length ≤ room by_)) (.ret ⟨.own o (v + 1), [(o, .row (v + 1) u (zs ++ ys))], o :: rd⟩)
      | false => .fail
    | _ => .fail
  | _ => .fail
def treeOf (ob : Nat → Option AO) (u : Ty) : AV → Option (Nat × List u.D)
  | .own o v => match ob o with
    | some (.tree t xs) => match Nat.beq v 0 with
      | true => match castR u ⟨t, xs, []⟩ with | some zs => some (o, zs) | none => none
      | false => none
    | _ => none
  | _ => none
/-- a row of rows behind another one: both go into one that is new -/
def appendT (ob : Nat → Option AO) (k : Nat) (u : Ty) (by_ : Nat) (o2 : Nat) (ys : List u.D) : AV → TD
  | .nils => grd (decide (ys.length ≤ room by_)) (fresh ob k (.ret ⟨.own k 0, [(o2, .dead), (k, .tree u ys)], [o2]⟩))
  | s => opt (treeOf ob u s) fun p => match Nat.beq p.1 o2 with
    | true => .fail
    | false => grd (decide (p.2.length + ys.length ≤ room by_)) (fresh ob k (.ret ⟨.own k 0, [(p.1, .dead), (o2, .dead), (k, .tree u (p.2 ++ ys))], [p.1, o2]⟩))
/-- so many zeros behind nothing -/
def appendZ (P : Program) (d : Nat) (ob : Nat → Option AO) (t e : TypeId) (s x : AV) : TD := match s, x with
  | .nils, .i .i64 n => opt (tyOf P 8 e) fun u => opt (bytesT P t) fun by_ => opt (zeroC P e) fun z => opt (unview u z) fun y => match szIs P e u.sz && (Nat.beq z.length u.sz && Nat.ble 1 u.sz) with
    | true => grd (decide (1 ≤ n)) (grd (decide (n ≤ (room by_ : Int))) (fresh ob (newId d 0) (.ret ⟨.own (newId d 0) 0, [(newId d 0, .row 0 u (List.replicate n.toNat y))], []⟩)))
    | false => .fail
  | _, _ => .fail
def appendA (P : Program) (d : Nat) (ob : Nat → Option AO) (ts : List TypeId) (s x : AV) : TD := match ts with
  | [t, tx] => match P.underlying t, P.underlying tx with
    | some (.slice e), some (.slice _) => opt (tyOf P 8 e) fun u => opt (bytesT P t) fun by_ => opt (zeroC P e) fun z => match szIs P e u.sz && Nat.beq z.length u.sz with
      | true => match treeOf ob u x with
        | some p => appendT ob (newId d 0) u by_ p.1 p.2 s
        | none => opt (rowOf ob (some u) x) fun rx => opt (castR u rx) fun ys => appendB d ob u by_ rx.rd ys s
      | false => .fail
    | some (.slice e), some (.int _) => appendZ P d ob t e s x
    | _, _ => .fail
  | _ => .fail

def minI (x y : Int) : Int := if y < x then y else x
def maxI (x y : Int) : Int := if y > x then y else x
def foldI (f : Int → Int → Int) (k : IntKind) : Int → List AV → Option Int
  | n, [] => some n
  | n, .i k' m :: r => if k' = k then foldI f k (f n m) r else none
  | _, _ => none

/-! ### handing on -/
/-- a cell that is lent -/
def lend0 (ob : Nat → Option AO) : AV → Option (AV × List Nat)
  | .own o v => match rowOf ob none (.own o v) with
    | some r => some (.lst r.t r.xs, [o])
    | none => match ob o with
      | some (.tree t xs) => match Nat.beq v 0 with | true => some (.lst t xs, [o]) | false => none
      | _ => none
  | .sub o v lo n => match rowOf ob none (.sub o v lo n) with | some r => some (.lst r.t r.xs, [o]) | none => none
  | .bad => none | .und => none | .ptr _ _ => none | .eptr _ _ _ _ => none | .fn _ _ => none | .agg _ => none | .tup _ => none | .mp _ => none
  | .nst o j q => match ob o with
    | some (.tree (.sl u) xs) => match Nat.beq q 0 with | true => some (.lst u (xs.getD j []), [o]) | false => none
    | _ => none
  | a => some (a, [])
def lends0 (ob : Nat → Option AO) : List AV → Option (List AV × List Nat)
  | [] => some ([], [])
  | a :: r => match lend0 ob a, lends0 ob r with | some (b, w), some (s, w') => some (b :: s, w ++ w') | _, _ => none
/-- a box that is lent: it is read alone -/
def lendB (ob : Nat → Option AO) (o off : Nat) : Option (AV × List Nat) := match ob o with
  | some (.box cs) => match lends0 ob (cs.drop off) with | some (l, w) => some (.rp l, o :: w) | none => none
  | _ => none
def lend (ob : Nat → Option AO) : AV → Option (AV × List Nat)
  | .ptr o off => lendB ob o off
  | .agg cs => match lends ob cs with | some (l, w) => some (.agg l, w) | none => none
  | .fn f cs => match lends ob cs with | some (l, w) => some (.fn f l, w) | none => none
  | a => lend0 ob a
  where
  lends (ob : Nat → Option AO) : List AV → Option (List AV × List Nat)
  | [] => some ([], [])
  | a :: r => match lend ob a, lends ob r with | some (b, w), some (s, w') => some (b :: s, w ++ w') | _, _ => none
def isRowO : Option AO → Bool
  | some (.row _ _ _) => true
  | some (.fro _ _ _) => true
  | _ => false
def rowsL (ob : Nat → Option AO) : List Nat → Bool
  | [] => true
  | o :: r => isRowO (ob o) && rowsL ob r
/-- by the function's marks: handed over (true), or lent -/
def passes (ob : Nat → Option AO) : List Bool → List AV → Option (List AV × List Nat)
  | _, [] => some ([], [])
  | true :: m, a :: r => match passes ob m r with | some (s, w) => some (a :: s, w) | none => none
  | false :: m, a :: r => match lend ob a, passes ob m r with | some (b, w), some (s, w') => some (b :: s, w ++ w') | _, _ => none
  | [], a :: r => match lend ob a, passes ob [] r with | some (b, w), some (s, w') => some (b :: s, w ++ w') | _, _ => none

def refs : AV → List Nat
  | .ptr o _ => [o]
  | .eptr o _ _ _ => [o]
  | .own o _ => [o]
  | .sub o _ _ _ => [o]
  | .nst o _ _ => [o]
  | .mp o => [o]
  | .fn _ cs => refsL cs
  | .agg cs => refsL cs
  | .tup cs => refsL cs
  | .rp cs => refsL cs
  | _ => []
  where
  refsL : List AV → List Nat
  | [] => []
  | a :: r => refs a ++ refsL r
def refsO : AO → List Nat
  | .box cs => refs.refsL cs
  | _ => []
/-- the objects that are come to, in the order in which they are met -/
def reach (ob : Nat → Option AO) : Nat → List Nat → List Nat → List Nat
  | 0, _, seen => seen
  | _, [], seen => seen
  | n + 1, o :: r, seen => match has seen o with
    | true => reach ob n r seen
    | false => match ob o with
      | some a => reach ob n (refsO a ++ r) (seen ++ [o])
      | none => reach ob n r (seen ++ [o])

def ren (ρ : Nat → Nat → Option (Nat × Nat)) : AV → AV
  | .ptr o off => match ρ o 0 with | some (o', _) => .ptr o' off | none => .bad
  | .eptr o v j off => match ρ o v with | some (o', v') => .eptr o' v' j off | none => .bad
  | .own o v => match ρ o v with | some (o', v') => .own o' v' | none => .bad
  | .sub o v lo n => match ρ o v with | some (o', v') => .sub o' v' lo n | none => .bad
  | .nst o j q => match ρ o 0 with | some (o', _) => .nst o' j q | none => .bad
  | .mp o => match ρ o 0 with | some (o', _) => .mp o' | none => .bad
  | .fn f cs => .fn f (renL ρ cs)
  | .agg cs => .agg (renL ρ cs)
  | .tup cs => .tup (renL ρ cs)
  | .rp cs => .rp (renL ρ cs)
  | a => a
  where
  renL (ρ : Nat → Nat → Option (Nat × Nat)) : List AV → List AV
  | [] => []
  | a :: r => ren ρ a :: renL ρ r
def verO : AO → Nat
  | .row v _ _ => v
  | .fro v _ _ => v
  | _ => 0
def renO (ρ : Nat → Nat → Option (Nat × Nat)) (ver : Nat) : AO → AO
  | .box cs => .box (ren.renL ρ cs)
  | .row _ t xs => .row ver t xs
  | .fro _ t xs => .fro ver t xs
  | .tree t xs => .tree t xs
  | .mpo es => .mpo es
  | .fwd _ => .dead
  | .dead => .dead
def imm : AV → Bool
  | .lst _ _ => true
  | .rp _ => true
  | .fn _ cs => immL cs
  | .agg cs => immL cs
  | .tup cs => immL cs
  | _ => false
  where
  immL : List AV → Bool
  | [] => false
  | a :: r => imm a || immL r
def immO : AO → Bool
  | .box cs => imm.immL cs
  | .row _ t _ => immT t
  | .fro _ _ _ => true
  | .tree _ _ => false
  | .mpo _ => false
  | .fwd _ => false
  | .dead => false
def rowsOk : List AO → Bool
  | [] => true
  | .fro _ _ _ :: _ => false
  | .dead :: _ => false
  | .fwd _ :: _ => false
  | .mpo _ :: _ => false
  | _ :: r => rowsOk r
/-- a box stays a box -/
def boxOk (v : Nat → Nat) : Nat → List AO → Bool
  | _, [] => true
  | i, .box _ :: r => match v i with | 0 => boxOk v (i + 1) r | _ => false
  | i, .tree _ _ :: r => match v i with | 0 => boxOk v (i + 1) r | _ => false
  | i, .mpo _ :: r => match v i with | 0 => boxOk v (i + 1) r | _ => false
  | i, _ :: r => boxOk v (i + 1) r

def isDead : AO → Bool
  | .dead => true
  | .fwd _ => true
  | _ => false
def rin (ob : Nat → Option AO) (L : List Nat) (o v : Nat) : Option (Nat × Nat) := match idx L o with
  | some i => match ob o with
    | some a => match isDead a, Nat.beq (verO a) v with | false, true => some (i, 0) | _, _ => none
    | none => none
  | none => none
def obsOf (ob : Nat → Option AO) (ρ : Nat → Nat → Option (Nat × Nat)) : List Nat → Option (List AO)
  | [] => some []
  | o :: r => match ob o, obsOf ob ρ r with | some a, some l => some (renO ρ 0 a :: l) | _, _ => none
/-- the i-th object behind a call -/
def sig (d : Nat) (L : List Nat) (i : Nat) : Nat := match L[i]? with | some o => o | none => newId d 0 + (i - L.length)
def verAt (ob : Nat → Option AO) (L : List Nat) (i : Nat) : Nat := match L[i]? with
  | some o => (match ob o with | some a => verO a | none => 0)
  | none => 0
def rout (d : Nat) (ob : Nat → Option AO) (L : List Nat) (i v : Nat) : Option (Nat × Nat) := some (sig d L i, verAt ob L i + v)
def backO (d : Nat) (ob : Nat → Option AO) (L : List Nat) : Nat → List AO → List (Nat × AO)
  | _, [] => []
  | i, a :: r => (sig d L i, renO (rout d ob L) (verAt ob L i + verO a) a) :: backO d ob L (i + 1) r
def froz (ob : Nat → Option AO) : List Nat → List (Nat × AO)
  | [] => []
  | o :: r => (match ob o with | some (.row v t xs) => [(o, .fro v t xs)] | _ => []) ++ froz ob r
def nodupB : List Nat → Bool
  | [] => true
  | a :: r => match has r a with | true => false | false => nodupB r
def disj : List Nat → List Nat → Bool
  | [], _ => true
  | a :: r, l => match has l a with | true => false | false => disj r l
def freshN (ob : Nat → Option AO) (k : Nat) : Nat → Bool
  | 0 => true
  | n + 1 => match ob (k + n) with | none => freshN ob k n | some _ => false
def anyImm : List AO → Bool
  | [] => false
  | a :: r => immO a || anyImm r
def callA (M : FuncId → List Bool) (d : Nat) (ob : Nat → Option AO) (f : FuncId) (as : List AV) : TD :=
  opt (passes ob (M f) as) fun p =>
  opt (obsOf ob (rin ob (reach ob 100 (refs.refsL p.1) [])) (reach ob 100 (refs.refsL p.1) [])) fun os =>
  match nodupB (reach ob 100 (refs.refsL p.1) []) && disj p.2 (reach ob 100 (refs.refsL p.1) []) && rowsOk os with
  | false => .fail
  | true => .call f (ren.renL (rin ob (reach ob 100 (refs.refsL p.1) [])) p.1) os fun r =>
    match Nat.ble (reach ob 100 (refs.refsL p.1) []).length r.2.length && freshN ob (newId d 0) (r.2.length - (reach ob 100 (refs.refsL p.1) []).length) && boxOk (verAt ob (reach ob 100 (refs.refsL p.1) [])) 0 r.2 with
    | false => .fail
    | true => match imm r.1 || anyImm r.2 with
      | true => match rowsL ob p.2 with
        | true => .ret ⟨ren (rout d ob (reach ob 100 (refs.refsL p.1) [])) r.1, backO d ob (reach ob 100 (refs.refsL p.1) []) 0 r.2 ++ froz ob p.2, reach ob 100 (refs.refsL p.1) [] ++ p.2⟩
        | false => .fail
      | false => .ret ⟨ren (rout d ob (reach ob 100 (refs.refsL p.1) [])) r.1, backO d ob (reach ob 100 (refs.refsL p.1) []) 0 r.2, reach ob 100 (refs.refsL p.1) [] ++ p.2⟩

/-- a row inside a row of one's own is handed over, and comes back -/
def callN (ob : Nat → Option AO) (f : FuncId) (o j q : Nat) (rest : List AV) : TD := match plainL rest, ob o with
  | true, some (.tree t xs) => .gt t xs j fun x => match (view t x)[q]? with
    | some (.lst u l) => match immT u with
      | false => .call f (.own 0 0 :: rest) [.row 0 u l] fun r => match plainV r.1, r.2 with
        | true, [.row 0 u' l'] => match immT u' with
          | false => opt (unview t ((view t x).set q (.lst u' l'))) fun z => .ret ⟨r.1, [(o, .tree t (xs.set j z))], [o]⟩
          | true => .fail
        | _, _ => .fail
      | true => .fail
    | _ => .fail
  | _, _ => .fail
def callW (M : FuncId → List Bool) (d : Nat) (ob : Nat → Option AO) (f : FuncId) (as : List AV) : TD := match as with
  | .nst o j q :: rest => match M f with
    | true :: _ => callN ob f o j q rest
    | _ => callA M d ob f (.nst o j q :: rest)
  | as => callA M d ob f as

def numA (d : Int) : Option AV → Option Int
  | none => some d
  | some (.i _ n) => some n
  | _ => none
def bndA (n : Nat) (l h : Int) (k : TD) : TD := grd (decide (0 ≤ l)) (grd (decide (l ≤ h)) (grd (decide (h ≤ (n : Int))) k))
def zeroA : Option AV → Bool
  | some (.i _ n) => match n with | .ofNat m => Nat.beq m 0 | _ => false
  | _ => false
def sliceA (P : Program) (ob : Nat → Option AO) (t : TypeId) (x : AV) (lo hi mx : Option AV) : TD :=
  match P.underlying t with
  | some .string => match x, mx with
    | .s b, none => opt (numA 0 lo) fun l => opt (numA (b.size : Int) hi) fun h => bndA b.size l h (now (.s (b.extract l.toNat h.toNat)))
    | _, _ => .fail
  | some (.slice e) => opt (szOf P e) fun sz => match mx with
    | some m => match zeroA lo && (zeroA hi && zeroA (some m)) with
      | true => opt (lenA ob x) fun r => .ret ⟨.nils, [], r.2⟩
      | false => .fail
    | none => match x with
      | .lst t xs => match Nat.beq t.sz sz with
        | true => opt (numA 0 lo) fun l => opt (numA (xs.length : Int) hi) fun h => bndA xs.length l h (now (.lst t ((xs.take h.toNat).drop l.toNat)))
        | false => .fail
      | .own o v => opt (rowOf ob none (.own o v)) fun r => match Nat.beq r.t.sz sz with
        | true => opt (numA 0 lo) fun l => opt (numA (r.xs.length : Int) hi) fun h => bndA r.xs.length l h (.ret ⟨.sub o v l.toNat (h.toNat - l.toNat), [], r.rd⟩)
        | false => .fail
      | .nils => opt (numA 0 lo) fun l => opt (numA ((0 : Nat) : Int) hi) fun h => bndA 0 l h (now .nils)
      | _ => .fail
  | _ => .fail

/-- a part of a row of one's own: the object, its version, where, how long -/
def partA (ob : Nat → Option AO) : AV → Option (Nat × Nat × Nat × Nat)
  | .own o v => match ob o with
    | some (.row v' _ xs) => match Nat.beq v' v with | true => some (o, v, 0, xs.length) | false => none
    | _ => none
  | .sub o v lo n => match ob o with
    | some (.row v' _ _) => match Nat.beq v' v with | true => some (o, v, lo, n) | false => none
    | _ => none
  | _ => none
def clearA (P : Program) (ob : Nat → Option AO) (e : TypeId) (x : AV) : TD := opt (zeroC P e) fun z => opt (partA ob x) fun p => match ob p.1 with
  | some (.row v t xs) => match Nat.beq z.length t.sz with
    | true => opt (unview t z) fun y => .ret ⟨.bad, [(p.1, .row v t (xs.take p.2.2.1 ++ List.replicate p.2.2.2 y ++ xs.drop (p.2.2.1 + p.2.2.2)))], [p.1]⟩
    | false => .fail
  | _ => .fail
def copyA (P : Program) (ob : Nat → Option AO) (e : TypeId) (x s : AV) : TD := opt (szOf P e) fun sz => opt (partA ob x) fun p => match ob p.1 with
  | some (.row v t xs) => match Nat.beq sz t.sz with
    | true => opt (rowOf ob (some t) s) fun r => opt (castR t r) fun ys =>
      .ret ⟨.i .i64 ((min ys.length p.2.2.2 : Nat) : Int), [(p.1, .row v t (xs.take p.2.2.1 ++ ys.take p.2.2.2 ++ xs.drop (p.2.2.1 + min ys.length p.2.2.2)))], p.1 :: r.rd⟩
    | false => .fail
  | _ => .fail

def lenB (P : Program) (ob : Nat → Option AO) (ts : List TypeId) (x : AV) : TD := match ts with
  | t :: _ => match P.underlying t with
    | some .string => match x with | .s b => now (.i .i64 (b.size : Int)) | _ => .fail
    | some (.slice _) => match x with
      | .s _ => .fail
      | y => opt (lenA ob y) fun n => .ret ⟨.i .i64 n.1, [], n.2⟩
    | _ => .fail
  | [] => .fail
def builtinA (P : Program) (d : Nat) (ob : Nat → Option AO) (b : Builtin) (ts : List TypeId) (as : List AV) : TD :=
  match b, as with
  | .len, [x] => lenB P ob ts x
  | .append, [s, x] => appendA P d ob ts s x
  | .cap, [.nils] => match ts with
    | t :: _ => match P.underlying t with | some (.slice _) => now (.i .i64 0) | _ => .fail
    | [] => .fail
  | .copy, [x, y] => match ts with
    | t :: _ => match P.underlying t with | some (.slice e) => copyA P ob e x y | _ => .fail
    | [] => .fail
  | .clear, [x] => match ts with
    | t :: _ => match P.underlying t with | some (.slice e) => clearA P ob e x | _ => .fail
    | [] => .fail
  | .min, .i k n :: r => opt (foldI minI k n r) fun m => now (.i k m)
  | .max, .i k n :: r => opt (foldI maxI k n r) fun m => now (.i k m)
  | _, _ => .fail

/-- a text out of bytes -/
def strOf (xs : List Int) : ByteArray := ⟨(xs.map fun n => UInt8.ofNat n.toNat).toArray⟩
def convA (P : Program) (ob : Nat → Option AO) (s t : TypeId) (x : AV) : TD := match P.underlying s, P.underlying t with
  | some _, some (.int k) => match x with | .i _ n => now (.i k (k.wrap n)) | _ => .fail
  | some (.slice e), some .string => match P.underlying e with
    | some (.int .u8) => opt (rowOf ob (some (.i .u8)) x) fun r => opt (castR (.i .u8) r) fun ys => .ret ⟨.s (strOf ys), [], r.rd⟩
    | _ => .fail
  | _, _ => .fail

def opA (P : Program) (M : FuncId → List Bool) (ev : Operand → AV) (ob : Nat → Option AO) (o : Oper) : TD :=
  let d := o.dst.getD 0
  match o.op with
  | .move x => now (ev x)
  | .assign x => now (ev x)
  | .pick c a b => match ev c, ev a, ev b with
    | .b x, .b p, .b q => now (.b (cond x p q))
    | .b x, p, q => .br x (now p) (now q)
    | _, _, _ => .fail
  | .alloc t => opt (zeroC P t) fun cs => fresh ob (newId d 0) (.ret ⟨.ptr (newId d 0) 0, [(newId d 0, .box cs)], []⟩)
  | .box _ x => opt (cellsA (ev x)) fun cs => fresh ob (newId d 0) (.ret ⟨.ptr (newId d 0) 0, [(newId d 0, .box cs)], []⟩)
  | .build t ps => opt (zeroC P t) fun z => opt (fieldsOf P t) fun fs => opt (places P fs) fun pl => opt (fillA (fun i => pl[i]?) z (ps.toList.map fun p => (p.1, ev p.2))) fun cs => now (.agg cs)
  | .buildSlice t n ps => match P.underlying t with
    | some (.slice e) => opt (tyOf P 8 e) fun u => opt (szOf P e) fun sz => opt (zeroC P e) fun z => match Nat.beq sz u.sz && Nat.beq z.length sz, Nat.ble (n * sz) 16777216 with
      | true, true => opt (fillA (fun i => some (i * sz, sz)) (repl n z) (ps.toList.map fun p => (p.1, ev p.2))) fun cs =>
          opt (frz ob cs) fun w => opt (unviews u (chunks sz n w.1)) fun xs => fresh ob (newId d 0) (.ret ⟨.own (newId d 0) 0, litO (treeM M) ob (newId d 0) u cs w.2 xs, w.2.map (·.1)⟩)
      | _, _ => .fail
    | _ => .fail
  | .load t x => opt (szOf P t) fun n => loadA P ob t n (ev x)
  | .store t p x => opt (szOf P t) fun n => storeA ob (treeM M) (newId d 0) n (ev p) (ev x)
  | .nilCheck x => match ev x with
    | .ptr o off => now (.ptr o off)
    | .eptr o v j off => now (.eptr o v j off)
    | .rp cs => now (.rp cs)
    | .fn f cs => now (.fn f cs)
    | _ => .fail
  | .binOp op t x y _ => match isNilC y with | true => nilA P op t (ev x) | false => binA P op t (ev x) (ev y)
  | .unOp op _ x => unA op (ev x)
  | .makeFunc (.func f) a cs => match a.size with | 0 => now (.fn f (cs.toList.map ev)) | _ => .fail
  | .makeSlice t l c => opt (elemT P t) fun u => match P.underlying t with
    | some (.slice e) => opt (zeroC P e) fun z => opt (unview u z) fun y => opt (bytesT P t) fun by_ => match ev l, ev c, szIs P e u.sz with
      | .i .i64 n, .i .i64 m, true => grd (decide (0 ≤ n)) (grd (decide (n ≤ m)) (grd (decide (m ≤ (room by_ : Int))) (fresh ob (newId d 0) (.ret ⟨.own (newId d 0) 0, [(newId d 0, madeO (treeM M) u z (List.replicate n.toNat y))], []⟩))))
      | _, _, _ => .fail
    | _ => .fail
  | .slice t x lo hi mx => sliceA P ob t (ev x) (lo.map ev) (hi.map ev) (mx.map ev)
  | .fieldAddr t x f => opt (fieldsOf P t) fun fs => opt (placeF P fs f) fun pl => match pl.2 with
    | 0 => .fail
    | _ => match ev x with
      | .ptr o off => now (.ptr o (off + pl.1))
      | .eptr o v j off => now (.eptr o v j (off + pl.1))
      | .rp cs => now (.rp (cs.drop pl.1))
      | _ => .fail
  | .field t x f => opt (fieldsOf P t) fun fs => opt (fs[f]?) fun fd => opt (szOf P fd.type) fun n => match ev x with
    | .agg cs => opt (cut cs fd.offset n) fun l => opt (mkA P fd.type l) now
    | _ => .fail
  | .indexAddr t x i => match P.underlying t, ev i with
    | some (.slice e), .i _ n => opt (szOf P e) fun sz => match ev x with
      | .lst u xs => match Nat.beq u.sz sz with
        | true => grd (decide (0 ≤ n)) (.gt u xs n.toNat fun y => now (.rp (view u y)))
        | false => .fail
      | .own o v => match rowOf ob none (.own o v) with
        | some r => match Nat.beq r.t.sz sz with
          | true => grd (decide (0 ≤ n)) (grd (decide (n < (r.xs.length : Int))) (.ret ⟨.eptr o v n.toNat 0, [], r.rd⟩))
          | false => .fail
        | none => match ob o with
          | some (.tree u xs) => match Nat.beq v 0 && Nat.beq u.sz sz with
            | true => grd (decide (0 ≤ n)) (grd (decide (n < (xs.length : Int))) (.ret ⟨.eptr o 0 n.toNat 0, [], [o]⟩))
            | false => .fail
          | _ => .fail
      | .sub o v lo m => opt (rowOf ob none (.own o v)) fun r => match Nat.beq r.t.sz sz with
        | true => grd (decide (0 ≤ n)) (grd (decide (n < (m : Int))) (.ret ⟨.eptr o v (lo + n.toNat) 0, [], r.rd⟩))
        | false => .fail
      | _ => .fail
    | _, _ => .fail
  | .index t x i => match P.underlying t, ev x, ev i with
    | some .string, .s b, .i _ n => grd (decide (0 ≤ n)) (grd (decide (n < (b.size : Int))) (now (.i .u8 ((b.data.toList.getD n.toNat 0).toNat : Int))))
    | _, _, _ => .fail
  | .extract x i => match ev x with | .tup vs => opt (vs[i]?) now | _ => .fail
  | .convert s t x => convA P ob s t (ev x)
  | .makeMap t hint => match hint, mapIB P t with
    | none, true => fresh ob (newId d 0) (.ret ⟨.mp (newId d 0), [(newId d 0, .mpo [])], []⟩)
    | _, _ => .fail
  | .lookup t x k ok => match ok, mapIB P t, ev x, ev k with
    | false, true, .mp o, .i .i64 n => match ob o with
      | some (.mpo es) => .ret ⟨.b (lookB es n), [], [o]⟩
      | _ => .fail
    | _, _, _, _ => .fail
  | .mapUpdate t m k v => match mapIB P t, ev m, ev k, ev v with
    | true, .mp o, .i .i64 n, .b y => match ob o with
      | some (.mpo es) => .ret ⟨.bad, [(o, .mpo (putB es n y))], [o]⟩
      | _ => .fail
    | _, _, _, _ => .fail
  | .call c => match c.callee with
    | .builtin b => builtinA P d ob b c.argTypes.toList (c.args.toList.map ev)
    | .value f => match ev f with | .fn g cs => callW M d ob g (c.args.toList.map ev ++ cs) | _ => .fail
    | _ => .fail
  | _ => .fail

/-- an operation under its guard -/
def stepA (P : Program) (M : FuncId → List Bool) (ops : Array Oper) (st : St) (o : Oper) : Tree St :=
  match o.guard with
  | none => (opA P M st.ev (look st.ob) o).bind fun d => .ret (st.app o.dst d)
  | some (j, want) => match (ops[j]?).bind (·.dst) with
    | none => .fail
    | some g => match st.get g with
      | .und => .ret (st.app o.dst ⟨.und, [], []⟩)
      | .b x =>
        let yes : Tree St := let st' := { st with tm := upd st.tm g (.b want) }; (opA P M st'.ev (look st'.ob) o).bind fun d => .ret (st'.app o.dst d)
        let no : Tree St := .ret ({ st with tm := upd st.tm g (.b (!want)) }.app o.dst ⟨.und, [], []⟩)
        match want with | true => .br x yes no | false => .br x no yes
      | _ => .fail
def regA (P : Program) (M : FuncId → List Bool) (ops : Array Oper) : List Oper → St → Tree St
  | [], st => .ret st
  | o :: r, st => (stepA P M ops st o).bind (regA P M ops r)

/-- an object that has another name: its places are told anew -/
def isFwd : AO → Bool
  | .fwd _ => true
  | _ => false
def hasFwd : List (Nat × AO) → Bool
  | [] => false
  | p :: r => match isFwd p.2 with | true => true | false => hasFwd r
def rn1 (ob : Nat → Option AO) : AV → AV
  | .own o v => match Nat.beq v 0, ob o with
    | true, some (.fwd k) => (match ob k with | some (.tree _ _) => .own k 0 | _ => .own o v)
    | _, _ => .own o v
  | a => a
def rnT (ob : Nat → Option AO) : List (Nat × AV) → List (Nat × AV)
  | [] => []
  | p :: r => (p.1, rn1 ob p.2) :: rnT ob r
def rnS (st : St) : St := match hasFwd st.ob with
  | true => ⟨rnT (look st.ob) st.tm, st.ob⟩
  | false => st

/-! ### regions in an order that is drawn -/
def opsOf : Op → List Operand
  | .move x => [x]
  | .assign x => [x]
  | .pick c a b => [c, a, b]
  | .box _ x => [x]
  | .build _ ps => ps.toList.map fun p => p.2
  | .buildSlice _ _ ps => ps.toList.map fun p => p.2
  | .load _ x => [x]
  | .store _ p x => [p, x]
  | .nilCheck x => [x]
  | .binOp _ _ x y _ => [x, y]
  | .unOp _ _ x => [x]
  | .makeFunc _ _ cs => cs.toList
  | .makeSlice _ l c => [l, c]
  | .slice _ x lo hi mx => x :: (lo.toList ++ (hi.toList ++ mx.toList))
  | .fieldAddr _ x _ => [x]
  | .field _ x _ => [x]
  | .indexAddr _ x i => [x, i]
  | .index _ x i => [x, i]
  | .extract x _ => [x]
  | .convert _ _ x => [x]
  | .lookup _ x k _ => [x, k]
  | .mapUpdate _ m k v => [m, k, v]
  | .call c => (match c.callee with | .value f => [f] | _ => []) ++ c.args.toList
  | _ => []
def tmpsOf : List Operand → List Nat
  | [] => []
  | .tmp t :: r => t :: tmpsOf r
  | _ :: r => tmpsOf r
def readsOf (ops : Array Oper) (o : Oper) : List Nat := match o.guard with
  | none => tmpsOf (opsOf o.op)
  | some (j, _) => match (ops[j]?).bind (·.dst) with | some g => g :: tmpsOf (opsOf o.op) | none => tmpsOf (opsOf o.op)
def stepD (P : Program) (M : FuncId → List Bool) (ops : Array Oper) (st : St) (o : Oper) : Tree (St × Delta) :=
  match o.guard with
  | none => (opA P M st.ev (look st.ob) o).bind fun d => .ret (st.app o.dst d, d)
  | some (j, want) => match (ops[j]?).bind (·.dst) with
    | none => .fail
    | some g => match st.get g with
      | .und => .ret (st.app o.dst ⟨.und, [], []⟩, ⟨.und, [], []⟩)
      | .b x =>
        let yes : Tree (St × Delta) := let st' := { st with tm := upd st.tm g (.b want) }; (opA P M st'.ev (look st'.ob) o).bind fun d => .ret (st'.app o.dst d, d)
        let no : Tree (St × Delta) := .ret ({ st with tm := upd st.tm g (.b (!want)) }.app o.dst ⟨.und, [], []⟩, ⟨.und, [], []⟩)
        match want with | true => .br x yes no | false => .br x no yes
      | _ => .fail
def regL (P : Program) (M : FuncId → List Bool) (ops : Array Oper) : List Oper → St → Tree (St × List Delta)
  | [], st => .ret (st, [])
  | o :: r, st => (stepD P M ops st o).bind fun p => (regL P M ops r p.1).bind fun q => .ret (q.1, p.2 :: q.2)
def keysOf : List (Nat × AO) → List Nat
  | [] => []
  | p :: r => p.1 :: keysOf r
def writes (x : Oper) (l : List Nat) (y : Oper) : Bool := match x.dst with
  | some t => match has l t with | true => true | false => (match y.dst with | some u => Nat.beq t u | none => false)
  | none => false
def clash (ops : Array Oper) (x : Oper) (dx : Delta) (y : Oper) (dy : Delta) : Bool :=
  writes x (readsOf ops y) y || (writes y (readsOf ops x) x || (!disj (keysOf dx.ow) (keysOf dy.ow ++ dy.rd) || !disj (keysOf dy.ow) dx.rd))
def maskOf (ms : List Nat) : List Edge → Option Nat
  | [] => some 0
  | e :: r => match Region.binds .any e with
    | true => match ms[e.on]?, maskOf ms r with | some m, some n => some (Nat.lor (2 ^ e.on) (Nat.lor m n)) | _, _ => none
    | false => maskOf ms r
def okWith (ops : Array Oper) (m : Nat) (o : Oper) (d : Delta) : Nat → List (Oper × Delta) → Bool
  | _, [] => true
  | j, p :: r => match clash ops p.1 p.2 o d, Nat.testBit m j with
    | true, false => false
    | _, _ => okWith ops m o d (j + 1) r
def ordOk (ops : Array Oper) : List (Oper × Delta) → List Nat → List Oper → List Delta → Bool
  | _, _, [], [] => true
  | done, ms, o :: r, d :: ds => match maskOf ms o.after.toList with
    | some m => match okWith ops m o d 0 done with | true => ordOk ops (done ++ [(o, d)]) (ms ++ [m]) r ds | false => false
    | none => false
  | _, _, _, _ => false

/-- how a result is told: as it is; a row of one's own; a row that stays -/
inductive Cv where
  | id
  | own (t : Ty) (k : Nat)
  | lst (t : Ty)
  | agg (l : List Cv)
def conv1 (ob : Nat → Option AO) (cv : Cv) (a : AV) : Option (AV × List (Nat × AO)) := match cv with
  | .own t k => match a with
    | .nils => match ob k, Nat.ble 1000 k with | none, true => some (.own k 0, [(k, .row 0 t [])]) | _, _ => none
    | .sub o v lo n => match ob o with
      | some (.row v' t' xs) => match Nat.beq v' v with | true => some (.own o (v + 1), [(o, .row (v + 1) t' ((xs.drop lo).take n))]) | false => none
      | _ => none
    | .nst o j q => match ob o, ob k with
      | some (.tree (.sl t') xs), none => match Nat.ble 1000 k, Nat.beq q 0 with | true, true => some (.own k 0, [(o, .dead), (k, .row 0 t' (xs.getD j []))]) | _, _ => none
      | _, _ => none
    | a => some (a, [])
  | .lst t => match a with
    | .nils => some (.lst t [], [])
    | .own o v => frz1 ob (.own o v)
    | .sub o v lo n => match ob o with
      | some (.row v' t' xs) => match Nat.beq v' v with | true => some (.lst t' ((xs.drop lo).take n), [(o, .fro v' t' xs)]) | false => none
      | some (.fro v' t' xs) => match Nat.beq v' v with | true => some (.lst t' ((xs.drop lo).take n), []) | false => none
      | _ => none
    | a => some (a, [])
  | _ => some (a, [])
def convL (cvs : List Cv) (ob : List (Nat × AO)) : List AV → Option (List AV × List (Nat × AO))
  | [] => some ([], ob)
  | a :: r => match cvs with
    | [] => match convL [] ob r with | some (l, ob') => some (a :: l, ob') | none => none
    | .agg cs :: m => match a with
      | .agg as => match convF cs ob as with
        | some (as', ob1) => match convL m ob1 r with | some (l, ob') => some (.agg as' :: l, ob') | none => none
        | none => none
      | _ => none
    | cv :: m => match conv1 (look ob) cv a with
      | some (b, u) => match convL m (upds ob u) r with | some (l, ob') => some (b :: l, ob') | none => none
      | none => none
  where
  convF (cvs : List Cv) (ob : List (Nat × AO)) : List AV → Option (List AV × List (Nat × AO))
  | [] => some ([], ob)
  | a :: r => match cvs with
    | [] => match convF [] ob r with | some (l, ob') => some (a :: l, ob') | none => none
    | cv :: m => match conv1 (look ob) cv a with
      | some (b, u) => match convF m (upds ob u) r with | some (l, ob') => some (b :: l, ob') | none => none
      | none => none

/-! ### loops: what stays -/
def firstReg : Code → Option Nat
  | .region id _ _ => some id
  | .seq a b => match firstReg a with | some i => some i | none => firstReg b
  | .cond _ a b => match firstReg a with | some i => some i | none => firstReg b
  | .block _ c => firstReg c
  | .loop c => firstReg c
  | .scope c => firstReg c
  | _ => none
def small : List (Nat × AO) → List Nat
  | [] => []
  | (o, _) :: r => match Nat.blt o 1000 with | true => o :: small r | false => small r
/-- the version that is told: 0 as it came, 1 behind an append -/
def newV (bump : List Nat) (o v : Nat) : Nat := match Nat.blt o 1000 with
  | true => match has bump o, v with | true, _ => 1 | false, 0 => 0 | false, _ => 1
  | false => 0
def isBox : AO → Bool
  | .box _ => true
  | .tree _ _ => true
  | .mpo _ => true
  | _ => false
/-- objects that stay, under new names -/
def names (ob : Nat → Option AO) (nm : Nat → Nat → Nat) (bump : List Nat) : Nat → List Nat → List (Nat × Nat × Nat)
  | _, [] => []
  | i, o :: r => match ob o with
    | some a => match isDead a with
      | false => (o, nm i o, match isBox a with | true => 0 | false => newV bump o (verO a)) :: names ob nm bump (i + 1) r
      | true => names ob nm bump (i + 1) r
    | none => names ob nm bump (i + 1) r
def rnm (ob : Nat → Option AO) : List (Nat × Nat × Nat) → Nat → Nat → Option (Nat × Nat)
  | [], _, _ => none
  | (o', n, v') :: r, o, v => match Nat.beq o' o with
    | true => match ob o with | some a => (match Nat.beq (verO a) v with | true => some (n, v') | false => none) | none => none
    | false => rnm ob r o v
def objs (ob : Nat → Option AO) (ρ : Nat → Nat → Option (Nat × Nat)) : List (Nat × Nat × Nat) → List (Nat × AO)
  | [] => []
  | (o, n, v') :: r => match ob o with | some a => (n, renO ρ v' a) :: objs ob ρ r | none => objs ob ρ r
def fsts : List (Nat × Nat × Nat) → List Nat
  | [] => []
  | (o, _, _) :: r => o :: fsts r
def snds : List (Nat × Nat × Nat) → List Nat
  | [] => []
  | (_, n, _) :: r => n :: snds r
def keepT (st : St) (ρ : Nat → Nat → Option (Nat × Nat)) : List Nat → List (Nat × AV)
  | [] => []
  | t :: r => (t, ren ρ (st.get t)) :: keepT st ρ r
def valsOf (st : St) : List Nat → List AV
  | [] => []
  | t :: r => st.get t :: valsOf st r
def loopNm (i o : Nat) : Nat := match Nat.blt o 1000 with | true => o | false => 5000 + i
def cleanK (st : St) (l bump : List Nat) : List (Nat × Nat × Nat) := names (look st.ob) loopNm bump 0 (reach (look st.ob) 100 (small st.ob ++ refs.refsL (valsOf st l)) [])
def clean (st : St) (l bump : List Nat) : Option St := match nodupB (fsts (cleanK st l bump)) && nodupB (snds (cleanK st l bump)) with
  | true => some { tm := keepT st (rnm (look st.ob) (cleanK st l bump)) l, ob := objs (look st.ob) (rnm (look st.ob) (cleanK st l bump)) (cleanK st l bump) }
  | false => none
/-- at a loop's head: the body's first region; places that stay; objects that are taken as appended to; places and boxes whose rows are told otherwise -/
structure Hd_ where
  keep : List Nat
  bump : List Nat
  tms : List (Nat × Cv)
  boxes : List (Nat × List Cv)
abbrev Cl_ := List (Nat × Hd_)
def convT : List (Nat × Cv) → St → Option St
  | [], st => some st
  | p :: r, st => match convL [p.2] st.ob [st.get p.1] with
    | some ([b], ob') => convT r ⟨upd st.tm p.1 b, ob'⟩
    | _ => none
def convB : List (Nat × List Cv) → St → Option St
  | [], st => some st
  | p :: r, st => match look st.ob p.1 with
    | some (.box cs) => match convL.convF p.2 st.ob cs with
      | some (cs', ob') => match look ob' p.1 with
        | some (.box _) => convB r ⟨st.tm, upd ob' p.1 (.box cs')⟩
        | _ => none
      | none => none
    | _ => convB r st
def cleanH (h : Hd_) (st : St) : Option St := match convT h.tms st with
  | some st1 => match convB h.boxes st1 with
    | some st2 => clean st2 h.keep h.bump
    | none => none
  | none => none
def cleanAt (cl : Cl_) (body : Code) (st : St) : Option St := match firstReg body with
  | some i => match look cl i with | some h => cleanH h st | none => some st
  | none => some st
def dstsOk (N : Nat) : List Oper → Bool
  | [] => true
  | o :: r => match o.dst with
    | some d => match Nat.blt d N with | true => dstsOk N r | false => false
    | none => dstsOk N r

variable {R : Type}
/-- what a function's text is: the program, which parameters are handed over, what stays in loops, its places -/
structure En where
  P : Program
  M : FuncId → List Bool
  cl : Cl_
  N : Nat
  jn : List Nat
/-- ways meet ahead of this region -/
def meets (jn : List Nat) (f : Bool) (id : Nat) : Bool := match f with | true => false | false => has jn id
def bo {A B : Type} (x : Option A) (f : A → Option B) : Option B := match x with | some a => f a | none => none
noncomputable def goS (E : En) (T : Table) (fin : St → Option R) (self : List Item → St → Option R) : Nat → Bool → List Item → St → Option R
  | 0, _, _, _ => none
  | s + 1, f, todo, st => match todo with
    | [] => fin st
    | .code .ret :: _ => fin st
    | .code .skip :: k => goS E T fin self s false k st
    | .code (.label _) :: k => goS E T fin self s false k st
    | .inBlock _ :: k => goS E T fin self s false k st
    | .inScope _ :: k => goS E T fin self s false k st
    | .code (.seq a b) :: k => goS E T fin self s false (.code a :: .code b :: k) st
    | .code (.cond c a b) :: k => match st.ev c with
      | .b x => br x (goS E T fin self s false (.code a :: k) st) (goS E T fin self s false (.code b :: k) st)
      | .mb => both (goS E T fin self s false (.code a :: k) st) (goS E T fin self s false (.code b :: k) st)
      | _ => none
    | .code (.block id body) :: k => goS E T fin self s false (.code body :: .inBlock id :: k) st
    | .code (.scope body) :: k => goS E T fin self s false (.code body :: .inScope body :: k) st
    | .code (.loop body) :: k => bo (cleanAt E.cl body st) fun st => self (.code body :: .inLoop body :: k) st
    | .inLoop body :: k => bo (cleanAt E.cl body st) fun st => self (.code body :: .inLoop body :: k) st
    | .code (.exit id) :: k => match exitTo id k with | some k' => goS E T fin self s false k' st | none => none
    | .code (.region id ops draw) :: k => match meets E.jn f id with
      | true => bo (cleanAt E.cl (.region id ops draw) st) fun st => self (.code (.region id ops draw) :: k) st
      | false => match dstsOk E.N ops.toList, draw with
        | true, false => cps T (regA E.P E.M ops ops.toList st) fun st' => goS E T fin self s false k (rnS st')
        | true, true => cps T (regL E.P E.M ops ops.toList st) fun q => match ordOk ops [] [] ops.toList q.2 with | true => goS E T fin self s false k q.1 | false => none
        | _, _ => none
    | _ => none
noncomputable def go (E : En) (T : Nat → Table) (fin : St → Option R) : Nat → List Item → St → Option R
  | 0 => fun _ _ => none
  | n + 1 => goS E (T n) fin (go E T fin n) 100000 true

/-- where the rounds of loops begin -/
def heads (jn : List Nat) : List Item → Code → List (List Item)
  | k, .seq a b => heads jn (.code b :: k) a ++ heads jn k b
  | k, .cond _ a b => heads jn k a ++ heads jn k b
  | k, .block id c => heads jn (.inBlock id :: k) c
  | k, .scope c => heads jn (.inScope c :: k) c
  | k, .loop c => (.code c :: .inLoop c :: k) :: heads jn (.inLoop c :: k) c
  | k, .region id ops draw => match has jn id with | true => [.code (.region id ops draw) :: k] | false => []
  | _, _ => []

/-! ### what is returned -/
def resA (P : Program) (ob : Nat → Option AO) (st : St) : List ResultVar → Option (List AV)
  | [] => some []
  | .tmp t :: r => match resA P ob st r with | some l => some (st.get t :: l) | none => none
  | .cell a t :: r => match szOf P t, st.get a, resA P ob st r with
    | some n, .ptr o off, some l => match ob o with
      | some (.box cs) => match cut cs off n with | some q => (match mkA P t q with | some x => some (x :: l) | none => none) | none => none
      | _ => none
    | _, _, _ => none
def tupA : List AV → AV
  | [a] => a
  | l => .tup l
def upto : Nat → Nat → List Nat
  | _, 0 => []
  | i, n + 1 => i :: upto (i + 1) n
def passRefs (ob : Nat → Option AO) : List Nat → List Nat
  | [] => []
  | o :: r => (match ob o with | some a => refsO a | none => []) ++ passRefs ob r
def finL (ob : Nat → Option AO) (m : Nat) (rs : List AV) : List Nat := reach ob 100 (refs.refsL rs ++ passRefs ob (upto 0 m)) (upto 0 m)
def finK (ob : Nat → Option AO) (m : Nat) (bump : List Nat) (rs : List AV) : List (Nat × Nat × Nat) := names ob (fun i _ => i) bump 0 (finL ob m rs)
def outs (l : List (Nat × AO)) : List Nat → List AO
  | [] => []
  | i :: r => (match look l i with | some (.fro _ _ _) => .dead | some (.fwd _) => .dead | some x => x | none => .dead) :: outs l r
def ends (ob : Nat → Option AO) (m : Nat) (bump : List Nat) (rs : List AV) : Option (List AV × List AO) := match nodupB (fsts (finK ob m bump rs)) && nodupB (snds (finK ob m bump rs)) with
  | true => some (ren.renL (rnm ob (finK ob m bump rs)) rs, outs (objs ob (rnm ob (finK ob m bump rs)) (finK ob m bump rs)) (upto 0 (finL ob m rs).length))
  | false => none
/-- what a function returns: its results, the objects that came in, new ones -/
def finA (P : Program) (rv : List ResultVar) (m : Nat) (cvs : List Cv) (bump : List Nat) (st : St) : Option (List AV × List AO) :=
  bo (resA P (look st.ob) st rv) fun rs => bo (convL cvs st.ob rs) fun p => ends (look p.2) m bump p.1

/-! ### results, told in Lean's kinds -/
structure Cd (T : Type) where
  dec : Nat → List AV → List AO → Option (T × List AV × List AO)
  enc : Nat → T → List AV × List AO
structure Od (T : Type) where
  dec : List AO → Option (T × List AO)
  enc : T → List AO
def finD {A O : Type} (cd : Cd A) (od : Od O) (m : Nat) (x : Option (List AV × List AO)) : Option (A × O) := match x with
  | some (rs, os) => match od.dec os with
    | some (o, os1) => match cd.dec m rs os1 with
      | some (a, [], []) => some (a, o)
      | _ => none
    | none => none
  | none => none
def encD {A O : Type} (cd : Cd A) (od : Od O) (m : Nat) (x : A × O) : Ret := (tupA (cd.enc m x.1).1, od.enc x.2 ++ (cd.enc m x.1).2)
/-- values, read strictly -/
def dV : (t : Ty) → List AV → Option (t.D × List AV)
  | .i k, .i k' n :: r => if k' = k then some (n, r) else none
  | .b, .b x :: r => some (x, r)
  | .s, .s x :: r => some (x, r)
  | .u, cs => some ((), cs)
  | .pr a b, cs => match dV a cs with
    | some (x, r) => match dV b r with | some (y, q) => some ((x, y), q) | none => none
    | none => none
  | .sl t, .lst t' xs :: r => if h : t' = t then some (h ▸ xs, r) else none
  | _, _ => none
/-- a value of a type: a struct (true), or plain -/
def mkP (agg : Bool) (t : Ty) (x : t.D) : AV := match agg with
  | true => .agg (view t x)
  | false => match view t x with | [a] => a | _ => .bad
def unP (agg : Bool) (t : Ty) (a : AV) : Option t.D := match agg with
  | true => match a with | .agg cs => unview t cs | _ => none
  | false => unview t [a]
def cV (agg : Bool) (t : Ty) : Cd t.D := ⟨fun _ as os => match agg with
  | true => match as with
    | .agg cs :: r => match dV t cs with | some (x, []) => some (x, r, os) | _ => none
    | _ => none
  | false => match dV t as with | some (x, r) => some (x, r, os) | none => none, fun _ x => (match agg with | true => [.agg (view t x)] | false => view t x, [])⟩
def fin0 {A : Type} (cd : Cd A) (x : Option (List AV × List AO)) : Option A := match x with
  | some (rs, os) => match cd.dec 0 rs os with
    | some (a, [], []) => some a
    | _ => none
  | none => none
def enc0 {A : Type} (cd : Cd A) (x : A) : Ret := (tupA (cd.enc 0 x).1, (cd.enc 0 x).2)
def Fun (A : Type) : List (Bool × Ty) → Type
  | [] => Option A
  | p :: r => p.2.D → Fun A r
def appF {A : Type} : (l : List (Bool × Ty)) → Fun A l → List AV → Option (Option A)
  | [], F, [] => some F
  | p :: r, F, a :: as => match unP p.1 p.2 a with | some x => appF r (F x) as | none => none
  | _, _, _ => none
def tabV {A : Type} (l : List (Bool × Ty)) (cd : Cd A) (F : Fun A l) (as : List AV) (os : List AO) : Option Pack := match os with
  | [] => match appF l F as with | some x => some ⟨A, x, enc0 cd⟩ | none => none
  | _ => none
/-- what stands at a cell of a struct, at an argument; what an object is -/
inductive Ac where
  | v (t : Ty)
  | o (a : AV)
inductive Ar where
  | v (agg : Bool) (t : Ty)
  | o (a : AV)
  | a (cs : List Ac)
  | r (cs : List Ac)
  | n (f : FuncId) (cs : List (List Ac))
inductive Ob where
  | row (v : Nat) (t : Ty)
  | tree (t : Ty)
  | box (cs : List Ar)
def FunC (X : Type) : List Ac → Type
  | [] => X
  | .v t :: r => t.D → FunC X r
  | .o _ :: r => FunC X r
def FunN (X : Type) : List (List Ac) → Type
  | [] => X
  | c :: r => FunC (FunN X r) c
def FunA (X : Type) : List Ar → Type
  | [] => X
  | .v _ t :: r => t.D → FunA X r
  | .o _ :: r => FunA X r
  | .a cs :: r => FunC (FunA X r) cs
  | .r cs :: r => FunC (FunA X r) cs
  | .n _ cs :: r => FunN (FunA X r) cs
def FunO (A : Type) : List Ob → Type
  | [] => Option A
  | .row _ t :: r => List t.D → FunO A r
  | .tree t :: r => List t.D → FunO A r
  | .box cs :: r => FunA (FunO A r) cs
def eqA : AV → AV → Bool
  | .ptr a b, .ptr c d => Nat.beq a c && Nat.beq b d
  | .own a b, .own c d => Nat.beq a c && Nat.beq b d
  | .nils, .nils => true
  | .nilp, .nilp => true
  | .fn f cs, .fn g ds => Nat.beq f g && eqL cs ds
  | _, _ => false
  where
  eqL : List AV → List AV → Bool
  | [], [] => true
  | a :: r, b :: q => eqA a b && eqL r q
  | _, _ => false
def appD {X : Type} : (l : List Ac) → FunC X l → List AV → Option X
  | [], F, [] => some F
  | .v t :: r, F, cs => match dV t cs with | some (x, cs') => appD r (F x) cs' | none => none
  | .o b :: r, F, a :: as => match eqA b a with | true => appD r F as | false => none
  | _, _, _ => none
def appN {X : Type} : (l : List (List Ac)) → FunN X l → List AV → Option X
  | [], F, [] => some F
  | c :: r, F, .rp ds :: as => match appD c F ds with | some G => appN r G as | none => none
  | _, _, _ => none
def appA {X : Type} : (l : List Ar) → FunA X l → List AV → Option X
  | [], F, [] => some F
  | .v g t :: r, F, a :: as => match unP g t a with | some x => appA r (F x) as | none => none
  | .o b :: r, F, a :: as => match eqA b a with | true => appA r F as | false => none
  | .a cs :: r, F, .agg ds :: as => match appD cs F ds with | some G => appA r G as | none => none
  | .r cs :: r, F, .rp ds :: as => match appD cs F ds with | some G => appA r G as | none => none
  | .n f cs :: r, F, .fn g ds :: as => match Nat.beq f g with
    | true => match appN cs F ds with | some G => appA r G as | none => none
    | false => none
  | _, _, _ => none
def appC {X : Type} : (l : List Ar) → FunA X l → List AV → Option X
  | [], F, [] => some F
  | .v _ t :: r, F, cs => match dV t cs with | some (x, cs') => appC r (F x) cs' | none => none
  | .o b :: r, F, a :: as => match eqA b a with | true => appC r F as | false => none
  | _, _, _ => none
def appO {A : Type} : (l : List Ob) → FunO A l → List AO → Option (Option A)
  | [], F, [] => some F
  | .row v t :: r, F, .row v' t' xs :: os => match Nat.beq v' v with
    | true => if h : t' = t then appO r (F (h ▸ xs)) os else none
    | false => none
  | .tree t :: r, F, .tree t' xs :: os => if h : t' = t then appO r (F (h ▸ xs)) os else none
  | .box cs :: r, F, .box ds :: os => match appC cs F ds with | some G => appO r G os | none => none
  | _, _, _ => none
/-- a function to which objects are handed over -/
def tabI {A : Type} (l : List Ar) (ls : List Ob) (enc : A → Ret) (F : FunA (FunO A ls) l) (as : List AV) (os : List AO) : Option Pack := match appA l F as with
  | some G => match appO ls G os with | some x => some ⟨A, x, enc⟩ | none => none
  | none => none
def orT (a b : List AV → List AO → Option Pack) (as : List AV) (os : List AO) : Option Pack := match a as os with
  | some p => some p
  | none => b as os
def tabs : List (Nat × (List AV → List AO → Option Pack)) → Table
  | [], _, _, _ => none
  | p :: l, f, as, os => match Nat.beq p.1 f with | true => p.2 as os | false => tabs l f as os
def ntOf (P : Program) (f : FuncId) : Nat := match P.funcs[f]? with | some fn => fn.ntmps | none => 0
def fnB (P : Program) (f : FuncId) (N : Nat) : Bool := match P.funcs[f]? with
  | some fn => fn.body.isSome && (Nat.beq N fn.ntmps && !(fn.name == "runtime.NumGoroutine"))
  | none => false
def enumA {α : Type} : Nat → List α → List (Nat × α)
  | _, [] => []
  | i, a :: r => (i, a) :: enumA (i + 1) r
def initA (as : List AV) (os : List AO) : St := ⟨enumA 0 as, enumA 0 os⟩
def bodyOf (P : Program) (f : FuncId) : Code := match P.funcs[f]? with | some fn => (match fn.body with | some c => c | none => .skip) | none => .skip
def resOf (P : Program) (f : FuncId) : List ResultVar := match P.funcs[f]? with | some fn => fn.results.toList | none => []
def headOf (P : Program) (f : FuncId) (j : Nat) (jn : List Nat := []) : List Item := match (heads jn [] (bodyOf P f))[j]? with | some l => l | none => []

/-- components of results -/
def cB : Cd Bool := ⟨fun _ as os => match as with | .b x :: r => some (x, r, os) | _ => none, fun _ x => ([.b x], [])⟩
def cI (k : IntKind) : Cd Int := ⟨fun _ as os => match as with | .i k' n :: r => if k' = k then some (n, r, os) else none | _ => none, fun _ n => ([.i k n], [])⟩
def cS : Cd ByteArray := ⟨fun _ as os => match as with | .s x :: r => some (x, r, os) | _ => none, fun _ x => ([.s x], [])⟩
def cU : Cd Unit := ⟨fun _ as os => some ((), as, os), fun _ _ => ([], [])⟩
def cL (t : Ty) : Cd (List t.D) := ⟨fun _ as os => match as with | .lst t' xs :: r => if h : t' = t then some (h ▸ xs, r, os) else none | _ => none, fun _ xs => ([.lst t xs], [])⟩
def cR (t : Ty) : Cd (List t.D) := ⟨fun i as os => match as, os with
  | .own o v :: r, .row v' t' xs :: q => match Nat.beq o i, Nat.beq v 0, Nat.beq v' 0 with
    | true, true, true => if h : t' = t then some (h ▸ xs, r, q) else none
    | _, _, _ => none
  | _, _ => none, fun i xs => ([.own i 0], [.row 0 t xs])⟩
/-- a row of rows of one's own -/
def cT (t : Ty) : Cd (List t.D) := ⟨fun i as os => match as, os with
  | .own o v :: r, .tree t' xs :: q => match Nat.beq o i, Nat.beq v 0 with
    | true, true => if h : t' = t then some (h ▸ xs, r, q) else none
    | _, _ => none
  | _, _ => none, fun i xs => ([.own i 0], [.tree t xs])⟩
/-- a row that came in and is returned -/
def cO (o v : Nat) : Cd Unit := ⟨fun _ as os => match as with
  | .own o' v' :: r => match Nat.beq o' o, Nat.beq v' v with | true, true => some ((), r, os) | _, _ => none
  | _ => none, fun _ _ => ([.own o v], [])⟩
/-- a value that is known -/
def cK (a : AV) : Cd Unit := ⟨fun _ as os => match as with
  | b :: r => match eqA a b with | true => some ((), r, os) | false => none
  | _ => none, fun _ _ => ([a], [])⟩
/-- a box of one's own: its pointer -/
def cX {A : Type} (a : Cd A) : Cd A := ⟨fun i as os => match as, os with
  | .ptr o q :: r, .box cs :: os1 => match Nat.beq o i, Nat.beq q 0 with
    | true, true => match a.dec (i + 1) cs os1 with | some (x, [], os2) => some (x, r, os2) | _ => none
    | _, _ => none
  | _, _ => none, fun i x => ([.ptr i 0], .box (a.enc (i + 1) x).1 :: (a.enc (i + 1) x).2)⟩
def cP {A B : Type} (a : Cd A) (b : Cd B) : Cd (A × B) := ⟨fun i as os => match a.dec i as os with
  | some (x, as1, os1) => match b.dec (i + (a.enc i x).2.length) as1 os1 with | some (y, as2, os2) => some ((x, y), as2, os2) | none => none
  | none => none, fun i p => ((a.enc i p.1).1 ++ (b.enc (i + (a.enc i p.1).2.length) p.2).1, (a.enc i p.1).2 ++ (b.enc (i + (a.enc i p.1).2.length) p.2).2)⟩
def cG {A : Type} (a : Cd A) : Cd A := ⟨fun i as os => match as with
  | .agg cs :: r => match a.dec i cs os with | some (x, [], os1) => some (x, r, os1) | _ => none
  | _ => none, fun i x => ([.agg (a.enc i x).1], (a.enc i x).2)⟩
def oU : Od Unit := ⟨fun os => some ((), os), fun _ => []⟩
def oR (v : Nat) (t : Ty) : Od (List t.D) := ⟨fun os => match os with
  | .row v' t' xs :: r => match Nat.beq v' v with | true => if h : t' = t then some (h ▸ xs, r) else none | false => none
  | _ => none, fun xs => [.row v t xs]⟩
def oT (t : Ty) : Od (List t.D) := ⟨fun os => match os with
  | .tree t' xs :: r => if h : t' = t then some (h ▸ xs, r) else none
  | _ => none, fun xs => [.tree t xs]⟩
def oD : Od Unit := ⟨fun os => match os with | .dead :: r => some ((), r) | _ => none, fun _ => [.dead]⟩
/-- a box that came in -/
def oB {A : Type} (a : Cd A) : Od A := ⟨fun os => match os with
  | .box cs :: r => match a.dec 0 cs [] with | some (x, [], []) => some (x, r) | _ => none
  | _ => none, fun x => [.box (a.enc 0 x).1]⟩
def oP {A B : Type} (a : Od A) (b : Od B) : Od (A × B) := ⟨fun os => match a.dec os with
  | some (x, os1) => match b.dec os1 with | some (y, os2) => some ((x, y), os2) | none => none
  | none => none, fun p => a.enc p.1 ++ b.enc p.2⟩
end Go.Proofs.YtafjengmkiepbaaGreat.Am
end
section
/- The machine of values and the program's memory: how they belong together. -/
namespace Go.Proofs.YtafjengmkiepbaaGreat.Am
open Go
set_option linter.constructorNameAsVariable false
set_option linter.unusedVariables false
set_option linter.unusedSimpArgs false

structure Inf where
  blk : Option Nat
  off : Nat
  cap : Nat
  len : Nat
  ver : Nat
  sz : Nat
  S : Nat → Prop
  N : Nat → Nat → Value
structure Cx where
  inf : Nat → Option Inf
  F : Nat → Prop

/-- the head of a row's part -/
def Hd (i : Inf) (lo n : Nat) (v : Value) : Prop := ∃ A cp, v = .slice A n cp ∧ n ≤ cp ∧ lo + cp = i.cap ∧ (0 < cp → ∃ b, i.blk = some b ∧ A = some ⟨b, i.off + lo * i.sz, none⟩)

inductive V (c : Cx) (w : World) : AV → Value → Prop
  | bad (v : Value) : V c w .bad v
  | und : V c w .und undef
  | mb (x : Bool) : V c w .mb (.bool x)
  | i (k : IntKind) (n : Int) : V c w (.i k n) (.int k n)
  | b (x : Bool) : V c w (.b x) (.bool x)
  | s (x : ByteArray) : V c w (.s x) (.string x)
  | nilp : V c w .nilp (.pointer none)
  | nilf : V c w .nilf .nilFunc
  | nili : V c w .nili .nilIface
  | nils (A : Option Addr) : V c w .nils (.slice A 0 0)
  | ptr (o off : Nat) (a : Addr) (i : Inf) (hi : c.inf o = some i) (h : i.ver = 0 → ∃ b, i.blk = some b ∧ a = ⟨b, off, none⟩) : V c w (.ptr o off) (.pointer (some a))
  | eptr (o ver j off : Nat) (a : Addr) (i : Inf) (hi : c.inf o = some i) (hv : ver ≤ i.ver) (h : ver = i.ver → j < i.len ∧ ∃ b, i.blk = some b ∧ a = ⟨b, i.off + j * i.sz + off, none⟩) : V c w (.eptr o ver j off) (.pointer (some a))
  | own (o ver : Nat) (A : Option Addr) (n cp : Nat) (i : Inf) (hi : c.inf o = some i) (hv : ver ≤ i.ver) (h : ver = i.ver → Hd i 0 i.len (.slice A n cp)) : V c w (.own o ver) (.slice A n cp)
  | sub (o ver lo m : Nat) (A : Option Addr) (n cp : Nat) (i : Inf) (hi : c.inf o = some i) (hv : ver ≤ i.ver) (h : ver = i.ver → lo + m ≤ i.len ∧ Hd i lo m (.slice A n cp)) : V c w (.sub o ver lo m) (.slice A n cp)
  | nst (o j q : Nat) (v : Value) (i : Inf) (hi : c.inf o = some i) (h : i.ver = 0 → j < i.len ∧ v = i.N j q) : V c w (.nst o j q) v
  | lst (t : Ty) (xs : List t.D) (A : Option Addr) (cp : Nat) (g : Nat → Value) (hn : xs.length ≤ cp)
      (ha : 0 < xs.length → ∃ a, A = some a ∧ c.F a.block ∧ ∀ j, j < xs.length * t.sz → w.cell? (a.add j) = some (g j) ∧ (g j).oneCell' = true)
      (h : ∀ j x, xs[j]? = some x → ∀ q y, (view t x)[q]? = some y → V c w y (g (j * t.sz + q))) : V c w (.lst t xs) (.slice A xs.length cp)
  | rp (cs : List AV) (a : Addr) (g : Nat → Value) (hF : c.F a.block) (hc : ∀ j, j < cs.length → w.cell? (a.add j) = some (g j) ∧ (g j).oneCell' = true) (h : ∀ j y, cs[j]? = some y → V c w y (g j)) : V c w (.rp cs) (.pointer (some a))
  | fn (f : FuncId) (cs : List AV) (vs : Array Value) (hs : vs.size = cs.length) (h : ∀ j y, cs[j]? = some y → V c w y (vs.getD j undef)) : V c w (.fn f cs) (.func (.func f) #[] vs)
  | agg (cs : List AV) (vs : Array Value) (hs : vs.size = cs.length) (h1 : ∀ j, j < cs.length → (vs.getD j undef).oneCell' = true) (h : ∀ j y, cs[j]? = some y → V c w y (vs.getD j undef)) : V c w (.agg cs) (.agg vs)
  | tup (cs : List AV) (vs : Array Value) (hs : vs.size = cs.length) (h : ∀ j y, cs[j]? = some y → V c w y (vs.getD j undef)) : V c w (.tup cs) (.tuple vs)
  | mp (o b : Nat) (i : Inf) (hi : c.inf o = some i) (h : i.ver = 0 → i.blk = some b) : V c w (.mp o) (.map (some b))

/-- what comes later -/
structure Ext (c : Cx) (w : World) (c' : Cx) (w' : World) : Prop where
  F : ∀ b, c.F b → c'.F b
  inf : ∀ o i, c.inf o = some i → ∃ i', c'.inf o = some i' ∧ i.ver ≤ i'.ver ∧ (i'.ver = i.ver → i' = i)
  heap : ∀ b, c.F b → w'.heap[b]? = w.heap[b]?
  nw : ∀ o, o < 1000 → c.inf o = none → c'.inf o = none

theorem Ext.refl (c : Cx) (w : World) : Ext c w c w := ⟨fun _ h => h, fun _ i h => ⟨i, h, Nat.le_refl _, fun _ => rfl⟩, fun _ _ => rfl, fun _ _ h => h⟩
theorem Ext.trans {c c1 c2 : Cx} {w w1 w2 : World} (h : Ext c w c1 w1) (k : Ext c1 w1 c2 w2) : Ext c w c2 w2 := by
  refine ⟨fun b hb => k.F b (h.F b hb), fun o i hi => ?_, fun b hb => (k.heap b (h.F b hb)).trans (h.heap b hb), fun o ho h0 => k.nw o ho (h.nw o ho h0)⟩
  obtain ⟨i1, h1, h2, h3⟩ := h.inf o i hi
  obtain ⟨i2, k1, k2, k3⟩ := k.inf o i1 h1
  refine ⟨i2, k1, Nat.le_trans h2 k2, fun e => ?_⟩
  have e1 : i1.ver = i.ver := by omega
  rw [k3 (by omega), h3 e1]

theorem cell_of_heap {w w' : World} {a : Addr} (h : w'.heap[a.block]? = w.heap[a.block]?) : w'.cell? a = w.cell? a := by
  unfold World.cell?; rw [h]
theorem add_block' (a : Addr) (n : Nat) : (a.add n).block = a.block := by unfold Addr.add; split <;> rfl

theorem V.ext {c c' : Cx} {w w' : World} (e : Ext c w c' w') {a : AV} {v : Value} (h : V c w a v) : V c' w' a v := by
  induction h with
  | bad v => exact .bad v
  | und => exact .und
  | mb x => exact .mb x
  | i k n => exact .i k n
  | b x => exact .b x
  | s x => exact .s x
  | nilp => exact .nilp
  | nilf => exact .nilf
  | nili => exact .nili
  | nils A => exact .nils A
  | ptr o off a i hi h =>
    obtain ⟨i', h1, h2, h3⟩ := e.inf o i hi
    refine .ptr o off a i' h1 fun h0 => ?_
    have : i' = i := h3 (by omega)
    subst this
    exact h h0
  | eptr o ver j off a i hi hv h =>
    obtain ⟨i', h1, h2, h3⟩ := e.inf o i hi
    refine .eptr o ver j off a i' h1 (Nat.le_trans hv h2) fun h0 => ?_
    have : i' = i := h3 (by omega)
    subst this
    exact h h0
  | own o ver A n cp i hi hv h =>
    obtain ⟨i', h1, h2, h3⟩ := e.inf o i hi
    refine .own o ver A n cp i' h1 (Nat.le_trans hv h2) fun h0 => ?_
    have : i' = i := h3 (by omega)
    subst this
    exact h h0
  | sub o ver lo m A n cp i hi hv h =>
    obtain ⟨i', h1, h2, h3⟩ := e.inf o i hi
    refine .sub o ver lo m A n cp i' h1 (Nat.le_trans hv h2) fun h0 => ?_
    have : i' = i := h3 (by omega)
    subst this
    exact h h0
  | nst o j q v i hi h =>
    obtain ⟨i', h1, h2, h3⟩ := e.inf o i hi
    refine .nst o j q v i' h1 fun h0 => ?_
    have : i' = i := h3 (by omega)
    subst this
    exact h h0
  | lst t xs A cp g hn ha h ih =>
    refine .lst t xs A cp g hn (fun h0 => ?_) ih
    obtain ⟨a, rfl, hF, hc⟩ := ha h0
    refine ⟨a, rfl, e.F _ hF, fun j hj => ?_⟩
    rw [cell_of_heap (w := w)]
    · exact hc j hj
    · rw [add_block']; exact e.heap _ hF
  | rp cs a g hF hc h ih =>
    refine .rp cs a g (e.F _ hF) (fun j hj => ?_) ih
    rw [cell_of_heap (w := w)]
    · exact hc j hj
    · rw [add_block']; exact e.heap _ hF
  | fn f cs vs hs h ih => exact .fn f cs vs hs ih
  | agg cs vs hs h1 h ih => exact .agg cs vs hs h1 ih
  | tup cs vs hs h ih => exact .tup cs vs hs ih
  | mp o b i hi h =>
    obtain ⟨i', h1, h2, h3⟩ := e.inf o i hi
    refine .mp o b i' h1 fun h0 => ?_
    have : i' = i := h3 (by omega)
    subst this
    exact h h0

/-- names that are changed -/
structure Ren (ρ : Nat → Nat → Option (Nat × Nat)) (c : Cx) (w : World) (c' : Cx) (w' : World) : Prop where
  F : ∀ b, c.F b → c'.F b
  inf : ∀ o v o' v', ρ o v = some (o', v') → ∀ i, c.inf o = some i → v ≤ i.ver → ∃ i', c'.inf o' = some i' ∧ v' ≤ i'.ver ∧ (v' = i'.ver → v = i.ver ∧ i'.blk = i.blk ∧ i'.off = i.off ∧ i'.cap = i.cap ∧ i'.len = i.len ∧ i'.sz = i.sz ∧ i'.N = i.N)
  heap : ∀ b, c.F b → w'.heap[b]? = w.heap[b]?

theorem renL_get (ρ : Nat → Nat → Option (Nat × Nat)) : ∀ (cs : List AV) (j : Nat), (ren.renL ρ cs)[j]? = (cs[j]?).map (ren ρ)
  | [], j => by simp [ren.renL]
  | a :: r, 0 => by simp [ren.renL]
  | a :: r, j + 1 => by simp [ren.renL, renL_get ρ r j]
theorem renL_len (ρ : Nat → Nat → Option (Nat × Nat)) : ∀ cs : List AV, (ren.renL ρ cs).length = cs.length
  | [] => by simp [ren.renL]
  | a :: r => by simp [ren.renL, renL_len ρ r]

theorem view_len : ∀ (t : Ty) (x : t.D), (view t x).length = t.sz
  | .i k, _ => rfl
  | .b, _ => rfl
  | .s, _ => rfl
  | .u, _ => rfl
  | .sl t, _ => rfl
  | .pr a b, x => by simp [view, Ty.sz, view_len a x.1, view_len b x.2]
theorem view_ren (ρ : Nat → Nat → Option (Nat × Nat)) : ∀ (t : Ty) (x : t.D) (q : Nat) (y : AV), (view t x)[q]? = some y → ren ρ y = y
  | .i k, x, q, y, h => by cases q <;> simp [view] at h; subst h; rfl
  | .b, x, q, y, h => by cases q <;> simp [view] at h; subst h; rfl
  | .s, x, q, y, h => by cases q <;> simp [view] at h; subst h; rfl
  | .u, x, q, y, h => by simp [view] at h
  | .sl t, x, q, y, h => by cases q <;> simp [view] at h; subst h; rfl
  | .pr a b, x, q, y, h => by
    simp only [view, List.getElem?_append] at h
    split at h
    · exact view_ren ρ a x.1 _ _ h
    · exact view_ren ρ b x.2 _ _ h

theorem Hd.same {i i' : Inf} {lo n : Nat} {v : Value} (h : Hd i lo n v) (hb : i'.blk = i.blk) (ho : i'.off = i.off) (hc : i'.cap = i.cap) (hs : i'.sz = i.sz) : Hd i' lo n v := by
  unfold Hd at *
  rw [hb, ho, hc, hs]
  exact h

theorem V.ren {ρ : Nat → Nat → Option (Nat × Nat)} {c c' : Cx} {w w' : World} (e : Ren ρ c w c' w') {a : AV} {v : Value} (h : V c w a v) : V c' w' (ren ρ a) v := by
  induction h with
  | bad v => exact .bad v
  | und => exact .und
  | mb x => exact .mb x
  | i k n => exact .i k n
  | b x => exact .b x
  | s x => exact .s x
  | nilp => exact .nilp
  | nilf => exact .nilf
  | nili => exact .nili
  | nils A => exact .nils A
  | ptr o off a i hi h =>
    simp only [Am.ren]
    split
    · rename_i o' v' hr
      obtain ⟨i', h1, h2, h3⟩ := e.inf o 0 o' v' hr i hi (Nat.zero_le _)
      refine .ptr o' off a i' h1 fun h0 => ?_
      obtain ⟨k0, k1, _⟩ := h3 (by omega)
      rw [k1]
      exact h k0.symm
    · exact .bad _
  | eptr o ver j off a i hi hv h =>
    simp only [Am.ren]
    split
    · rename_i o' v' hr
      obtain ⟨i', h1, h2, h3⟩ := e.inf o ver o' v' hr i hi hv
      refine .eptr o' v' j off a i' h1 h2 fun h0 => ?_
      obtain ⟨k0, k1, k2, k3, k4, k5, k6⟩ := h3 h0
      rw [k1, k2, k4, k5]
      exact h k0
    · exact .bad _
  | own o ver A n cp i hi hv h =>
    simp only [Am.ren]
    split
    · rename_i o' v' hr
      obtain ⟨i', h1, h2, h3⟩ := e.inf o ver o' v' hr i hi hv
      refine .own o' v' A n cp i' h1 h2 fun h0 => ?_
      obtain ⟨k0, k1, k2, k3, k4, k5, k6⟩ := h3 h0
      rw [k4]
      exact (h k0).same k1 k2 k3 k5
    · exact .bad _
  | sub o ver lo m A n cp i hi hv h =>
    simp only [Am.ren]
    split
    · rename_i o' v' hr
      obtain ⟨i', h1, h2, h3⟩ := e.inf o ver o' v' hr i hi hv
      refine .sub o' v' lo m A n cp i' h1 h2 fun h0 => ?_
      obtain ⟨k0, k1, k2, k3, k4, k5, k6⟩ := h3 h0
      rw [k4]
      exact ⟨(h k0).1, (h k0).2.same k1 k2 k3 k5⟩
    · exact .bad _
  | nst o j q v i hi h =>
    simp only [Am.ren]
    split
    · rename_i o' v' hr
      obtain ⟨i', h1, h2, h3⟩ := e.inf o 0 o' v' hr i hi (Nat.zero_le _)
      refine .nst o' j q v i' h1 fun h0 => ?_
      obtain ⟨k0, k1, k2, k3, k4, k5, k6⟩ := h3 (by omega)
      rw [k6, k4]
      exact h k0.symm
    · exact .bad _
  | lst t xs A cp g hn ha h ih =>
    simp only [Am.ren]
    refine .lst t xs A cp g hn (fun h0 => ?_) (fun j x hx q y hy => ?_)
    · obtain ⟨a, rfl, hF, hc⟩ := ha h0
      refine ⟨a, rfl, e.F _ hF, fun j hj => ?_⟩
      rw [cell_of_heap (w := w)]
      · exact hc j hj
      · rw [add_block']; exact e.heap _ hF
    · have := ih j x hx q y hy
      rwa [view_ren ρ t x q y hy] at this
  | rp cs a g hF hc h ih =>
    simp only [Am.ren]
    refine .rp _ a g (e.F _ hF) (fun j hj => ?_) (fun j y hy => ?_)
    · rw [cell_of_heap (w := w)]
      · exact hc j (by rw [renL_len] at hj; exact hj)
      · rw [add_block']; exact e.heap _ hF
    · rw [renL_get] at hy
      obtain ⟨z, hz, rfl⟩ := Option.map_eq_some_iff.1 hy
      exact ih j z hz
  | fn f cs vs hs h ih =>
    simp only [Am.ren]
    refine .fn f _ vs (by rw [hs, renL_len]) fun j y hy => ?_
    rw [renL_get] at hy
    obtain ⟨z, hz, rfl⟩ := Option.map_eq_some_iff.1 hy
    exact ih j z hz
  | agg cs vs hs h1 h ih =>
    simp only [Am.ren]
    refine .agg _ vs (by rw [hs, renL_len]) (fun j hj => h1 j (by rw [renL_len] at hj; exact hj)) fun j y hy => ?_
    rw [renL_get] at hy
    obtain ⟨z, hz, rfl⟩ := Option.map_eq_some_iff.1 hy
    exact ih j z hz
  | mp o b i hi h =>
    simp only [Am.ren]
    split
    · rename_i o' v' hr
      obtain ⟨i', h1, h2, h3⟩ := e.inf o 0 o' v' hr i hi (Nat.zero_le _)
      refine .mp o' b i' h1 fun h0 => ?_
      obtain ⟨k0, k1, _⟩ := h3 (by omega)
      rw [k1]
      exact h k0.symm
    · exact .bad _
  | tup cs vs hs h ih =>
    simp only [Am.ren]
    refine .tup _ vs (by rw [hs, renL_len]) fun j y hy => ?_
    rw [renL_get] at hy
    obtain ⟨z, hz, rfl⟩ := Option.map_eq_some_iff.1 hy
    exact ih j z hz

theorem immL_get : ∀ (cs : List AV) (j : Nat) (y : AV), imm.immL cs = false → cs[j]? = some y → imm y = false
  | [], j, y, _, h => by simp at h
  | a :: r, 0, y, hi, h => by
    simp [imm.immL] at hi h
    subst h
    exact hi.1
  | a :: r, j + 1, y, hi, h => by
    simp [imm.immL] at hi h
    exact immL_get r j y hi.2 h
/-- what holds no rows that stay hangs on no block that stays -/
theorem V.noimm {c c' : Cx} {w : World} {a : AV} {v : Value} (h : V c w a v) (w' : World) (he : c'.inf = c.inf) (hm : imm a = false) : V c' w' a v := by
  induction h with
  | bad v => exact .bad v
  | und => exact .und
  | mb x => exact .mb x
  | i k n => exact .i k n
  | b x => exact .b x
  | s x => exact .s x
  | nilp => exact .nilp
  | nilf => exact .nilf
  | nili => exact .nili
  | nils A => exact .nils A
  | ptr o off a i hi h => exact .ptr o off a i (he ▸ hi) h
  | eptr o ver j off a i hi hv h => exact .eptr o ver j off a i (he ▸ hi) hv h
  | own o ver A n cp i hi hv h => exact .own o ver A n cp i (he ▸ hi) hv h
  | sub o ver lo m A n cp i hi hv h => exact .sub o ver lo m A n cp i (he ▸ hi) hv h
  | nst o j q v i hi h => exact .nst o j q v i (he ▸ hi) h
  | lst t xs A cp g hn ha h ih => simp [imm] at hm
  | rp cs a g hF hc h ih => simp [imm] at hm
  | fn f cs vs hs h ih => exact .fn f cs vs hs fun j y hy => ih j y hy (immL_get cs j y (by simpa [imm] using hm) hy)
  | agg cs vs hs h1 h ih => exact .agg cs vs hs h1 fun j y hy => ih j y hy (immL_get cs j y (by simpa [imm] using hm) hy)
  | tup cs vs hs h ih => exact .tup cs vs hs fun j y hy => ih j y hy (immL_get cs j y (by simpa [imm] using hm) hy)
  | mp o b i hi h => exact .mp o b i (he ▸ hi) h

/-- the cells of a value -/
def Cl (c : Cx) (w : World) (cs : List AV) (vs : Array Value) : Prop := vs.size = cs.length ∧ (∀ j, j < cs.length → (vs.getD j undef).oneCell' = true) ∧ ∀ j y, cs[j]? = some y → V c w y (vs.getD j undef)
theorem Cl.ext {c c' : Cx} {w w' : World} (e : Ext c w c' w') {cs : List AV} {vs : Array Value} (h : Cl c w cs vs) : Cl c' w' cs vs := ⟨h.1, h.2.1, fun j y hy => (h.2.2 j y hy).ext e⟩
theorem Cl.one {c : Cx} {w : World} {a : AV} {v : Value} (h : V c w a v) (h1 : v.oneCell' = true) : Cl c w [a] #[v] := by
  refine ⟨rfl, fun j hj => ?_, fun j y hy => ?_⟩
  · have : j = 0 := by simpa using hj
    subst this
    exact h1
  · cases j with
    | zero => simp at hy; subst hy; exact h
    | succ j => simp at hy
theorem V.cells {c : Cx} {w : World} {a : AV} {v : Value} (h : V c w a v) {cs : List AV} (hc : cellsA a = some cs) : Cl c w cs v.cells := by
  cases h <;> simp only [cellsA, Option.some.injEq, reduceCtorEq] at hc <;> subst hc
  case agg vs hs h1 h => exact ⟨hs, h1, h⟩
  all_goals exact Cl.one (by constructor <;> assumption) rfl

/-! ### objects in memory -/
/-- the elements of a row in a block -/
def Cells (c : Cx) (w : World) (arr : Array Value) (off : Nat) (t : Ty) (xs : List t.D) : Prop :=
  ∀ j x, xs[j]? = some x → ∀ q y, (view t x)[q]? = some y → V c w y (arr.getD (off + (j * t.sz + q)) undef) ∧ (arr.getD (off + (j * t.sz + q)) undef).oneCell' = true
theorem Cells.ext {c c' : Cx} {w w' : World} (e : Ext c w c' w') {arr : Array Value} {off : Nat} {t : Ty} {xs : List t.D} (h : Cells c w arr off t xs) : Cells c' w' arr off t xs :=
  fun j x hx q y hy => ⟨(h j x hx q y hy).1.ext e, (h j x hx q y hy).2⟩

/-- a row's block -/
def RowB (c : Cx) (w : World) (i : Inf) (t : Ty) (xs : List t.D) (imm : Prop) : Prop :=
  (i.blk = none ∧ i.cap = 0) ∨ ∃ b arr e, i.blk = some b ∧ w.heap[b]? = some (.cells arr e (0, 0)) ∧ i.off + i.cap * t.sz ≤ arr.size ∧ Cells c w arr i.off t xs ∧ (c.F b ↔ imm)

/-- a row inside a row of one's own -/
def Nest (w : World) (S : Nat → Prop) (u : Ty) (l : List u.D) (v : Value) : Prop :=
  ∃ A cp, v = .slice A l.length cp ∧ l.length ≤ cp ∧ immT u = false ∧ (0 < cp → ∃ b off arr e, A = some ⟨b, off, none⟩ ∧ S b ∧ w.heap[b]? = some (.cells arr e (0, 0)) ∧ off + cp * u.sz ≤ arr.size ∧ Cells ⟨fun _ => none, fun _ => False⟩ w arr off u l)
/-- a cell of a row of rows -/
def NC (w : World) (i : Inf) (j q : Nat) (y : AV) (v : Value) : Prop :=
  v.oneCell' = true ∧ (∀ u l, y = .lst u l → v = i.N j q ∧ Nest w i.S u l v) ∧ (imm y = false → V ⟨fun _ => none, fun _ => False⟩ w y v)
/-- the block of a row that has room -/
def nb : Value → Option Nat
  | .slice (some a) _ (_ + 1) => some a.block
  | _ => none
/-- the block of a row of rows -/
def TreeB (w : World) (i : Inf) (t : Ty) (xs : List t.D) : Prop :=
  (i.blk = none ∧ i.cap = 0) ∨ ∃ b arr e, i.blk = some b ∧ w.heap[b]? = some (.cells arr e (0, 0)) ∧ i.off + i.cap * t.sz ≤ arr.size ∧ ¬ i.S b ∧
    (∀ j x, xs[j]? = some x → ∀ q y, (view t x)[q]? = some y → NC w i j q y (arr.getD (i.off + (j * t.sz + q)) undef)) ∧
    ∀ j q j' q' b x x' u l u' l', xs[j]? = some x → (view t x)[q]? = some (.lst u l) → xs[j']? = some x' → (view t x')[q']? = some (.lst u' l') → nb (i.N j q) = some b → nb (i.N j' q') = some b → j = j' ∧ q = q'

/-- a map's entries -/
def Ents (arr : Array MapEntry) (es : List (Int × Bool)) : Prop := arr.toList.map (fun x => (x.key, x.val)) = es.map fun p => (Value.int .i64 p.1, Value.bool p.2)
def OR (c : Cx) (w : World) (o : Nat) : AO → Prop
  | .dead => True
  | .box cs => ∃ i b arr e, c.inf o = some i ∧ i.ver = 0 ∧ i.blk = some b ∧ w.heap[b]? = some (.cells arr e (0, 0)) ∧ Cl c w cs arr ∧ ¬ c.F b
  | .row v t xs => ∃ i, c.inf o = some i ∧ i.ver = v ∧ i.len = xs.length ∧ i.sz = t.sz ∧ xs.length ≤ i.cap ∧ RowB c w i t xs False
  | .fro v t xs => ∃ i, c.inf o = some i ∧ i.ver = v ∧ i.len = xs.length ∧ i.sz = t.sz ∧ xs.length ≤ i.cap ∧ RowB c w i t xs True
  | .tree t xs => ∃ i, c.inf o = some i ∧ i.ver = 0 ∧ i.len = xs.length ∧ i.sz = t.sz ∧ xs.length ≤ i.cap ∧ (∀ b, i.blk = some b ∨ i.S b → b < w.heap.size ∧ ¬ c.F b) ∧ TreeB w i t xs
  | .mpo es => ∃ i b arr k, c.inf o = some i ∧ i.ver = 0 ∧ i.blk = some b ∧ w.heap[b]? = some (.map arr k) ∧ Ents arr es ∧ ¬ c.F b
  | .fwd k => ∃ i i', c.inf o = some i ∧ c.inf k = some i' ∧ i.ver = 0 ∧ (i'.ver = 0 → i'.blk = i.blk ∧ i'.off = i.off ∧ i'.cap = i.cap ∧ i'.len = i.len ∧ i'.sz = i.sz)

def live : AO → Bool
  | .box _ => true
  | .row _ _ _ => true
  | .tree _ _ => true
  | .mpo _ => true
  | _ => false
/-- the blocks of an object -/
def ofB : AO → Inf → Nat → Prop
  | .tree _ _, i, b => i.blk = some b ∨ i.S b
  | _, i, b => i.blk = some b
@[simp] theorem ofB_box (cs : List AV) (i : Inf) (b : Nat) : ofB (.box cs) i b = (i.blk = some b) := rfl
@[simp] theorem ofB_row (v : Nat) (t : Ty) (xs : List t.D) (i : Inf) (b : Nat) : ofB (.row v t xs) i b = (i.blk = some b) := rfl
@[simp] theorem ofB_fro (v : Nat) (t : Ty) (xs : List t.D) (i : Inf) (b : Nat) : ofB (.fro v t xs) i b = (i.blk = some b) := rfl
@[simp] theorem ofB_dead (i : Inf) (b : Nat) : ofB .dead i b = (i.blk = some b) := rfl
@[simp] theorem ofB_fwd (k : Nat) (i : Inf) (b : Nat) : ofB (.fwd k) i b = (i.blk = some b) := rfl
@[simp] theorem ofB_mpo (es : List (Int × Bool)) (i : Inf) (b : Nat) : ofB (.mpo es) i b = (i.blk = some b) := rfl
@[simp] theorem ofB_tree (t : Ty) (xs : List t.D) (i : Inf) (b : Nat) : ofB (.tree t xs) i b = (i.blk = some b ∨ i.S b) := rfl
theorem ofB_blk {x : AO} {i : Inf} {b : Nat} (h : i.blk = some b) : ofB x i b := by cases x <;> simp [h]

/-- memory: the objects, and what was there before -/
structure Base where
  W : World
  M : Nat → Prop
  F : Nat → Prop
  I : Nat → Option Inf
structure Mem (B : Base) (c : Cx) (ob : Nat → Option AO) (w : World) : Prop where
  os : w.os = B.W.os
  tape : w.tape = B.W.tape
  output : w.output = B.W.output
  size : B.W.heap.size ≤ w.heap.size
  frame : ∀ b, b < B.W.heap.size → ¬ B.M b → w.heap[b]? = B.W.heap[b]?
  obj : ∀ o x, ob o = some x → OR c w o x
  dom : ∀ o i, c.inf o = some i → ∃ x, ob o = some x
  inj : ∀ o o' x x' i i' b, ob o = some x → ob o' = some x' → live x = true → live x' = true → c.inf o = some i → c.inf o' = some i' → ofB x i b → ofB x' i' b → o = o'
  F : ∀ b, c.F b → b < w.heap.size
  own : ∀ o x i b, ob o = some x → live x = true → c.inf o = some i → ofB x i b → B.M b ∨ B.W.heap.size ≤ b
  F0 : ∀ b, B.F b → c.F b
  Fn : ∀ b, c.F b → B.F b ∨ B.M b ∨ B.W.heap.size ≤ b

def Tms (c : Cx) (w : World) (st : St) (a : Act) : Prop := ∀ t, V c w (st.get t) (a.tmps.getD t undef)

def fup (ob : Nat → Option AO) : List (Nat × AO) → Nat → Option AO
  | [] => ob
  | (k, x) :: r => fup (fun o => if o = k then some x else ob o) r
theorem beq_ne {k o : Nat} (h : k ≠ o) : Nat.beq k o = false := by
  cases e : Nat.beq k o with
  | true => exact absurd (Nat.eq_of_beq_eq_true e) h
  | false => rfl
theorem look_upd {α : Type} (l : List (Nat × α)) (k : Nat) (x : α) (o : Nat) : look (upd l k x) o = if o = k then some x else look l o := by
  induction l with
  | nil =>
    simp only [upd, look]
    by_cases h : o = k
    · subst h; simp
    · have : Nat.beq k o = false := beq_ne fun e => h e.symm
      simp [this, h]
  | cons p r ih =>
    obtain ⟨q, y⟩ := p
    simp only [upd]
    cases hq : Nat.beq q k with
    | true =>
      have : q = k := Nat.eq_of_beq_eq_true hq
      subst this
      simp only [look]
      by_cases h : o = q
      · subst h; simp
      · have : Nat.beq q o = false := beq_ne fun e => h e.symm
        simp [this, h]
    | false =>
      have hne : q ≠ k := Nat.ne_of_beq_eq_false hq
      simp only [look, ih]
      cases hqo : Nat.beq q o with
      | true =>
        have : q = o := Nat.eq_of_beq_eq_true hqo
        subst this
        simp [hne]
      | false => simp
theorem look_upds (u : List (Nat × AO)) : ∀ l : List (Nat × AO), look (upds l u) = fup (look l) u := by
  induction u with
  | nil => intro l; rfl
  | cons p r ih =>
    intro l
    obtain ⟨k, x⟩ := p
    simp only [upds, fup]
    rw [ih]
    congr 1
    funext o
    exact look_upd l k x o
end Go.Proofs.YtafjengmkiepbaaGreat.Am
end
section
/- Memory that goes on: an object is made, written, frozen. -/
namespace Go.Proofs.YtafjengmkiepbaaGreat.Am
open Go
set_option linter.constructorNameAsVariable false
set_option linter.unusedVariables false
set_option linter.unusedSimpArgs false

def Cx.set (c : Cx) (k : Nat) (i : Inf) : Cx := ⟨fun o => if o = k then some i else c.inf o, c.F⟩
theorem Cx.set_eq (c : Cx) (k : Nat) (i : Inf) : (c.set k i).inf k = some i := by simp [Cx.set]
theorem Cx.set_ne (c : Cx) {k o : Nat} (i : Inf) (h : o ≠ k) : (c.set k i).inf o = c.inf o := by simp [Cx.set, h]

theorem newId_big (d r : Nat) : 1000 ≤ newId d r := by unfold newId; omega
/-- the block of an object -/
def Blk (c : Cx) (ob : Nat → Option AO) (k b : Nat) : Prop := ∃ x i, ob k = some x ∧ live x = true ∧ c.inf k = some i ∧ ofB x i b

theorem view_imm : ∀ (t : Ty) (x : t.D) (q : Nat) (y : AV), immT t = false → (view t x)[q]? = some y → imm y = false
  | .i k, x, q, y, _, h => by cases q <;> simp [view] at h; subst h; rfl
  | .b, x, q, y, _, h => by cases q <;> simp [view] at h; subst h; rfl
  | .s, x, q, y, _, h => by cases q <;> simp [view] at h; subst h; rfl
  | .u, x, q, y, _, h => by simp [view] at h
  | .sl t, x, q, y, hi, h => by simp [immT] at hi
  | .pr a b, x, q, y, hi, h => by
    simp only [immT, Bool.or_eq_false_iff] at hi
    simp only [view, List.getElem?_append] at h
    split at h
    · exact view_imm a x.1 _ _ hi.1 h
    · exact view_imm b x.2 _ _ hi.2 h
/-- data hangs on the blocks that stay alone -/
theorem view_mv {c c' : Cx} {w w' : World} (hF : ∀ b, c.F b → c'.F b) (hh : ∀ b, c.F b → w'.heap[b]? = w.heap[b]?) {t : Ty} {x : t.D} {q : Nat} {y : AV} (hy : (view t x)[q]? = some y) {v : Value} (h : V c w y v) : V c' w' y v := by
  have := h.ren (ρ := fun _ _ => none) (c' := c') (w' := w') ⟨hF, (fun _ _ _ _ h => nomatch h), hh⟩
  rwa [view_ren _ t x q y hy] at this
theorem cells_mv {w w' : World} {arr : Array Value} {off : Nat} {u : Ty} {l : List u.D} {c : Cx} (h : Cells ⟨fun _ => none, fun _ => False⟩ w arr off u l) : Cells c w' arr off u l := fun j x hx q y hy => ⟨view_mv (c := ⟨fun _ => none, fun _ => False⟩) (fun _ h => h.elim) (fun _ h => h.elim) hy (h j x hx q y hy).1, (h j x hx q y hy).2⟩
theorem Nest.mv {w w' : World} {S : Nat → Prop} {u : Ty} {l : List u.D} {v : Value} (h : Nest w S u l v) (hh : ∀ b, S b → w'.heap[b]? = w.heap[b]?) : Nest w' S u l v := by
  obtain ⟨A, cp, h1, h2, h3, h4⟩ := h
  refine ⟨A, cp, h1, h2, h3, fun h0 => ?_⟩
  obtain ⟨b, off, arr, e, k1, k2, k3, k4, k5⟩ := h4 h0
  exact ⟨b, off, arr, e, k1, k2, (hh b k2).trans k3, k4, cells_mv k5⟩
theorem TreeB.mv {w w' : World} {i : Inf} {t : Ty} {xs : List t.D} (h : TreeB w i t xs) (hh : ∀ b, i.blk = some b ∨ i.S b → w'.heap[b]? = w.heap[b]?) : TreeB w' i t xs := by
  rcases h with h | ⟨b, arr, e, h1, h2, h3, h4, h5, h6⟩
  · exact .inl h
  · exact .inr ⟨b, arr, e, h1, (hh b (.inl h1)).trans h2, h3, h4, fun j x hx q y hy => by
      obtain ⟨k1, k2, k3⟩ := h5 j x hx q y hy
      exact ⟨k1, fun u l e => ⟨(k2 u l e).1, (k2 u l e).2.mv fun b hb => hh b (.inr hb)⟩, fun hm => view_mv (c := ⟨fun _ => none, fun _ => False⟩) (fun _ h => h.elim) (fun _ h => h.elim) hy (k3 hm)⟩, h6⟩

theorem RowB.ext {c c' : Cx} {w w' : World} {i : Inf} {t : Ty} {xs : List t.D} {p : Prop} (h : RowB c w i t xs p) (e : Ext c w c' w') (hb : ∀ b, i.blk = some b → (∃ ob, w.heap[b]? = some ob) → w'.heap[b]? = w.heap[b]? ∧ (c'.F b ↔ c.F b)) : RowB c' w' i t xs p := by
  rcases h with h | ⟨b, arr, el, h1, h2, h3, h4, h5⟩
  · exact .inl h
  · obtain ⟨k1, k2⟩ := hb b h1 ⟨_, h2⟩
    exact .inr ⟨b, arr, el, h1, k1.trans h2, h3, h4.ext e, k2.trans h5⟩
theorem OR.ext {c c' : Cx} {w w' : World} {o : Nat} {x : AO} (h : OR c w o x) (e : Ext c w c' w') (hi : c'.inf o = c.inf o) (hb : isDead x = false → ∀ i b, c.inf o = some i → ofB x i b → (∃ ob, w.heap[b]? = some ob) → w'.heap[b]? = w.heap[b]? ∧ (c'.F b ↔ c.F b)) : OR c' w' o x := by
  cases x with
  | dead => trivial
  | box cs =>
    obtain ⟨i, b, arr, el, h1, h2, h3, h4, h5, h6⟩ := h
    obtain ⟨k1, k2⟩ := hb rfl i b h1 h3 ⟨_, h4⟩
    exact ⟨i, b, arr, el, hi.trans h1, h2, h3, k1.trans h4, h5.ext e, fun hF => h6 (k2.1 hF)⟩
  | row v t xs =>
    obtain ⟨i, h1, h2, h3, h4, h5, h6⟩ := h
    exact ⟨i, hi.trans h1, h2, h3, h4, h5, h6.ext e (hb rfl i · h1)⟩
  | fro v t xs =>
    obtain ⟨i, h1, h2, h3, h4, h5, h6⟩ := h
    exact ⟨i, hi.trans h1, h2, h3, h4, h5, h6.ext e (hb rfl i · h1)⟩
  | tree t xs =>
    obtain ⟨i, h1, h2, h3, h4, h5, h6, h7⟩ := h
    have at' : ∀ b, i.blk = some b ∨ i.S b → w'.heap[b]? = w.heap[b]? ∧ (c'.F b ↔ c.F b) := fun b hB => hb rfl i b h1 hB ⟨_, Array.getElem?_eq_getElem (h6 b hB).1⟩
    refine ⟨i, hi.trans h1, h2, h3, h4, h5, fun b hB => ⟨?_, fun hF => (h6 b hB).2 ((at' b hB).2.1 hF)⟩, h7.mv fun b hB => (at' b hB).1⟩
    have := (at' b hB).1
    rw [Array.getElem?_eq_getElem (h6 b hB).1] at this
    exact (Array.getElem?_eq_some_iff.1 this).1
  | mpo es =>
    obtain ⟨i, b, arr, el, h1, h2, h3, h4, h5, h6⟩ := h
    obtain ⟨k1, k2⟩ := hb rfl i b h1 h3 ⟨_, h4⟩
    exact ⟨i, b, arr, el, hi.trans h1, h2, h3, k1.trans h4, h5, fun hF => h6 (k2.1 hF)⟩
  | fwd k =>
    obtain ⟨i, i', h1, h2, h3, h4⟩ := h
    obtain ⟨i2, k1, k2, k3⟩ := e.inf k i' h2
    refine ⟨i, i2, hi.trans h1, k1, h3, fun h0 => ?_⟩
    have := k3 (by omega)
    subst this
    exact h4 h0

theorem lt_of_some {w : World} {b : Nat} {o : Obj} (h : w.heap[b]? = some o) : b < w.heap.size := (Array.getElem?_eq_some_iff.1 h).1

/-- a live object's block is there and does not stay -/
theorem Mem.blk {B : Base} {c : Cx} {ob : Nat → Option AO} {w : World} (hm : Mem B c ob w) {k b : Nat} (h : Blk c ob k b) : b < w.heap.size ∧ ¬ c.F b := by
  obtain ⟨x, i, h1, h2, h3, h4⟩ := h
  have := hm.obj k x h1
  cases x with
  | dead => simp [live] at h2
  | fro v t xs => simp [live] at h2
  | fwd k => simp [live] at h2
  | box cs =>
    obtain ⟨i', b', arr, el, k1, k2, k3, k4, k5, k6⟩ := this
    rw [h3] at k1; cases k1
    have h4 : i.blk = some b := h4
    rw [h4] at k3; cases k3
    exact ⟨lt_of_some k4, k6⟩
  | row v t xs =>
    obtain ⟨i', k1, k2, k3, k4, k5, k6⟩ := this
    rw [h3] at k1; cases k1
    rcases k6 with ⟨k6, _⟩ | ⟨b', arr, el, k6, k7, k8, k9, k10⟩
    · have h4 : i.blk = some b := h4
      rw [h4] at k6; cases k6
    · have h4 : i.blk = some b := h4
      rw [h4] at k6; cases k6
      exact ⟨lt_of_some k7, fun hF => k10.1 hF⟩
  | mpo es =>
    obtain ⟨i', b', arr, el, k1, k2, k3, k4, k5, k6⟩ := this
    rw [h3] at k1; cases k1
    have h4 : i.blk = some b := h4
    rw [h4] at k3; cases k3
    exact ⟨lt_of_some k4, k6⟩
  | tree t xs =>
    obtain ⟨i', k1, k2, k3, k4, k5, k6, k7⟩ := this
    rw [h3] at k1; cases k1
    exact k6 b h4
/-- a frozen object's block stays -/
theorem Mem.fro {B : Base} {c : Cx} {ob : Nat → Option AO} {w : World} (hm : Mem B c ob w) {k b : Nat} {v : Nat} {t : Ty} {xs : List t.D} (h : ob k = some (.fro v t xs)) {i : Inf} (hi : c.inf k = some i) (hb : i.blk = some b) : c.F b := by
  obtain ⟨i', k1, k2, k3, k4, k5, k6⟩ := hm.obj k _ h
  rw [hi] at k1; cases k1
  rcases k6 with ⟨k6, _⟩ | ⟨b', arr, el, k6, k7, k8, k9, k10⟩
  · rw [hb] at k6; cases k6
  · rw [hb] at k6; cases k6
    exact k10.2 trivial

/-- an object is made, or written -/
theorem Mem.put {B : Base} {c : Cx} {ob : Nat → Option AO} {w : World} (hm : Mem B c ob w) (k : Nat) (x' : AO) (i' : Inf) (w' : World)
    (hos : w'.os = w.os) (htape : w'.tape = w.tape) (hout : w'.output = w.output) (hsize : w.heap.size ≤ w'.heap.size)
    (hheap : ∀ b, b < w.heap.size → ¬ Blk c ob k b → w'.heap[b]? = w.heap[b]?)
    (hk : ∀ i, c.inf k = some i → i.ver ≤ i'.ver ∧ (i'.ver = i.ver → i' = i))
    (hor : Ext c w (c.set k i') w' → OR (c.set k i') w' k x')
    (hblk : ∀ b, live x' = true → ofB x' i' b → Blk c ob k b ∨ w.heap.size ≤ b) (hnw : c.inf k = none → 1000 ≤ k := by first | assumption | exact fun _ => newId_big _ _ | (intro hnone; simp_all; done)) :
    Mem B (c.set k i') (fup ob [(k, x')]) w' ∧ Ext c w (c.set k i') w' := by
  have hext : Ext c w (c.set k i') w' := by
    refine ⟨fun b h => h, fun o i hi => ?_, fun b hF => ?_, fun o ho h0 => ?_⟩
    · by_cases ho : o = k
      · subst ho
        exact ⟨i', Cx.set_eq _ _ _, (hk i hi).1, (hk i hi).2⟩
      · exact ⟨i, (Cx.set_ne c i' ho).trans hi, Nat.le_refl _, fun _ => rfl⟩
    · exact hheap b (hm.F b hF) fun hB => (hm.blk hB).2 hF
    · have hne : o ≠ k := fun e => by
        subst e
        have := hnw h0
        omega
      rw [Cx.set_ne c i' hne]
      exact h0
  refine ⟨⟨hos.trans hm.os, htape.trans hm.tape, hout.trans hm.output, Nat.le_trans hm.size hsize, fun b hb hM => ?_, fun o x hx => ?_, fun o i hi => ?_, ?_, fun b hF => Nat.lt_of_lt_of_le (hm.F b hF) hsize, ?_, hm.F0, hm.Fn⟩, hext⟩
  · rw [hheap b (Nat.lt_of_lt_of_le hb hm.size), hm.frame b hb hM]
    rintro ⟨x, i, h1, h2, h3, h4⟩
    rcases hm.own k x i b h1 h2 h3 h4 with h | h
    · exact hM h
    · omega
  · by_cases ho : o = k
    · subst ho
      have hx' : x = x' := by simpa [fup] using hx.symm
      rw [hx']
      exact hor hext
    · have hx1 : ob o = some x := by simpa [fup, ho] using hx
      refine (hm.obj o x hx1).ext hext (Cx.set_ne c i' ho) fun hd i b hi hb hsome => ⟨?_, Iff.rfl⟩
      obtain ⟨obj, hobj⟩ := hsome
      refine hheap b (lt_of_some hobj) fun hB => ?_
      by_cases hl : live x = true
      · obtain ⟨y, i2, h1, h2, h3, h4⟩ := hB
        exact ho (hm.inj o k x y i i2 b hx1 h1 hl h2 hi h3 hb h4)
      · cases x with
        | dead => cases hd
        | fwd k => cases hd
        | box cs => simp [live] at hl
        | row v t xs => simp [live] at hl
        | tree t xs => simp [live] at hl
        | mpo es => simp [live] at hl
        | fro v t xs => exact (hm.blk hB).2 (hm.fro hx1 hi hb)
  · by_cases ho : o = k
    · subst ho
      exact ⟨x', by simp [fup]⟩
    · rw [Cx.set_ne c i' ho] at hi
      obtain ⟨x, hx⟩ := hm.dom o i hi
      exact ⟨x, by simp [fup, ho, hx]⟩
  · intro o o' x y i j b hx hy hlx hly hi hj hib hjb
    have old : ∀ o x, o ≠ k → fup ob [(k, x')] o = some x → ob o = some x := fun o x ho h => by simpa [fup, ho] using h
    have blkk : ∀ i, (c.set k i').inf k = some i → i = i' := fun i h => by rw [Cx.set_eq] at h; exact (Option.some.inj h).symm
    have xk : ∀ x, fup ob [(k, x')] k = some x → x = x' := fun x h => by simpa [fup] using h.symm
    have key : ∀ o x i, o ≠ k → ob o = some x → live x = true → c.inf o = some i → ofB x i b → live x' = true → ofB x' i' b → False := fun o x i ho h1 h2 h3 h4 h5 h6 => by
      rcases hblk b h5 h6 with hB | hB
      · obtain ⟨y, i2, k1, k2, k3, k4⟩ := hB
        exact ho (hm.inj o k x y i i2 b h1 k1 h2 k2 h3 k3 h4 k4)
      · have := (hm.blk ⟨x, i, h1, h2, h3, h4⟩).1
        omega
    by_cases ho : o = k
    · by_cases ho' : o' = k
      · rw [ho, ho']
      · exfalso
        subst ho
        rw [blkk i hi] at hib
        rw [xk x hx] at hlx hib
        rw [Cx.set_ne c i' ho'] at hj
        exact key o' y j ho' (old o' y ho' hy) hly hj hjb hlx hib
    · by_cases ho' : o' = k
      · exfalso
        subst ho'
        rw [blkk j hj] at hjb
        rw [xk y hy] at hly hjb
        rw [Cx.set_ne c i' ho] at hi
        exact key o x i ho (old o x ho hx) hlx hi hib hly hjb
      · rw [Cx.set_ne c i' ho] at hi
        rw [Cx.set_ne c i' ho'] at hj
        exact hm.inj o o' x y i j b (old o x ho hx) (old o' y ho' hy) hlx hly hi hj hib hjb
  · intro o x i b hx hl hi hb
    by_cases ho : o = k
    · subst ho
      rw [Cx.set_eq] at hi
      cases hi
      have hx' : x = x' := by simpa [fup] using hx.symm
      rw [hx'] at hl hb
      rcases hblk b hl hb with ⟨y, i2, k1, k2, k3, k4⟩ | hB
      · exact hm.own o y i2 b k1 k2 k3 k4
      · exact .inr (Nat.le_trans hm.size hB)
    · rw [Cx.set_ne c i' ho] at hi
      exact hm.own o x i b (by simpa [fup, ho] using hx) hl hi hb

/-- objects go into one that is new -/
theorem Mem.absorb {B : Base} {c : Cx} {ob ob' : Nat → Option AO} {w : World} (hm : Mem B c ob w) (K : List Nat) (k : Nat) (x' : AO) (i' : Inf) (w' : World)
    (hos : w'.os = w.os) (htape : w'.tape = w.tape) (hout : w'.output = w.output) (hsize : w.heap.size ≤ w'.heap.size)
    (hheap : ∀ b, b < w.heap.size → ¬ (∃ o, o ∈ K ∧ Blk c ob o b) → w'.heap[b]? = w.heap[b]?)
    (hk : ob k = none) (hk1 : 1000 ≤ k) (hnew : ob' k = some x')
    (hK : Ext c w (c.set k i') w' → ∀ o, o ∈ K → ∃ y, ob' o = some y ∧ live y = false ∧ isDead y = true ∧ OR (c.set k i') w' o y) (hrest : ∀ o, o ≠ k → ¬ o ∈ K → ob' o = ob o)
    (hor : Ext c w (c.set k i') w' → OR (c.set k i') w' k x')
    (hblk : ∀ b, ofB x' i' b → (∃ o, o ∈ K ∧ Blk c ob o b) ∨ w.heap.size ≤ b) :
    Mem B (c.set k i') ob' w' ∧ Ext c w (c.set k i') w' := by
  have hnone : c.inf k = none := by
    cases h : c.inf k with
    | none => rfl
    | some i => obtain ⟨x, hx⟩ := hm.dom k i h; rw [hk] at hx; cases hx
  have hext : Ext c w (c.set k i') w' := by
    refine ⟨fun b h => h, fun o i hi => ?_, fun b hF => ?_, fun o ho h0 => ?_⟩
    · have ho : o ≠ k := fun e => by subst e; rw [hnone] at hi; cases hi
      exact ⟨i, (Cx.set_ne c i' ho).trans hi, Nat.le_refl _, fun _ => rfl⟩
    · exact hheap b (hm.F b hF) fun ⟨o, _, hB⟩ => (hm.blk hB).2 hF
    · rw [Cx.set_ne c i' (by omega)]
      exact h0
  -- an object that is live behind it and is not the new one was there and is none of those
  have old : ∀ o x, o ≠ k → ob' o = some x → isDead x = false → ob o = some x ∧ ¬ o ∈ K := fun o x ho hx hd => by
    by_cases hK' : o ∈ K
    · obtain ⟨y, h1, _, h3, _⟩ := hK hext o hK'
      rw [hx] at h1; cases h1
      rw [hd] at h3; cases h3
    · exact ⟨by rw [← hrest o ho hK']; exact hx, hK'⟩
  have ldead : ∀ x : AO, live x = true → isDead x = false := fun x h => by cases x <;> first | rfl | simp [live] at h
  have far : ∀ o x i b, ob o = some x → isDead x = false → ¬ o ∈ K → c.inf o = some i → ofB x i b → ¬ ∃ o, o ∈ K ∧ Blk c ob o b := fun o x i b hx hd ho hi hb ⟨o2, h2, hB⟩ => by
    by_cases hl : live x = true
    · obtain ⟨y, j, h1, h3, h4, h5⟩ := hB
      have := hm.inj o o2 x y i j b hx h1 hl h3 hi h4 hb h5
      subst this
      exact ho h2
    · cases x with
      | dead => cases hd
      | fwd k => cases hd
      | box cs => simp [live] at hl
      | row v t xs => simp [live] at hl
      | tree t xs => simp [live] at hl
      | mpo es => simp [live] at hl
      | fro v t xs => exact (hm.blk hB).2 (hm.fro hx hi hb)
  refine ⟨⟨hos.trans hm.os, htape.trans hm.tape, hout.trans hm.output, Nat.le_trans hm.size hsize, fun b hb hM => ?_, fun o x hx => ?_, fun o i hi => ?_, ?_, fun b hF => Nat.lt_of_lt_of_le (hm.F b hF) hsize, ?_, hm.F0, hm.Fn⟩, hext⟩
  · rw [hheap b (Nat.lt_of_lt_of_le hb hm.size), hm.frame b hb hM]
    rintro ⟨o, _, x, i, h1, h2, h3, h4⟩
    rcases hm.own o x i b h1 h2 h3 h4 with h | h
    · exact hM h
    · omega
  · by_cases ho : o = k
    · subst ho
      rw [hnew] at hx; cases hx
      exact hor hext
    · by_cases hKo : o ∈ K
      · obtain ⟨y, h1, _, _, h4⟩ := hK hext o hKo
        rw [hx] at h1; cases h1
        exact h4
      · rw [hrest o ho hKo] at hx
        refine (hm.obj o x hx).ext hext (Cx.set_ne c i' ho) fun hd i b hi hb hsome => ⟨?_, Iff.rfl⟩
        obtain ⟨obj, hobj⟩ := hsome
        exact hheap b (lt_of_some hobj) (far o x i b hx hd hKo hi hb)
  · by_cases ho : o = k
    · subst ho; exact ⟨x', hnew⟩
    · rw [Cx.set_ne c i' ho] at hi
      obtain ⟨x, hx⟩ := hm.dom o i hi
      by_cases hKo : o ∈ K
      · obtain ⟨y, h1, _⟩ := hK hext o hKo
        exact ⟨y, h1⟩
      · exact ⟨x, by rw [hrest o ho hKo]; exact hx⟩
  · intro o o' x y i j b hx hy hlx hly hi hj hib hjb
    have key : ∀ o x i, o ≠ k → ob' o = some x → live x = true → (c.set k i').inf o = some i → ofB x i b → ofB x' i' b → False := fun o x i ho h1 h2 h3 h4 h5 => by
      obtain ⟨h1, hKo⟩ := old o x ho h1 (ldead x h2)
      rw [Cx.set_ne c i' ho] at h3
      rcases hblk b h5 with hB | hB
      · exact far o x i b h1 (ldead x h2) hKo h3 h4 hB
      · have := (hm.blk ⟨x, i, h1, h2, h3, h4⟩).1
        omega
    by_cases ho : o = k
    · by_cases ho' : o' = k
      · rw [ho, ho']
      · exfalso
        subst ho
        rw [Cx.set_eq] at hi; cases hi
        rw [hnew] at hx; cases hx
        exact key o' y j ho' hy hly hj hjb hib
    · by_cases ho' : o' = k
      · exfalso
        subst ho'
        rw [Cx.set_eq] at hj; cases hj
        rw [hnew] at hy; cases hy
        exact key o x i ho hx hlx hi hib hjb
      · rw [Cx.set_ne c i' ho] at hi
        rw [Cx.set_ne c i' ho'] at hj
        exact hm.inj o o' x y i j b (old o x ho hx (ldead x hlx)).1 (old o' y ho' hy (ldead y hly)).1 hlx hly hi hj hib hjb
  · intro o x i b hx hl hi hb
    by_cases ho : o = k
    · subst ho
      rw [Cx.set_eq] at hi; cases hi
      rw [hnew] at hx; cases hx
      rcases hblk b hb with ⟨o2, _, y, i2, k1, k2, k3, k4⟩ | hB
      · exact hm.own o2 y i2 b k1 k2 k3 k4
      · exact .inr (Nat.le_trans hm.size hB)
    · rw [Cx.set_ne c i' ho] at hi
      exact hm.own o x i b (old o x ho hx (ldead x hl)).1 hl hi hb

/-- draws of the tape -/
theorem Mem.drew {B : Base} {c : Cx} {ob : Nat → Option AO} {w : World} (hm : Mem B c ob w) (n : Nat) : Mem B c ob { w with drawn := n } ∧ Ext c w c { w with drawn := n } := by
  have e : Ext c w c { w with drawn := n } := ⟨fun _ h => h, fun _ i h => ⟨i, h, Nat.le_refl _, fun _ => rfl⟩, fun _ _ => rfl, fun _ _ h => h⟩
  exact ⟨⟨hm.os, hm.tape, hm.output, hm.size, hm.frame, fun o x h => (hm.obj o x h).ext e rfl fun _ _ _ _ _ _ => ⟨rfl, Iff.rfl⟩, hm.dom, hm.inj, hm.F, hm.own, hm.F0, hm.Fn⟩, e⟩

/-! ### frozen -/
def Cx.frz (c : Cx) (p : Nat → Prop) : Cx := ⟨c.inf, fun b => c.F b ∨ p b⟩
theorem Mem.freeze {B : Base} {c : Cx} {ob : Nat → Option AO} {w : World} (hm : Mem B c ob w) {k : Nat} {v : Nat} {t : Ty} {xs : List t.D} (hk : ob k = some (.row v t xs)) :
    Mem B (c.frz (Blk c ob k)) (fup ob [(k, .fro v t xs)]) w ∧ Ext c w (c.frz (Blk c ob k)) w := by
  have e : Ext c w (c.frz (Blk c ob k)) w := ⟨fun _ h => .inl h, fun _ i h => ⟨i, h, Nat.le_refl _, fun _ => rfl⟩, fun _ _ => rfl, fun _ _ h => h⟩
  refine ⟨⟨hm.os, hm.tape, hm.output, hm.size, hm.frame, fun o x h => ?_, fun o i hi => ?_, ?_, fun b hF => ?_, ?_, fun b h => .inl (hm.F0 b h), fun b hF => ?_⟩, e⟩
  · by_cases ho : o = k
    · subst ho
      have hx' : x = .fro v t xs := by simpa [fup] using h.symm
      subst hx'
      obtain ⟨i, h1, h2, h3, h4, h5, h6⟩ := hm.obj o _ hk
      refine ⟨i, h1, h2, h3, h4, h5, ?_⟩
      rcases h6 with h6 | ⟨b, arr, el, k1, k2, k3, k4, k5⟩
      · exact .inl h6
      · exact .inr ⟨b, arr, el, k1, k2, k3, k4.ext e, ⟨fun _ => trivial, fun _ => .inr ⟨_, i, hk, rfl, h1, k1⟩⟩⟩
    · have hx1 : ob o = some x := by simpa [fup, ho] using h
      refine (hm.obj o x hx1).ext e rfl fun hd i b hi hb hs => ⟨rfl, ⟨fun hF => ?_, .inl⟩⟩
      rcases hF with hF | ⟨y, i2, h1, h2, h3, h4⟩
      · exact hF
      · by_cases hl : live x = true
        · exact absurd (hm.inj o k x y i i2 b hx1 h1 hl h2 hi h3 hb h4) ho
        · cases x with
          | dead => cases hd
          | fwd k => cases hd
          | box cs => simp [live] at hl
          | row v t xs => simp [live] at hl
          | tree t xs => simp [live] at hl
          | mpo es => simp [live] at hl
          | fro v t xs => exact hm.fro hx1 hi hb
  · obtain ⟨x, hx⟩ := hm.dom o i hi
    by_cases ho : o = k
    · exact ⟨.fro v t xs, by simp [fup, ho]⟩
    · exact ⟨x, by simp [fup, ho, hx]⟩
  · intro o o' x y i j b hx hy hlx hly hi hj hib hjb
    have hne : ∀ o x, fup ob [(k, .fro v t xs)] o = some x → live x = true → ob o = some x := fun o x h hl => by
      by_cases ho : o = k
      · simp [fup, ho] at h; subst h; simp [live] at hl
      · simpa [fup, ho] using h
    exact hm.inj o o' x y i j b (hne o x hx hlx) (hne o' y hy hly) hlx hly hi hj hib hjb
  · rcases hF with hF | hB
    · exact hm.F b hF
    · exact (hm.blk hB).1
  · intro o x i b hx hl hi hb
    by_cases ho : o = k
    · simp [fup, ho] at hx; subst hx; simp [live] at hl
    · exact hm.own o x i b (by simpa [fup, ho] using hx) hl hi hb
  · rcases hF with hF | ⟨x, i, h1, h2, h3, h4⟩
    · exact hm.Fn b hF
    · exact .inr (hm.own k x i b h1 h2 h3 h4)

/-- a row of one's own, seen as one that stays -/
theorem own_lst {c : Cx} {w : World} {i : Inf} {t : Ty} {xs : List t.D} (hl : i.len = xs.length) (hs : i.sz = t.sz) (hB : RowB c w i t xs True) {lo n : Nat} {v : Value} (hn : lo + n ≤ xs.length) (h : Hd i lo n v) : V c w (.lst t ((xs.drop lo).take n)) v := by
  obtain ⟨A, cp, rfl, h1, h2, h3⟩ := h
  have hlen : ((xs.drop lo).take n).length = n := by rw [List.length_take, List.length_drop]; omega
  have hgo : V c w (.lst t ((xs.drop lo).take n)) (.slice A ((xs.drop lo).take n).length cp) := by
    rcases hB with ⟨hb0, hc0⟩ | ⟨b, arr, el, hb, hh, hsz, hc, hF⟩
    · have hn0 : n = 0 := by omega
      subst hn0
      refine .lst t _ A cp (fun _ => undef) (by rw [hlen]; exact h1) (fun h0 => by rw [hlen] at h0; omega) (fun j x hx => by simp at hx)
    · refine .lst t _ A cp (fun j => arr.getD (i.off + (lo * t.sz + j)) undef) (by rw [hlen]; exact h1) (fun h0 => ?_) (fun j x hx q y hy => ?_)
      · rw [hlen] at h0
        obtain ⟨b', hb', rfl⟩ := h3 (by omega)
        rw [hb] at hb'; cases hb'
        refine ⟨_, rfl, hF.2 trivial, fun j hj => ?_⟩
        rw [hlen] at hj
        have hts : 0 < t.sz := Nat.pos_of_ne_zero fun e => by rw [e] at hj; simp at hj
        have hjn : j / t.sz < n := (Nat.div_lt_iff_lt_mul hts).2 hj
        have hx := List.getElem?_eq_getElem (l := xs) (i := lo + j / t.sz) (by omega)
        have hq : j % t.sz < (view t xs[lo + j / t.sz]).length := by rw [view_len]; exact Nat.mod_lt _ hts
        have hcc := hc (lo + j / t.sz) _ hx (j % t.sz) _ (List.getElem?_eq_getElem hq)
        have hidx : i.off + ((lo + j / t.sz) * t.sz + j % t.sz) = i.off + (lo * t.sz + j) := by
          rw [Nat.add_mul]
          have := Nat.div_add_mod j t.sz
          rw [Nat.mul_comm] at this
          omega
        rw [hidx] at hcc
        have hlt : i.off + (lo * t.sz + j) < arr.size := by
          have h5 : lo * t.sz + j < (lo + n) * t.sz := by rw [Nat.add_mul]; omega
          have h6 : (lo + n) * t.sz ≤ i.cap * t.sz := Nat.mul_le_mul_right _ (by omega)
          omega
        refine ⟨?_, hcc.2⟩
        have hadd : (⟨b, i.off + lo * i.sz, none⟩ : Addr).add j = ⟨b, i.off + (lo * t.sz + j), none⟩ := by
          unfold Addr.add
          split
          · rename_i h0; rw [h0, hs]; simp
          · rw [hs]; simp [Nat.add_assoc]
        rw [hadd, World.cell?, hh]
        simp [hlt]
      · have hx2 : xs[lo + j]? = some x := by
          rw [List.getElem?_take] at hx
          split at hx
          · rw [List.getElem?_drop] at hx; exact hx
          · cases hx
        have := (hc (lo + j) x hx2 q y hy).1
        rwa [show i.off + ((lo + j) * t.sz + q) = i.off + (lo * t.sz + (j * t.sz + q)) by rw [Nat.add_mul]; omega] at this
  rw [hlen] at hgo
  exact hgo
/-- a row of rows of one's own, seen as one that stays -/
theorem nest_lst {c : Cx} {w : World} {S : Nat → Prop} {u : Ty} {l : List u.D} {v : Value} (h : Nest w S u l v) (hF : ∀ b, S b → c.F b) : V c w (.lst u l) v := by
  obtain ⟨A, cp, rfl, h1, h2, h3⟩ := h
  by_cases h0 : 0 < cp
  · obtain ⟨b, off, arr, e, rfl, k2, k3, k4, k5⟩ := h3 h0
    have := own_lst (c := c) (w := w) (i := ⟨some b, off, cp, l.length, 0, u.sz, fun _ => False, fun _ _ => undef⟩) (t := u) (xs := l) rfl rfl (.inr ⟨b, arr, e, rfl, k3, k4, cells_mv k5, ⟨fun _ => trivial, fun _ => hF b k2⟩⟩) (lo := 0) (n := l.length) (by omega) ⟨some ⟨b, off, none⟩, cp, rfl, h1, by simp, fun _ => ⟨b, rfl, by simp⟩⟩
    simpa using this
  · have hl : l = [] := List.length_eq_zero_iff.1 (by omega)
    subst hl
    exact .lst u [] A cp (fun _ => undef) (by simp) (fun h => by simp at h) (fun j x hx => by simp at hx)
theorem immT_view : ∀ (t : Ty) (x : t.D) (q : Nat) (y : AV), (view t x)[q]? = some y → imm y = true → ∃ u l, y = .lst u l
  | .i k, x, q, y, h, hi => by cases q <;> simp [view] at h; subst h; cases hi
  | .b, x, q, y, h, hi => by cases q <;> simp [view] at h; subst h; cases hi
  | .s, x, q, y, h, hi => by cases q <;> simp [view] at h; subst h; cases hi
  | .u, x, q, y, h, hi => by simp [view] at h
  | .sl t, x, q, y, h, hi => by cases q <;> simp [view] at h; exact ⟨t, x, h.symm⟩
  | .pr a b, x, q, y, h, hi => by
    simp only [view, List.getElem?_append] at h
    split at h
    · exact immT_view a x.1 _ _ h hi
    · exact immT_view b x.2 _ _ h hi
theorem tree_stays {c' : Cx} {w : World} {i : Inf} {t : Ty} {xs : List t.D} (h : TreeB w i t xs) (hF : ∀ b, i.blk = some b ∨ i.S b → c'.F b) : RowB c' w i t xs True := by
  rcases h with h | ⟨b, arr, el, h1, h2, h3, h4, h5, h6⟩
  · exact .inl h
  · refine .inr ⟨b, arr, el, h1, h2, h3, fun j x hx q y hy => ?_, ⟨fun _ => trivial, fun _ => hF b (.inl h1)⟩⟩
    obtain ⟨k1, k2, k3⟩ := h5 j x hx q y hy
    refine ⟨?_, k1⟩
    by_cases hm : imm y = true
    · obtain ⟨u, l, rfl⟩ := immT_view t x q y hy hm
      exact nest_lst (k2 u l rfl).2 fun b hb => hF b (.inr hb)
    · exact view_mv (c := ⟨fun _ => none, fun _ => False⟩) (fun _ h => h.elim) (fun _ h => h.elim) hy (k3 (by simpa using hm))
end Go.Proofs.YtafjengmkiepbaaGreat.Am
end
section
/- What the machine of values does at an operation, the program does: pure operations, new objects, reads. -/
namespace Go.Proofs.YtafjengmkiepbaaGreat.Am
open Go
set_option linter.constructorNameAsVariable false
set_option linter.unusedVariables false
set_option linter.unusedSimpArgs false

def run {α : Type} (T : Table) : Tree α → Option α
  | .ret a => some a
  | .fail => none
  | .br x a b => match x with | true => run T a | false => run T b
  | .gt _ xs j k => match xs[j]? with | some x => run T (k x) | none => none
  | .call f as os k => match T f as os with
    | some p => match p.x with | some t => run T (k (p.enc t)) | none => none
    | none => none
theorem cps_run {α R : Type} (T : Table) (K : α → Option R) (r : R) : ∀ t : Tree α, cps T t K = some r → ∃ a, run T t = some a ∧ K a = some r
  | .ret a, h => ⟨a, rfl, h⟩
  | .fail, h => by simp [cps] at h
  | .br x a b, h => by
    cases x
    · exact cps_run T K r b h
    · exact cps_run T K r a h
  | .gt t xs j k, h => by
    simp only [cps, gt] at h
    simp only [run]
    cases e : xs[j]? with
    | none => rw [e] at h; cases h
    | some x => rw [e] at h; exact cps_run T K r (k x) h
  | .call f as os k, h => by
    simp only [cps] at h
    simp only [run]
    cases e : T f as os with
    | none => rw [e] at h; cases h
    | some p =>
      rw [e] at h
      simp only [bd] at h
      simp only
      cases e2 : p.x with
      | none => rw [e2] at h; cases h
      | some t => rw [e2] at h; exact cps_run T K r _ h
theorem run_bind {α β : Type} (T : Table) (f : α → Tree β) (b : β) : ∀ t : Tree α, run T (t.bind f) = some b → ∃ a, run T t = some a ∧ run T (f a) = some b
  | .ret a, h => ⟨a, rfl, h⟩
  | .fail, h => by simp [Tree.bind, run] at h
  | .br x a c, h => by
    cases x
    · exact run_bind T f b c h
    · exact run_bind T f b a h
  | .gt t xs j k, h => by
    simp only [Tree.bind, run] at h
    simp only [run]
    cases e : xs[j]? with
    | none => rw [e] at h; cases h
    | some x => rw [e] at h; exact run_bind T f b (k x) h
  | .call g as os k, h => by
    simp only [Tree.bind, run] at h
    simp only [run]
    cases e : T g as os with
    | none => rw [e] at h; cases h
    | some p =>
      rw [e] at h
      simp only at h ⊢
      cases e2 : p.x with
      | none => rw [e2] at h; cases h
      | some t => rw [e2] at h; exact run_bind T f b _ h
theorem run_opt {α β : Type} {T : Table} {x : Option α} {f : α → Tree β} {b : β} (h : run T (opt x f) = some b) : ∃ a, x = some a ∧ run T (f a) = some b := by
  cases x with
  | none => simp [opt, run] at h
  | some a => exact ⟨a, rfl, h⟩
theorem run_grd {β : Type} {T : Table} {c : Bool} {t : Tree β} {b : β} (h : run T (grd c t) = some b) : c = true ∧ run T t = some b := by
  cases c with
  | false => simp [grd, run] at h
  | true => exact ⟨rfl, h⟩
theorem run_fresh {β : Type} {T : Table} {ob : Nat → Option AO} {k : Nat} {t : Tree β} {b : β} (h : run T (fresh ob k t) = some b) : ob k = none ∧ run T t = some b := by
  unfold fresh at h
  cases e : ob k with
  | none => rw [e] at h; exact ⟨rfl, h⟩
  | some _ => rw [e] at h; simp [run] at h
theorem run_ret {α : Type} {T : Table} {a b : α} (h : run T (.ret a) = some b) : a = b := Option.some.inj h
theorem run_fail {α : Type} {T : Table} {b : α} (h : run T (.fail : Tree α) = some b) : False := by simp [run] at h

/-- what an operation does -/
def Eff (P : Program) (B : Base) (c : Cx) (ob : Nat → Option AO) (w : World) (s : Sem Next) (d : Delta) : Prop :=
  ∃ v w' c', (s.run P w = .ok (.value v) w' ∨ (s.run P w = .ok .skip w' ∧ v = undef)) ∧ Mem B c' (fup ob d.ow) w' ∧ Ext c w c' w' ∧ V c' w' d.v v

section
variable {P : Program} {B : Base} {c : Cx} {ob : Nat → Option AO} {w : World} {s : Sem Next} {d : Delta}
theorem Eff.pure (hm : Mem B c ob w) {v : Value} {a : AV} {rd : List Nat} (hs : s.run P w = .ok (.value v) w) (hv : V c w a v) (hd : d = ⟨a, [], rd⟩) : Eff P B c ob w s d := by
  subst hd
  exact ⟨v, w, c, .inl hs, hm, .refl c w, hv⟩
theorem Eff.now (hm : Mem B c ob w) {T : Table} {v : Value} {a : AV} (h : run T (now a) = some d) (hs : s.run P w = .ok (.value v) w) (hv : V c w a v) : Eff P B c ob w s d :=
  .pure hm hs hv (run_ret h).symm

theorem V.inv_b {x : Bool} {v : Value} (h : V c w (.b x) v) : v = .bool x := by cases h; rfl
theorem V.inv_i {k : IntKind} {n : Int} {v : Value} (h : V c w (.i k n) v) : v = .int k n := by cases h; rfl
theorem V.inv_s {x : ByteArray} {v : Value} (h : V c w (.s x) v) : v = .string x := by cases h; rfl

/-! ### arithmetic -/
theorem eqGuard_int (op : BinOp) (t : TypeId) (x y : Operand) (k k' : IntKind) (n m : Int) : (eqGuard op t x y (.int k n) (.int k' m)).run P w = .ok () w := by
  cases op <;> rfl
theorem eqGuard_str (op : BinOp) (t : TypeId) (x y : Operand) (a b : ByteArray) : (eqGuard op t x y (.string a) (.string b)).run P w = .ok () w := by
  cases op <;> rfl
theorem eqGuard_bool (op : BinOp) (t : TypeId) (x y : Operand) (a b : Bool) : (eqGuard op t x y (.bool a) (.bool b)).run P w = .ok () w := by
  cases op <;> rfl

theorem binI_ok (hm : Mem B c ob w) {T : Table} {t : TypeId} {op : BinOp} {k : IntKind} {x y : Int} (h : run T (binI op k x y) = some d) {s : Sem Next}
    (hs : ∀ v, (binOp op t (.int k x) (.int k y)).run P w = .ok v w → s.run P w = .ok (.value v) w) : Eff P B c ob w s d := by
  have key : ∀ (v : Value) (a : AV), run T (now a) = some d → (binOp op t (.int k x) (.int k y)).run P w = .ok v w → V c w a v → Eff P B c ob w s d := fun v a h1 h2 h3 => .now hm h1 (hs v h2) h3
  cases op <;> simp only [binI] at h
  case add => exact key _ _ h (by simp [binOp, Op.intArith]) (.i _ _)
  case sub => exact key _ _ h (by simp [binOp, Op.intArith]) (.i _ _)
  case mul => exact key _ _ h (by simp [binOp, Op.intArith]) (.i _ _)
  case quo =>
    obtain ⟨h0, h⟩ := run_grd h
    have h0 : ¬ y = 0 := by simpa using h0
    exact key _ _ h (by simp [binOp, Op.intDiv, h0]) (.i _ _)
  case rem =>
    obtain ⟨h0, h⟩ := run_grd h
    have h0 : ¬ y = 0 := by simpa using h0
    exact key _ _ h (by simp [binOp, Op.intDiv, h0]) (.i _ _)
  case eql => exact key _ _ h (by simp [binOp, Op.intCmp]) (.b _)
  case neq => exact key _ _ h (by simp [binOp, Op.intCmp]) (.b _)
  case lss => exact key _ _ h (by simp [binOp, Op.intCmp]) (.b _)
  case leq => exact key _ _ h (by simp [binOp, Op.intCmp]) (.b _)
  case gtr => exact key _ _ h (by simp [binOp, Op.intCmp]) (.b _)
  case geq => exact key _ _ h (by simp [binOp, Op.intCmp]) (.b _)
  case and =>
    obtain ⟨n, hn, h⟩ := run_opt h
    simp only [intBits, Option.some.injEq] at hn
    subst hn
    exact key _ _ h (by simp [binOp, Op.intBits]) (.i _ _)
  case or =>
    obtain ⟨n, hn, h⟩ := run_opt h
    simp only [intBits, Option.some.injEq] at hn
    subst hn
    exact key _ _ h (by simp [binOp, Op.intBits]) (.i _ _)
  case xor =>
    obtain ⟨n, hn, h⟩ := run_opt h
    simp only [intBits, Option.some.injEq] at hn
    subst hn
    exact key _ _ h (by simp [binOp, Op.intBits]) (.i _ _)
  case andNot =>
    obtain ⟨n, hn, h⟩ := run_opt h
    simp only [intBits, Option.some.injEq] at hn
    subst hn
    exact key _ _ h (by simp [binOp, Op.intBits]) (.i _ _)
  case shl =>
    obtain ⟨h0, h⟩ := run_grd h
    have h0 : ¬ y < 0 := by simpa using h0
    exact key _ _ h (by simp [binOp, Op.shift, h0]) (.i _ _)
  case shr =>
    obtain ⟨h0, h⟩ := run_grd h
    have h0 : ¬ y < 0 := by simpa using h0
    exact key _ _ h (by simp [binOp, Op.shift, h0]) (.i _ _)
theorem binS_ok (hm : Mem B c ob w) {T : Table} {t : TypeId} {op : BinOp} {x y : ByteArray} (h : run T (binS op x y) = some d) {s : Sem Next}
    (hs : ∀ v, (binOp op t (.string x) (.string y)).run P w = .ok v w → s.run P w = .ok (.value v) w) : Eff P B c ob w s d := by
  have key : ∀ (v : Value) (a : AV), run T (now a) = some d → (binOp op t (.string x) (.string y)).run P w = .ok v w → V c w a v → Eff P B c ob w s d := fun v a h1 h2 h3 => .now hm h1 (hs v h2) h3
  cases op <;> simp only [binS] at h
  case add =>
    obtain ⟨h0, h⟩ := run_grd h
    have h0 : ¬ ((x.size + y.size : Nat) : Int) > IntKind.i64.max := by
      have : ((x.size + y.size : Nat) : Int) ≤ 9223372036854775807 := by have := Nat.le_of_ble_eq_true h0; omega
      have e : IntKind.i64.max = 9223372036854775807 := rfl
      omega
    exact key _ _ h (by simp only [binOp, Op.stringOp]; rw [if_neg h0]; rfl) (.s _)
  case eql => exact key _ _ h (by simp [binOp, Op.stringOp, seq]) (.b _)
  case neq => exact key _ _ h (by simp [binOp, Op.stringOp, seq]) (.b _)
  case lss => exact key _ _ h (by simp [binOp, Op.stringOp, slt]) (.b _)
  case leq => exact key _ _ h (by simp [binOp, Op.stringOp, slt, seq]) (.b _)
  case gtr => exact key _ _ h (by simp [binOp, Op.stringOp, slt, seq]) (.b _)
  case geq => exact key _ _ h (by simp [binOp, Op.stringOp, slt]) (.b _)
  all_goals exact (run_fail h).elim

theorem equalIn_bool (n : Nat) {t : TypeId} (ht : P.underlying t = some .bool) (a b : Bool) : (Op.equalIn (n + 1) t (.bool a) (.bool b)).run P w = .ok (a == b) w := by
  simp [Op.equalIn, run_underlying ht]
theorem eql_bool {t : TypeId} (ht : P.underlying t = some .bool) (a b : Bool) : (binOp .eql t (.bool a) (.bool b)).run P w = .ok (.bool (a == b)) w := by
  have := equalIn_bool (P := P) (w := w) 9999 ht a b
  show (do pure (Value.bool (← Op.equalIn (9999 + 1) t (.bool a) (.bool b))) : Sem Value).run P w = _
  rw [Sem.run_bind, this]
  rfl
theorem neq_bool {t : TypeId} (ht : P.underlying t = some .bool) (a b : Bool) : (binOp .neq t (.bool a) (.bool b)).run P w = .ok (.bool (!(a == b))) w := by
  have := equalIn_bool (P := P) (w := w) 9999 ht a b
  show (do pure (Value.bool (!(← Op.equalIn (9999 + 1) t (.bool a) (.bool b)))) : Sem Value).run P w = _
  rw [Sem.run_bind, this]
  rfl
/-! ### structs that are equal -/
theorem run_isAgg' {t : TypeId} {x : Bool} (h : aggT P t = some x) (w : World) : (isAgg t).run P w = .ok x w := by
  unfold aggT at h
  split at h
  all_goals first
    | (cases h; done)
    | (rename_i e; simp only [Option.some.injEq] at h; subst h; simp [isAgg, run_underlying e]; done)
    | skip

theorem part_plain {t : TypeId} (h : aggT P t = some false) {xs : Array Value} {off : Nat} {v : Value} (hv : xs[off]? = some v) : (part t xs off).run P w = .ok v w := by
  simp [part, run_isAgg' h, hv]
theorem eqF_ok {n : Nat} {ax ay : List AV} {xs ys : Array Value} (hx : ∀ (j : Nat) (y : AV), ax[j]? = some y → V c w y (xs.getD j undef)) (hy : ∀ (j : Nat) (y : AV), ay[j]? = some y → V c w y (ys.getD j undef)) (hxs : xs.size = ax.length) (hys : ys.size = ay.length) : ∀ (fs : List Field) (q : Bool), eqF P fs ax ay = some q → (Op.eqFields (n + 1) xs ys fs).run P w = .ok q w
  | [], q, h => by
    simp only [eqF, Option.some.injEq] at h
    subst h
    simp [Op.eqFields]
  | f :: r, q, h => by
    have get : ∀ (a : List AV) (z : Array Value) (v : AV), z.size = a.length → a[f.offset]? = some v → z[f.offset]? = some (z.getD f.offset undef) := fun a z v h1 h2 => by
      have : f.offset < z.size := by rw [h1]; exact (List.getElem?_eq_some_iff.1 h2).1
      simp [this]
    have step : ∀ (va vb : Value) (e q' : Bool), (f.name == "_") = false → aggT P f.type = some false → xs[f.offset]? = some va → ys[f.offset]? = some vb → (Op.equalIn (n + 1) f.type va vb).run P w = .ok e w → (Op.eqFields (n + 1) xs ys r).run P w = .ok q' w → (Op.eqFields (n + 1) xs ys (f :: r)).run P w = .ok (e && q') w := fun va vb e q' h1 h2 h3 h4 h5 h6 => by
      have hn' : f.name ≠ "_" := by simpa using h1
      rw [Op.eqFields]
      simp only [if_pos hn', Sem.run_bind, part_plain h2 h3, part_plain h2 h4, h5, Result.andThen_ok]
      cases e
      · simp
      · simpa using h6
    simp only [eqF] at h
    split at h
    · rename_i h1 h2 h3 h4 h5 h6
      split at h
      · rename_i hk
        subst hk
        simp only [Option.some.injEq] at h
        subst h
        have g1 := get ax xs _ hxs h4
        have g2 := get ay ys _ hys h5
        rw [V.inv_i (hx _ _ h4)] at g1
        rw [V.inv_i (hy _ _ h5)] at g2
        exact step _ _ _ _ h1 h2 g1 g2 (by simp [Op.equalIn, run_underlying h3]) (eqF_ok hx hy hxs hys r _ h6)
      · cases h
    · rename_i h1 h2 h3 h4 h5 h6
      simp only [Option.some.injEq] at h
      subst h
      have g1 := get ax xs _ hxs h4
      have g2 := get ay ys _ hys h5
      rw [V.inv_s (hx _ _ h4)] at g1
      rw [V.inv_s (hy _ _ h5)] at g2
      exact step _ _ _ _ h1 h2 g1 g2 (by simp [Op.equalIn, run_underlying h3]) (eqF_ok hx hy hxs hys r _ h6)
    · rename_i h1 h2 h3 h4 h5 h6
      simp only [Option.some.injEq] at h
      subst h
      have g1 := get ax xs _ hxs h4
      have g2 := get ay ys _ hys h5
      rw [V.inv_b (hx _ _ h4)] at g1
      rw [V.inv_b (hy _ _ h5)] at g2
      exact step _ _ _ _ h1 h2 g1 g2 (by simp [Op.equalIn, run_underlying h3]) (eqF_ok hx hy hxs hys r _ h6)
    · cases h
theorem eqS_ok {t : TypeId} {ax ay : List AV} {xs ys : Array Value} (hx : V c w (.agg ax) (.agg xs)) (hy : V c w (.agg ay) (.agg ys)) {q : Bool} (h : eqS P t ax ay = some q) : (Op.equal t (.agg xs) (.agg ys)).run P w = .ok q w ∧ P.eqGuardType P.depth t = false := by
  unfold eqS at h
  split at h
  case h_2 => cases h
  rename_i fs hu
  split at h
  case h_2 => cases h
  rename_i hok
  unfold eqOk at hok
  rw [Bool.and_eq_true] at hok
  have h1 : P.stoodInHeld t = false := by simpa using hok.1
  have h2 : P.eqGuardType P.depth t = false := by simpa using hok.2
  refine ⟨?_, h2⟩
  have hf : P.fieldsOf t = fs := by simp [Program.fieldsOf, hu]
  cases hx with
  | agg _ _ s1 o1 v1 =>
    cases hy with
    | agg _ _ s2 o2 v2 =>
      show (Op.equalIn (9999 + 1) t (.agg xs) (.agg ys)).run P w = _
      rw [run_equalIn_struct (P := P) w 9999 t xs ys (by rw [hf]; exact hu) h1, hf]
      exact eqF_ok (n := 9998) v1 v2 s1 s2 fs.toList q h
theorem binA_ok (hm : Mem B c ob w) {T : Table} {t yt : TypeId} {op : BinOp} {x y : Operand} {ρ : Operand → Value} {a b : AV} (ha : V c w a (ρ x)) (hb : V c w b (ρ y)) (h : run T (binA P op t a b) = some d) {o : Oper} (ho : o.op = .binOp op t x y yt) :
    Eff P B c ob w (execOp ρ o) d := by
  unfold execOp
  simp only [ho]
  cases a <;> cases b <;> simp only [binA] at h
  case i.i k n k' m =>
    have e1 := V.inv_i ha
    have e2 := V.inv_i hb
    rw [e1, e2]
    have gen : k = k' → run T (binI op k n m) = some d → Eff P B c ob w (do pure (Next.value (← (do eqGuard op t x y (.int k n) (.int k' m); binOp op t (.int k n) (.int k' m))))) d := fun hk hr => by
      subst hk
      refine binI_ok hm (t := t) hr fun v hv => ?_
      simp [Sem.run_bind, eqGuard_int, hv]
    cases op
    case shl => exact binI_ok hm (t := t) (op := .shl) h fun v hv => by
                  have hv' : (binOp .shl t (.int k n) (.int k' m)).run P w = .ok v w := hv
                  simp [Sem.run_bind, eqGuard_int, hv']
    case shr => exact binI_ok hm (t := t) (op := .shr) h fun v hv => by
                  have hv' : (binOp .shr t (.int k n) (.int k' m)).run P w = .ok v w := hv
                  simp [Sem.run_bind, eqGuard_int, hv']
    all_goals
      simp only at h
      split at h
      · exact gen ‹_› h
      · exact (run_fail h).elim
  case s.s n m =>
    rw [V.inv_s ha, V.inv_s hb]
    refine binS_ok hm (t := t) h fun v hv => ?_
    simp [Sem.run_bind, eqGuard_str, hv]
  case b.b n m =>
    rw [V.inv_b ha, V.inv_b hb]
    split at h
    · rename_i ht
      cases op <;> simp only at h
      case eql => exact .now hm h (v := .bool (n == m)) (by simp only [Sem.run_bind, eqGuard_bool, Result.andThen_ok, eql_bool ht, Sem.run_pure]) (.b _)
      case neq => exact .now hm h (v := .bool (!(n == m))) (by simp only [Sem.run_bind, eqGuard_bool, Result.andThen_ok, neq_bool ht, Sem.run_pure]) (.b _)
      all_goals exact (run_fail h).elim
    · exact (run_fail h).elim
  case agg.agg xs ys =>
    obtain ⟨vx, ex⟩ : ∃ vs, ρ x = .agg vs := by cases ha' : ρ x <;> rw [ha'] at ha <;> cases ha; exact ⟨_, rfl⟩
    obtain ⟨vy, ey⟩ : ∃ vs, ρ y = .agg vs := by cases hb' : ρ y <;> rw [hb'] at hb <;> cases hb; exact ⟨_, rfl⟩
    rw [ex] at ha ⊢
    rw [ey] at hb ⊢
    obtain ⟨q, hq, h⟩ := run_opt h
    obtain ⟨e1, e2⟩ := eqS_ok ha hb hq
    have g : ∀ op, op = .eql ∨ op = .neq → (eqGuard op t x y (.agg vx) (.agg vy)).run P w = .ok () w := fun op hop => by
      rcases hop with rfl | rfl <;> simp [eqGuard, e2]
    cases op <;> simp only at h
    case eql => exact .now hm h (v := .bool q) (by
      have hb2 : (binOp .eql t (.agg vx) (.agg vy)).run P w = .ok (.bool q) w := by
        show (do pure (Value.bool (← Op.equal t (.agg vx) (.agg vy))) : Sem Value).run P w = _
        rw [Sem.run_bind, e1]
        rfl
      simp only [Sem.run_bind, g .eql (.inl rfl), Result.andThen_ok, hb2, Sem.run_pure]) (.b _)
    case neq => exact .now hm h (v := .bool (!q)) (by
      have hb2 : (binOp .neq t (.agg vx) (.agg vy)).run P w = .ok (.bool (!q)) w := by
        show (do pure (Value.bool (!(← Op.equal t (.agg vx) (.agg vy)))) : Sem Value).run P w = _
        rw [Sem.run_bind, e1]
        rfl
      simp only [Sem.run_bind, g .neq (.inr rfl), Result.andThen_ok, hb2, Sem.run_pure]) (.b _)
    all_goals exact (run_fail h).elim
  all_goals exact (run_fail h).elim

theorem V.mb_any {a : AV} {x : Bool} (h : a = .mb) : V c w a (.bool x) := by subst h; exact .mb x
theorem isNilC_ok {y : Operand} (h : isNilC y = true) : y = .const (.slice none 0 0) := by
  unfold isNilC at h
  split at h
  · rfl
  · cases h
theorem nil_bin {t : TypeId} {e : TypeId} (ht : P.underlying t = some (.slice e)) (A : Option Addr) (n cp : Nat) : (Op.equal t (.slice A n cp) (.slice none 0 0)).run P w = .ok A.isNone w := by
  have gen : ∀ k, (Op.equalIn (k + 1) t (.slice A n cp) (.slice none 0 0)).run P w = .ok A.isNone w := fun k => by
    cases A <;> simp [Op.equalIn, run_underlying ht]
  exact gen 9999
theorem nilA_ok (hm : Mem B c ob w) {T : Table} {t yt : TypeId} {op : BinOp} {x y : Operand} {ρ : Operand → Value} {v : AV} (ha : V c w v (ρ x)) (hy : ρ y = .slice none 0 0) (h : run T (nilA P op t v) = some d) {o : Oper} (ho : o.op = .binOp op t x y yt) :
    Eff P B c ob w (execOp ρ o) d := by
  unfold execOp
  simp only [ho]
  rw [hy]
  unfold nilA at h
  split at h
  case h_2 => exact (run_fail h).elim
  rename_i e ht
  have gen : ∀ (A : Option Addr) (n cp : Nat), ρ x = .slice A n cp → (0 < n → A ≠ none) → run T (nilQ op n) = some d → Eff P B c ob w (do pure (Next.value (← (do eqGuard op t x y (ρ x) (.slice none 0 0); binOp op t (ρ x) (.slice none 0 0))))) d := fun A n cp hx hA hr => by
    rw [hx]
    have g : (eqGuard op t x y (.slice A n cp) (.slice none 0 0)).run P w = .ok () w := by cases op <;> rfl
    unfold nilQ at hr
    split at hr
    · have hb : (binOp .eql t (.slice A n cp) (.slice none 0 0)).run P w = .ok (.bool A.isNone) w := by
        show (do pure (Value.bool (← Op.equal t _ _)) : Sem Value).run P w = _
        rw [Sem.run_bind, nil_bin ht]
        rfl
      have hrun : (do pure (Next.value (← (do eqGuard .eql t x y (.slice A n cp) (.slice none 0 0); binOp .eql t (.slice A n cp) (.slice none 0 0)))) : Sem Next).run P w = .ok (.value (.bool A.isNone)) w := by
        simp only [Sem.run_bind, g, Result.andThen_ok, hb, Sem.run_pure]
      rcases Nat.eq_zero_or_pos n with h0 | h0
      · subst h0
        exact .now hm (T := T) (a := .mb) hr hrun (.mb _)
      · rw [decide_eq_true h0] at hr
        have : A.isNone = false := by cases A with
          | none => exact absurd rfl (hA h0)
          | some _ => rfl
        rw [this] at hrun
        exact .now hm (T := T) (a := .b false) hr hrun (.b _)
    · have hb : (binOp .neq t (.slice A n cp) (.slice none 0 0)).run P w = .ok (.bool (!A.isNone)) w := by
        show (do pure (Value.bool (!(← Op.equal t _ _))) : Sem Value).run P w = _
        rw [Sem.run_bind, nil_bin ht]
        rfl
      have hrun : (do pure (Next.value (← (do eqGuard .neq t x y (.slice A n cp) (.slice none 0 0); binOp .neq t (.slice A n cp) (.slice none 0 0)))) : Sem Next).run P w = .ok (.value (.bool (!A.isNone))) w := by
        simp only [Sem.run_bind, g, Result.andThen_ok, hb, Sem.run_pure]
      rcases Nat.eq_zero_or_pos n with h0 | h0
      · subst h0
        exact .now hm (T := T) (a := .mb) hr hrun (.mb _)
      · rw [decide_eq_true h0] at hr
        have : A.isNone = false := by cases A with
          | none => exact absurd rfl (hA h0)
          | some _ => rfl
        rw [this] at hrun
        exact .now hm (T := T) (a := .b true) hr hrun (.b _)
    · exact (run_fail hr).elim
  split at h
  · rename_i u xs
    obtain ⟨vx, hx⟩ : ∃ vx, ρ x = vx := ⟨_, rfl⟩
    rw [hx] at ha
    cases ha with
    | lst _ _ A cp g hn hA hh => exact gen A _ cp hx (fun h0 => by obtain ⟨b, rfl, _⟩ := hA h0; simp) h
  · obtain ⟨vx, hx⟩ : ∃ vx, ρ x = vx := ⟨_, rfl⟩
    rw [hx] at ha
    cases ha with
    | nils A => exact gen A 0 0 hx (fun h0 => by omega) h
  · exact (run_fail h).elim
theorem unA_ok (hm : Mem B c ob w) {T : Table} {t : TypeId} {op : UnOp} {x : Operand} {ρ : Operand → Value} {a : AV} (ha : V c w a (ρ x)) (h : run T (unA op a) = some d) {o : Oper} (ho : o.op = .unOp op t x) :
    Eff P B c ob w (execOp ρ o) d := by
  unfold execOp
  simp only [ho]
  cases a <;> simp only [unA] at h
  case b n =>
    rw [V.inv_b ha]
    cases op <;> simp only at h
    case not => exact .now hm h (v := .bool (!n)) (by simp [Op.unary]) (.b _)
    all_goals exact (run_fail h).elim
  case i k n =>
    rw [V.inv_i ha]
    cases op <;> simp only at h
    case neg => exact .now hm h (v := .int k (k.wrap (0 - n))) (by simp [Op.unary, Op.intArith]) (.i _ _)
    all_goals exact (run_fail h).elim
  all_goals exact (run_fail h).elim
end
end Go.Proofs.YtafjengmkiepbaaGreat.Am
end
section
/- What the machine of values does at an operation, the program does: new objects, reads, places. -/
namespace Go.Proofs.YtafjengmkiepbaaGreat.Am
open Go
set_option linter.constructorNameAsVariable false
set_option linter.unusedVariables false
set_option linter.unusedSimpArgs false
section
variable {P : Program} {B : Base} {c : Cx} {ob : Nat → Option AO} {w : World} {s : Sem Next} {d : Delta}

theorem szOf_info {t : TypeId} {n : Nat} (h : szOf P t = some n) : ∃ i, P.info? t = some i ∧ i.size = n := by
  unfold szOf at h
  split at h
  · exact ⟨_, ‹_›, by simpa using h⟩
  · cases h
theorem run_sizeOf' {t : TypeId} {n : Nat} (h : szOf P t = some n) (w : World) : (sizeOf t).run P w = .ok n w := by
  obtain ⟨i, hi, rfl⟩ := szOf_info h
  simp [sizeOf, typeInfo, hi]

theorem V.inv_ptr {o off : Nat} {v : Value} (h : V c w (.ptr o off) v) : ∃ a i, v = .pointer (some a) ∧ c.inf o = some i ∧ (i.ver = 0 → ∃ b, i.blk = some b ∧ a = ⟨b, off, none⟩) := by
  cases h with
  | ptr _ _ a i hi h => exact ⟨a, i, rfl, hi, h⟩
theorem V.inv_eptr {o ver j off : Nat} {v : Value} (h : V c w (.eptr o ver j off) v) : ∃ a i, v = .pointer (some a) ∧ c.inf o = some i ∧ ver ≤ i.ver ∧ (ver = i.ver → j < i.len ∧ ∃ b, i.blk = some b ∧ a = ⟨b, i.off + j * i.sz + off, none⟩) := by
  cases h with
  | eptr _ _ _ _ a i hi hv h => exact ⟨a, i, rfl, hi, hv, h⟩
theorem V.inv_own {o ver : Nat} {v : Value} (h : V c w (.own o ver) v) : ∃ A n cp i, v = .slice A n cp ∧ c.inf o = some i ∧ ver ≤ i.ver ∧ (ver = i.ver → Hd i 0 i.len v) := by
  cases h with
  | own _ _ A n cp i hi hv h => exact ⟨A, n, cp, i, rfl, hi, hv, h⟩
theorem V.inv_sub {o ver lo m : Nat} {v : Value} (h : V c w (.sub o ver lo m) v) : ∃ A n cp i, v = .slice A n cp ∧ c.inf o = some i ∧ ver ≤ i.ver ∧ (ver = i.ver → lo + m ≤ i.len ∧ Hd i lo m v) := by
  cases h with
  | sub _ _ _ _ A n cp i hi hv h => exact ⟨A, n, cp, i, rfl, hi, hv, h⟩
theorem V.inv_rp {cs : List AV} {v : Value} (h : V c w (.rp cs) v) : ∃ (a : Addr) (g : Nat → Value), v = .pointer (some a) ∧ c.F a.block ∧ (∀ j, j < cs.length → w.cell? (a.add j) = some (g j) ∧ (g j).oneCell' = true) ∧ ∀ j y, cs[j]? = some y → V c w y (g j) := by
  cases h with
  | rp _ a g hF hc h => exact ⟨a, g, rfl, hF, hc, h⟩
theorem V.inv_lst {t : Ty} {xs : List t.D} {v : Value} (h : V c w (.lst t xs) v) : ∃ (A : Option Addr) (cp : Nat) (g : Nat → Value), v = .slice A xs.length cp ∧ xs.length ≤ cp ∧ (0 < xs.length → ∃ a, A = some a ∧ c.F a.block ∧ ∀ j, j < xs.length * t.sz → w.cell? (a.add j) = some (g j) ∧ (g j).oneCell' = true) ∧
    (∀ j x, xs[j]? = some x → ∀ q y, (view t x)[q]? = some y → V c w y (g (j * t.sz + q))) := by
  cases h with
  | lst _ _ A cp g hn ha h => exact ⟨A, cp, g, rfl, hn, ha, h⟩
theorem V.inv_agg {cs : List AV} {v : Value} (h : V c w (.agg cs) v) : ∃ vs, v = .agg vs ∧ Cl c w cs vs := by
  cases h with
  | agg _ vs hs h1 h => exact ⟨vs, rfl, hs, h1, h⟩
theorem V.inv_tup {cs : List AV} {v : Value} (h : V c w (.tup cs) v) : ∃ vs, v = .tuple vs ∧ vs.size = cs.length ∧ ∀ j y, cs[j]? = some y → V c w y (vs.getD j undef) := by
  cases h with
  | tup _ vs hs h => exact ⟨vs, rfl, hs, h⟩
theorem V.inv_nils {v : Value} (h : V c w .nils v) : ∃ A, v = .slice A 0 0 := by
  cases h with
  | nils A => exact ⟨A, rfl⟩
theorem V.inv_fn {f : FuncId} {cs : List AV} {v : Value} (h : V c w (.fn f cs) v) : ∃ vs, v = .func (.func f) #[] vs ∧ vs.size = cs.length ∧ ∀ j y, cs[j]? = some y → V c w y (vs.getD j undef) := by
  cases h with
  | fn _ _ vs hs h => exact ⟨vs, rfl, hs, h⟩

theorem cut_eq {cs l : List AV} {off n : Nat} (h : cut cs off n = some l) : l.length = n ∧ ∀ j, j < n → l[j]? = cs[off + j]? := by
  unfold cut at h
  split at h
  · rename_i e
    simp only [Option.some.injEq] at h
    subst h
    have hl := Nat.eq_of_beq_eq_true e
    refine ⟨hl, fun j hj => ?_⟩
    rw [List.getElem?_take, if_pos hj, List.getElem?_drop]
  · cases h

/-- a variable is read -/
theorem loadVar_ok {t : TypeId} {n : Nat} (hsz : szOf P t = some n) {cs : List AV} (hlen : cs.length = n) {x : AV} (hx : mkA P t cs = some x) (a : Addr) (g : Nat → Value)
    (hc : ∀ j, j < n → w.cell? (a.add j) = some (g j) ∧ (g j).oneCell' = true) (hv : ∀ j y, cs[j]? = some y → V c w y (g j)) : ∃ v, (loadVar t a).run P w = .ok v w ∧ V c w x v := by
  have hadd : a.add 0 = a := by simp [Addr.add]
  unfold mkA at hx
  split at hx
  · rename_i e
    simp only [Option.some.injEq] at hx
    subst hx
    have hl : (loadCells a ((List.range n).map g).length).run P w = .ok ((List.range n).map g).toArray w := run_loadCells_list (P := P) w a ((List.range n).map g) fun j v hv => by
      rw [List.getElem?_map] at hv
      obtain ⟨q, hq, rfl⟩ := Option.map_eq_some_iff.1 hv
      obtain ⟨h1, h2⟩ := List.getElem?_eq_some_iff.1 hq
      simp at h1 h2
      subst h2
      exact (hc j h1).1
    refine ⟨.agg ((List.range n).map g).toArray, ?_, .agg _ _ (by simp [hlen]) (fun j hj => ?_) (fun j y hy => ?_)⟩
    · simp only [loadVar, Sem.run_bind, run_isAgg' e, Result.andThen_ok, if_true, run_sizeOf' hsz]
      simp only [List.length_map, List.length_range] at hl
      rw [hl]
      rfl
    · have hjn : j < n := by omega
      simp [hjn, (hc j hjn).2]
    · have hjn : j < n := by
        have := (List.getElem?_eq_some_iff.1 hy).1
        omega
      simp [hjn]
      exact hv j y hy
  · rename_i e
    split at hx
    · rename_i y
      simp only [Option.some.injEq] at hx
      subst hx
      have hn : n = 1 := by simpa using hlen.symm
      subst hn
      have h0 := hc 0 (by omega)
      rw [hadd] at h0
      refine ⟨g 0, ?_, hv 0 y rfl⟩
      simp [loadVar, Sem.run_bind, run_isAgg' e, h0.1]
    · cases hx
  · cases hx

theorem add_mid' (b o j : Nat) : (⟨b, o, none⟩ : Addr).add j = ⟨b, o + j, none⟩ := by
  unfold Addr.add
  split
  · rename_i h; rw [h]; simp
  · rfl
theorem cell_in {w : World} {b o : Nat} {arr : Array Value} {e : TypeId} {fr : Nat × Nat} (h : w.heap[b]? = some (.cells arr e fr)) (ho : o < arr.size) : w.cell? ⟨b, o, none⟩ = some (arr.getD o undef) := by
  unfold World.cell?
  rw [h]
  simp [ho]

theorem V.inv_nst {o j q : Nat} {v : Value} (h : V c w (.nst o j q) v) : ∃ i, c.inf o = some i ∧ (i.ver = 0 → j < i.len ∧ v = i.N j q) := by
  cases h with
  | nst _ _ _ _ i hi h => exact ⟨i, hi, h⟩
/-- a row inside a row of rows -/
theorem nst_row (hm : Mem B c ob w) {o j : Nat} {u : Ty} {xs : List (Ty.sl u).D} (h : ob o = some (.tree (.sl u) xs)) {x : Value} (hx : V c w (.nst o j 0) x) : ∃ i, c.inf o = some i ∧ Nest w i.S u (xs.getD j []) x := by
  obtain ⟨i, h1, h2, h3, h4, h5, h6, h7⟩ := hm.obj o _ h
  obtain ⟨i', k1, k2⟩ := hx.inv_nst
  rw [h1] at k1; cases k1
  obtain ⟨k2, k3⟩ := k2 h2
  have hj : j < xs.length := by omega
  rcases h7 with ⟨_, h7⟩ | ⟨b, arr, el, m1, m2, m3, m4, m5, m6⟩
  · omega
  have hc := (m5 j _ (List.getElem?_eq_getElem hj) 0 (.lst u xs[j]) rfl).2.1 u xs[j] rfl
  rw [hc.1] at hc
  refine ⟨i, h1, ?_⟩
  rw [k3, List.getD_eq_getElem?_getD, List.getElem?_eq_getElem hj]
  exact hc.2
/-- the head of a row of rows -/
theorem tree_head (hm : Mem B c ob w) {o : Nat} {t : Ty} {xs : List t.D} (h : ob o = some (.tree t xs)) {x : Value} (hx : V c w (.own o 0) x) : ∃ i A cp, c.inf o = some i ∧ i.ver = 0 ∧ i.len = xs.length ∧ i.sz = t.sz ∧ xs.length ≤ i.cap ∧ x = .slice A xs.length cp ∧ Hd i 0 xs.length x := by
  obtain ⟨i, h1, h2, h3, h4, h5, h6, h7⟩ := hm.obj o _ h
  obtain ⟨A, n, cp, i', rfl, k1, k2, k3⟩ := hx.inv_own
  rw [h1] at k1; cases k1
  have hd := k3 h2.symm
  rw [h3] at hd
  obtain ⟨A', cp', e, _⟩ := hd
  cases e
  exact ⟨i, A, cp, h1, h2, h3, h4, h5, rfl, h3 ▸ k3 h2.symm⟩

theorem loadA_ok (hm : Mem B c ob w) {T : Table} {t : TypeId} {n : Nat} (hsz : szOf P t = some n) {x : Operand} {ρ : Operand → Value} {a : AV} (ha : V c w a (ρ x)) (h : run T (loadA P ob t n a) = some d) {o : Oper} (ho : o.op = .load t x) :
    Eff P B c ob w (execOp ρ o) d := by
  unfold execOp
  simp only [ho]
  have fin : ∀ (ad : Addr) (y : AV) (rd : List Nat), ρ x = .pointer (some ad) → (∃ v, (loadVar t ad).run P w = .ok v w ∧ V c w y v) → d = ⟨y, [], rd⟩ → Eff P B c ob w (do pure (Next.value (← Instr.loadAt t (ρ x)))) d := fun ad y rd e ⟨v, h1, h2⟩ hd => by
    refine .pure hm (v := v) ?_ h2 hd
    simp [Instr.loadAt, Instr.sureAddr, e, h1]
  cases a <;> simp only [loadA] at h
  case ptr q off =>
    split at h
    · rename_i cs hq
      obtain ⟨l, hl, h⟩ := run_opt h
      obtain ⟨y, hy, h⟩ := run_opt h
      have hd := run_ret h
      obtain ⟨i, b, arr, el, h1, h2, h3, h4, h5, h6⟩ := hm.obj q _ hq
      obtain ⟨ad, i', hz, hi', hp⟩ := ha.inv_ptr
      rw [h1] at hi'; cases hi'
      obtain ⟨b', hb', rfl⟩ := hp h2
      rw [h3] at hb'; cases hb'
      obtain ⟨hll, hlg⟩ := cut_eq hl
      refine fin _ y [q] hz (loadVar_ok hsz hll hy _ (fun j => arr.getD (off + j) undef) (fun j hj => ?_) (fun j y' hy' => ?_)) hd.symm
      · have hcs : (cs[off + j]?).isSome = true := by rw [← hlg j hj]; simp [hll, hj]
        have hlt : off + j < cs.length := by simpa using hcs
        rw [add_mid']
        exact ⟨cell_in h4 (by rw [h5.1]; exact hlt), h5.2.1 _ hlt⟩
      · have hj : j < n := by have := (List.getElem?_eq_some_iff.1 hy').1; omega
        rw [hlg j hj] at hy'
        exact h5.2.2 _ _ hy'
    · exact (run_fail h).elim
  case rp cs =>
    obtain ⟨l, hl, h⟩ := run_opt h
    obtain ⟨y, hy, h⟩ := run_opt h
    have hd := run_ret h
    obtain ⟨ad, g, hz, hF, hc, hv⟩ := ha.inv_rp
    obtain ⟨hll, hlg⟩ := cut_eq hl
    refine fin _ y [] hz (loadVar_ok hsz hll hy _ g (fun j hj => ?_) (fun j y' hy' => ?_)) hd.symm
    · have hcs : (cs[0 + j]?).isSome = true := by rw [← hlg j hj]; simp [hll, hj]
      exact hc j (by simpa using hcs)
    · have hj : j < n := by have := (List.getElem?_eq_some_iff.1 hy').1; omega
      rw [hlg j hj] at hy'
      exact hv j _ (by simpa using hy')
  case eptr q v j off =>
    have go : ∀ (u : Ty) (xs : List u.D) (v' : Nat) (imm : Prop) (i : Inf), c.inf q = some i → i.ver = v' → i.len = xs.length → i.sz = u.sz → xs.length ≤ i.cap → RowB c w i u xs imm → Nat.beq v' v = true →
        run T (.gt u xs j fun x => opt (cut (view u x) off n) fun l => opt (mkA P t l) fun a => .ret ⟨a, [], [q]⟩) = some d → Eff P B c ob w (do pure (Next.value (← Instr.loadAt t (ρ x)))) d := fun u xs v' im i h1 h2 h3 h4 h5 h6 hv h => by
      have hvv := Nat.eq_of_beq_eq_true hv
      simp only [run] at h
      split at h
      case h_2 => cases h
      rename_i e hx
      obtain ⟨l, hl, h⟩ := run_opt h
      obtain ⟨y, hy, h⟩ := run_opt h
      have hd := run_ret h
      obtain ⟨ad, i', hz, hi', hvle, hp⟩ := ha.inv_eptr
      rw [h1] at hi'; cases hi'
      obtain ⟨hjl, b', hb', rfl⟩ := hp (by omega)
      rcases h6 with ⟨h6, h7⟩ | ⟨b, arr, el, k1, k2, k3, k4, k5⟩
      · rw [hb'] at h6; cases h6
      rw [hb'] at k1; cases k1
      obtain ⟨hll, hlg⟩ := cut_eq hl
      refine fin _ y [q] hz (loadVar_ok hsz hll hy _ (fun r => arr.getD (i.off + (j * u.sz + (off + r))) undef) (fun r hr => ?_) (fun r y' hy' => ?_)) hd.symm
      · have hcs : ((view u e)[off + r]?).isSome = true := by rw [← hlg r hr]; simp [hll, hr]
        obtain ⟨yy, hyy⟩ := Option.isSome_iff_exists.1 hcs
        have hlt : off + r < u.sz := by rw [← view_len u e]; exact (List.getElem?_eq_some_iff.1 hyy).1
        have hcc := k4 j e hx (off + r) yy hyy
        have hsz2 : i.off + (j * u.sz + (off + r)) < arr.size := by
          have h8 : j * u.sz + (off + r) < (j + 1) * u.sz := by rw [Nat.add_mul]; omega
          have h9 : (j + 1) * u.sz ≤ i.cap * u.sz := Nat.mul_le_mul_right _ (by omega)
          omega
        rw [add_mid', h4, show i.off + j * u.sz + off + r = i.off + (j * u.sz + (off + r)) by omega]
        exact ⟨cell_in k2 hsz2, hcc.2⟩
      · have hr : r < n := by have := (List.getElem?_eq_some_iff.1 hy').1; omega
        rw [hlg r hr] at hy'
        exact (k4 j e hx _ _ hy').1
    split at h
    · rename_i v' u xs hq
      split at h
      · rename_i hv
        obtain ⟨i, h1, h2, h3, h4, h5, h6⟩ := hm.obj q _ hq
        exact go u xs v' _ i h1 h2 h3 h4 h5 h6 hv h
      · exact (run_fail h).elim
    · rename_i v' u xs hq
      split at h
      · rename_i hv
        obtain ⟨i, h1, h2, h3, h4, h5, h6⟩ := hm.obj q _ hq
        exact go u xs v' _ i h1 h2 h3 h4 h5 h6 hv h
      · exact (run_fail h).elim
    · rename_i u xs hq
      split at h
      case h_2 => exact (run_fail h).elim
      rename_i hv hn
      have hv := Nat.eq_of_beq_eq_true hv
      have hn := Nat.eq_of_beq_eq_true hn
      subst hv hn
      simp only [run] at h
      split at h
      case h_2 => cases h
      rename_i e hx
      split at h
      case h_2 => exact (run_fail h).elim
      rename_i u' l' hy
      obtain ⟨y, hm', h⟩ := run_opt h
      have hd := run_ret h
      obtain ⟨i, h1, h2, h3, h4, h5, h6, h7⟩ := hm.obj q _ hq
      obtain ⟨ad, i', hz, hi', hvle, hp⟩ := ha.inv_eptr
      rw [h1] at hi'; cases hi'
      obtain ⟨hjl, b', hb', rfl⟩ := hp h2.symm
      rcases h7 with ⟨h7, _⟩ | ⟨b, arr, el, k1, k2, k3, k4, k5, k6⟩
      · rw [hb'] at h7; cases h7
      rw [hb'] at k1; cases k1
      have hlt : off < u.sz := by rw [← view_len u e]; exact (List.getElem?_eq_some_iff.1 hy).1
      obtain ⟨c1, c2, _⟩ := k5 j e hx off _ hy
      have hsz2 : i.off + (j * u.sz + off) < arr.size := by
        have h8 : j * u.sz + off < (j + 1) * u.sz := by rw [Nat.add_mul]; omega
        have h9 : (j + 1) * u.sz ≤ i.cap * u.sz := Nat.mul_le_mul_right _ (by omega)
        omega
      refine fin _ y [q] hz (loadVar_ok hsz rfl hm' _ (fun r => arr.getD (i.off + (j * u.sz + (off + r))) undef) (fun r hr => ?_) (fun r y' hy' => ?_)) hd.symm
      · obtain rfl : r = 0 := by omega
        rw [add_mid', h4, show i.off + j * u.sz + off + 0 = i.off + (j * u.sz + (off + 0)) by omega]
        exact ⟨cell_in k2 (by omega), c1⟩
      · have hr : r < 1 := by have := (List.getElem?_eq_some_iff.1 hy').1; simpa using this
        obtain rfl : r = 0 := by omega
        simp at hy'
        subst hy'
        exact .nst q j off _ i h1 fun _ => ⟨hjl, (c2 _ _ rfl).1⟩
    · exact (run_fail h).elim
  all_goals exact (run_fail h).elim
end
end Go.Proofs.YtafjengmkiepbaaGreat.Am
end
section
/- What the machine of values does at an operation, the program does: objects that are made, frozen, written. -/
namespace Go.Proofs.YtafjengmkiepbaaGreat.Am
open Go
set_option linter.constructorNameAsVariable false
set_option linter.unusedVariables false
set_option linter.unusedSimpArgs false
section
variable {P : Program} {B : Base} {c : Cx} {ob : Nat → Option AO} {w : World} {s : Sem Next} {d : Delta}

theorem fup_append (ob : Nat → Option AO) (a b : List (Nat × AO)) : fup ob (a ++ b) = fup (fup ob a) b := by
  induction a generalizing ob with
  | nil => rfl
  | cons p r ih => obtain ⟨k, x⟩ := p; simp only [List.cons_append, fup, ih]
theorem fup_one (ob : Nat → Option AO) (k : Nat) (x : AO) : fup ob [(k, x)] = fun o => if o = k then some x else ob o := rfl

theorem Mem.inf_none (hm : Mem B c ob w) {k : Nat} (hk : ob k = none) : c.inf k = none := by
  cases h : c.inf k with
  | none => rfl
  | some i => obtain ⟨x, hx⟩ := hm.dom k i h; rw [hk] at hx; cases hx
theorem Mem.newBox (hm : Mem B c ob w) {k : Nat} (hnw : c.inf k = none → 1000 ≤ k) (hk : ob k = none) {cs : List AV} {arr : Array Value} (hc : Cl c w cs arr) (e : TypeId) :
    Mem B (c.set k ⟨some w.heap.size, 0, 0, 0, 0, 0, fun _ => False, fun _ _ => undef⟩) (fup ob [(k, .box cs)]) (w.alloc (.cells arr e)) ∧ Ext c w (c.set k ⟨some w.heap.size, 0, 0, 0, 0, 0, fun _ => False, fun _ _ => undef⟩) (w.alloc (.cells arr e)) := by
  refine hm.put k (.box cs) _ _ rfl rfl rfl (by show w.heap.size ≤ (w.heap.push _).size; simp) (fun b hb _ => heap_alloc_old w _ _ hb) (fun i hi => by rw [hm.inf_none hk] at hi; cases hi) (fun ext => ?_) (fun b _ hb => .inr (by simp at hb; omega))
  exact ⟨_, w.heap.size, arr, e, Cx.set_eq _ _ _, rfl, rfl, heap_alloc_new w _, hc.ext ext, fun hF => Nat.lt_irrefl _ (hm.F _ hF)⟩
theorem Mem.newRow (hm : Mem B c ob w) {k : Nat} (hnw : c.inf k = none → 1000 ≤ k) (hk : ob k = none) {t : Ty} {xs : List t.D} {arr : Array Value} (cap : Nat) (hc : Cells c w arr 0 t xs) (hl : xs.length ≤ cap) (hs : cap * t.sz ≤ arr.size) (e : TypeId) (w1 : World)
    (h1 : w1 = w.alloc (.cells arr e)) :
    Mem B (c.set k ⟨some w.heap.size, 0, cap, xs.length, 0, t.sz, fun _ => False, fun _ _ => undef⟩) (fup ob [(k, .row 0 t xs)]) w1 ∧ Ext c w (c.set k ⟨some w.heap.size, 0, cap, xs.length, 0, t.sz, fun _ => False, fun _ _ => undef⟩) w1 := by
  subst h1
  refine hm.put k (.row 0 t xs) _ _ rfl rfl rfl (by show w.heap.size ≤ (w.heap.push _).size; simp) (fun b hb _ => heap_alloc_old w _ _ hb) (fun i hi => by rw [hm.inf_none hk] at hi; cases hi) (fun ext => ?_) (fun b _ hb => .inr (by simp at hb; omega))
  exact ⟨_, Cx.set_eq _ _ _, rfl, rfl, rfl, hl, .inr ⟨w.heap.size, arr, e, rfl, heap_alloc_new w _, by simpa using hs, hc.ext ext, ⟨fun hF => absurd (hm.F _ hF) (Nat.lt_irrefl _), False.elim⟩⟩⟩

theorem consts_ok : ∀ (vs : List Value) (l : List AV), consts vs = some l → l.length = vs.length ∧ ∀ (c : Cx) (w : World) (j : Nat) (y : AV), l[j]? = some y → V c w y (vs.getD j undef) ∧ (vs.getD j undef).oneCell' = true
  | [], l, h => by simp [consts] at h; subst h; simp
  | v :: r, l, h => by
    simp only [consts] at h
    split at h
    · rename_i l' hb hr
      simp only [Option.some.injEq] at h
      subst h
      obtain ⟨h1, h2⟩ := consts_ok r l' hr
      refine ⟨by simp [h1], fun c w j y hy => ?_⟩
      cases j with
      | zero =>
        simp at hy
        subst hy
        simp only [List.getD_cons_zero]
        unfold constV at hb ⊢
        split <;> first | (refine ⟨?_, rfl⟩; constructor; done) | (exfalso; simp_all [isBad]; done) | skip
      | succ j =>
        simp at hy
        simpa using h2 c w j y hy
    · cases h
theorem constV_ok (v : Value) : V c w (constV v) v := by
  unfold constV
  split <;> constructor
theorem zeroC_ok {t : TypeId} {cs : List AV} (h : zeroC P t = some cs) : ∃ i z, P.info? t = some i ∧ i.zero = some z ∧ z.cells.size = cs.length ∧ ∀ (c : Cx) (w : World), Cl c w cs z.cells := by
  unfold zeroC at h
  split at h
  · rename_i i hi
    split at h
    · rename_i z hz
      obtain ⟨h1, h2⟩ := consts_ok _ _ h
      have hl : z.cells.size = cs.length := by rw [h1]; simp
      have key : ∀ j, z.cells.getD j undef = z.cells.toList.getD j undef := fun j => by simp [Array.getD_eq_getD_getElem?, List.getD_eq_getElem?_getD]
      refine ⟨i, z, hi, hz, hl, fun c w => ⟨hl, fun j hj => ?_, fun j y hy => ?_⟩⟩
      · rw [key]
        exact (h2 c w j cs[j] (List.getElem?_eq_getElem hj)).2
      · rw [key]
        exact (h2 c w j y hy).1
    · cases h
  · cases h
theorem run_zeroValue' {t : TypeId} {i : TypeInfo} {z : Value} (hi : P.info? t = some i) (hz : i.zero = some z) (w : World) : (zeroValue t).run P w = .ok z w := by
  simp [zeroValue, typeInfo, hi, hz]

/-- a new variable -/
theorem newVar_ok (hm : Mem B c ob w) {k : Nat} (hnw : c.inf k = none → 1000 ≤ k) (hk : ob k = none) {t : TypeId} {cs : List AV} {v : Value} (hc : Cl c w cs v.cells) :
    ∃ c', (newVar t v).run P w = .ok ⟨w.heap.size, 0, none⟩ (w.alloc (.cells v.cells t)) ∧ Mem B c' (fup ob [(k, .box cs)]) (w.alloc (.cells v.cells t)) ∧ Ext c w c' (w.alloc (.cells v.cells t)) ∧ V c' (w.alloc (.cells v.cells t)) (.ptr k 0) (.pointer (some ⟨w.heap.size, 0, none⟩)) := by
  obtain ⟨h1, h2⟩ := hm.newBox hnw hk hc t
  refine ⟨_, ?_, h1, h2, .ptr k 0 _ _ (Cx.set_eq _ _ _) fun _ => ⟨_, rfl, rfl⟩⟩
  rfl
theorem alloc_ok (hm : Mem B c ob w) {T : Table} {t : TypeId} {ρ : Operand → Value} {o : Oper} (ho : o.op = .alloc t) {k : Nat} (hnw : c.inf k = none → 1000 ≤ k)
    (h : run T (opt (zeroC P t) fun cs => fresh ob k (.ret ⟨.ptr k 0, [(k, .box cs)], []⟩)) = some d) : Eff P B c ob w (execOp ρ o) d := by
  obtain ⟨cs, hcs, h⟩ := run_opt h
  obtain ⟨hk, h⟩ := run_fresh h
  have hd := run_ret h
  subst hd
  obtain ⟨i, z, hi, hz, hl, hc⟩ := zeroC_ok hcs
  obtain ⟨c', h1, h2, h3, h4⟩ := newVar_ok (P := P) hm hnw hk (t := t) (hc c w)
  refine ⟨_, _, c', .inl ?_, h2, h3, h4⟩
  unfold execOp
  simp only [ho]
  simp only [Instr.alloc, Sem.run_bind, run_zeroValue' hi hz, Result.andThen_ok, h1, Sem.run_pure]
theorem box_ok (hm : Mem B c ob w) {T : Table} {t : TypeId} {x : Operand} {ρ : Operand → Value} {a : AV} (ha : V c w a (ρ x)) {o : Oper} (ho : o.op = .box t x) {k : Nat} (hnw : c.inf k = none → 1000 ≤ k)
    (h : run T (opt (cellsA a) fun cs => fresh ob k (.ret ⟨.ptr k 0, [(k, .box cs)], []⟩)) = some d) : Eff P B c ob w (execOp ρ o) d := by
  obtain ⟨cs, hcs, h⟩ := run_opt h
  obtain ⟨hk, h⟩ := run_fresh h
  have hd := run_ret h
  subst hd
  obtain ⟨c', h1, h2, h3, h4⟩ := newVar_ok (P := P) hm hnw hk (t := t) (ha.cells hcs)
  refine ⟨_, _, c', .inl ?_, h2, h3, h4⟩
  unfold execOp
  simp only [ho]
  simp only [Instr.box, Sem.run_bind, h1, Result.andThen_ok, Sem.run_pure]

/-! ### frozen -/
def Frz (ob ob1 : Nat → Option AO) : Prop := ∀ o, ob1 o = ob o ∨ ∃ v t xs, ob o = some (.row v t xs) ∧ ob1 o = some (.fro v t xs)
theorem Frz.refl (ob : Nat → Option AO) : Frz ob ob := fun o => .inl rfl
theorem own_stays (hm : Mem B c ob w) {o v : Nat} {t : Ty} {xs : List t.D} (h : ob o = some (.fro v t xs)) {x : Value} (hx : V c w (.own o v) x) : V c w (.lst t xs) x := by
  obtain ⟨i, h1, h2, h3, h4, h5, h6⟩ := hm.obj o _ h
  obtain ⟨A, n, cp, i', rfl, k1, k2, k3⟩ := hx.inv_own
  rw [h1] at k1; cases k1
  have := own_lst h3 h4 h6 (lo := 0) (n := xs.length) (by omega) (h3 ▸ k3 h2.symm)
  simpa using this
theorem frz1_ok {ob1 : Nat → Option AO} (hm : Mem B c ob1 w) (hf : Frz ob ob1) {a b : AV} {fs : List (Nat × AO)} (h : frz1 ob a = some (b, fs)) {x : Value} (hx : V c w a x) :
    ∃ c', Mem B c' (fup ob1 fs) w ∧ Frz ob (fup ob1 fs) ∧ Ext c w c' w ∧ V c' w b x := by
  have triv : some (a, ([] : List (Nat × AO))) = some (b, fs) → ∃ c', Mem B c' (fup ob1 fs) w ∧ Frz ob (fup ob1 fs) ∧ Ext c w c' w ∧ V c' w b x := fun e => by
    simp only [Option.some.injEq, Prod.mk.injEq] at e
    obtain ⟨rfl, rfl⟩ := e
    exact ⟨c, hm, hf, .refl c w, hx⟩
  have fro : ∀ (o v : Nat) (t : Ty) (xs : List t.D), a = .own o v → (ob o = some (.row v t xs) ∨ ob o = some (.fro v t xs)) → some (AV.lst t xs, [(o, AO.fro v t xs)]) = some (b, fs) → ∃ c', Mem B c' (fup ob1 fs) w ∧ Frz ob (fup ob1 fs) ∧ Ext c w c' w ∧ V c' w b x := fun o v t xs ea ho e => by
    subst ea
    simp only [Option.some.injEq, Prod.mk.injEq] at e
    obtain ⟨rfl, rfl⟩ := e
    have already : ob1 o = some (.fro v t xs) → ∃ c', Mem B c' (fup ob1 [(o, .fro v t xs)]) w ∧ Frz ob (fup ob1 [(o, .fro v t xs)]) ∧ Ext c w c' w ∧ V c' w (.lst t xs) x := fun h1 => by
      have he : fup ob1 [(o, .fro v t xs)] = ob1 := by
        rw [fup_one]
        funext q
        split
        · rename_i hq; rw [hq, h1]
        · rfl
      rw [he]
      exact ⟨c, hm, hf, .refl c w, own_stays hm h1 hx⟩
    rcases hf o with h1 | ⟨v', t', xs', h1, h2⟩
    · rcases ho with ho | ho
      · rw [ho] at h1
        obtain ⟨k1, k2⟩ := hm.freeze h1
        refine ⟨_, k1, fun q => ?_, k2, own_stays k1 (by simp [fup]) (hx.ext k2)⟩
        rw [fup_one]
        by_cases hq : q = o
        · subst hq
          exact .inr ⟨v, t, xs, ho, by simp⟩
        · simpa [hq] using hf q
      · rw [ho] at h1
        exact already h1
    · rcases ho with ho | ho
      · rw [ho] at h1
        cases h1
        exact already h2
      · rw [ho] at h1; cases h1
  cases a <;> simp only [frz1, reduceCtorEq] at h
  case own o v =>
    split at h
    · rename_i v' t xs ho
      split at h
      · rename_i hv
        have := Nat.eq_of_beq_eq_true hv
        subst this
        exact fro o v' t xs rfl (.inl ho) h
      · cases h
    · rename_i v' t xs ho
      split at h
      · rename_i hv
        have := Nat.eq_of_beq_eq_true hv
        subst this
        exact fro o v' t xs rfl (.inr ho) h
      · cases h
    · cases h
  all_goals exact triv h
theorem frz_ok : ∀ (cs l : List AV) (fs : List (Nat × AO)), frz ob cs = some (l, fs) → ∀ (c : Cx) (ob1 : Nat → Option AO), Mem B c ob1 w → Frz ob ob1 → ∀ (g : Nat → Value), (∀ j y, cs[j]? = some y → V c w y (g j)) →
    ∃ c', Mem B c' (fup ob1 fs) w ∧ Frz ob (fup ob1 fs) ∧ Ext c w c' w ∧ l.length = cs.length ∧ ∀ j y, l[j]? = some y → V c' w y (g j)
  | [], l, fs, h, c, ob1, hm, hf, g, hg => by
    simp [frz] at h
    obtain ⟨rfl, rfl⟩ := h
    exact ⟨c, hm, hf, .refl c w, rfl, by simp⟩
  | a :: r, l, fs, h, c, ob1, hm, hf, g, hg => by
    simp only [frz] at h
    split at h
    · rename_i b f1 s f2 h1 h2
      simp only [Option.some.injEq, Prod.mk.injEq] at h
      obtain ⟨rfl, rfl⟩ := h
      obtain ⟨c1, k1, k2, k3, k4⟩ := frz1_ok hm hf h1 (hg 0 a rfl)
      obtain ⟨c2, m1, m2, m3, m4, m5⟩ := frz_ok r s f2 h2 c1 (fup ob1 f1) k1 k2 (fun j => g (j + 1)) fun j y hy => (hg (j + 1) y (by simpa using hy)).ext k3
      refine ⟨c2, by rw [fup_append]; exact m1, by rw [fup_append]; exact m2, k3.trans m3, by simp [m4], fun j y hy => ?_⟩
      cases j with
      | zero => simp at hy; subst hy; exact k4.ext m3
      | succ j => exact m5 j y (by simpa using hy)
    · cases h

theorem unview_ok : ∀ (t : Ty) (cs : List AV) (x : t.D), unview t cs = some x → cs.length = t.sz ∧ ∀ (c : Cx) (w : World) (g : Nat → Value), (∀ j y, cs[j]? = some y → V c w y (g j)) → ∀ j y, (view t x)[j]? = some y → V c w y (g j)
  | .i k, cs, x, h => by
    simp only [unview, unI] at h
    split at h
    · split at h
      · rename_i e
        simp only [Option.some.injEq] at h
        subst h e
        exact ⟨rfl, fun c w g hg => hg⟩
      · cases h
    · cases h
  | .b, cs, x, h => by
    simp only [unview, unB] at h
    split at h
    · simp only [Option.some.injEq] at h
      subst h
      exact ⟨rfl, fun c w g hg => hg⟩
    · cases h
  | .s, cs, x, h => by
    simp only [unview, unS] at h
    split at h
    · simp only [Option.some.injEq] at h
      subst h
      exact ⟨rfl, fun c w g hg => hg⟩
    · cases h
  | .u, cs, x, h => by
    simp only [unview, unU] at h
    split at h
    · exact ⟨rfl, fun c w g hg => hg⟩
    · cases h
  | .sl t, cs, x, h => by
    simp only [unview, unL] at h
    split at h
    · split at h
      · rename_i e
        subst e
        simp only [Option.some.injEq] at h
        subst h
        exact ⟨rfl, fun c w g hg => hg⟩
      · cases h
    · simp only [Option.some.injEq] at h
      subst h
      refine ⟨rfl, fun c w g hg j y hy => ?_⟩
      cases j with
      | zero =>
        simp [view] at hy
        subst hy
        obtain ⟨A, e⟩ := (hg 0 _ rfl).inv_nils
        rw [e]
        exact .lst t [] A 0 (fun _ => undef) (by simp) (fun h0 => by simp at h0) (fun j x hx => by simp at hx)
      | succ j => simp [view] at hy
    · cases h
  | .pr a b, cs, x, h => by
    simp only [unview] at h
    split at h
    · rename_i x1 y1 h1 h2
      simp only [Option.some.injEq] at h
      subst h
      obtain ⟨k1, k2⟩ := unview_ok a _ x1 h1
      obtain ⟨m1, m2⟩ := unview_ok b _ y1 h2
      have hl : cs.length = a.sz + b.sz := by
        simp only [List.length_take, List.length_drop] at k1 m1
        omega
      refine ⟨by simpa [Ty.sz] using hl, fun c w g hg j y hy => ?_⟩
      simp only [view, List.getElem?_append, view_len] at hy
      split at hy
      · refine k2 c w g (fun j y hy => ?_) j y hy
        rw [List.getElem?_take] at hy
        split at hy
        · exact hg j y hy
        · cases hy
      · rename_i hj
        have := m2 c w (fun j => g (a.sz + j)) (fun j y hy => by rw [List.getElem?_drop] at hy; exact hg _ y hy) (j - a.sz) y hy
        rwa [show a.sz + (j - a.sz) = j by omega] at this
    · cases h
theorem unview_strict : ∀ (t : Ty) (cs : List AV) (z : t.D), (∀ a, a ∈ cs → a ≠ .nils) → unview t cs = some z → view t z = cs
  | .i k, cs, z, hn, h => by
    simp only [unview, unI] at h
    split at h
    · split at h
      · rename_i e; subst e; simp only [Option.some.injEq] at h; subst h; rfl
      · cases h
    · cases h
  | .b, cs, z, hn, h => by
    simp only [unview, unB] at h
    split at h
    · simp only [Option.some.injEq] at h; subst h; rfl
    · cases h
  | .s, cs, z, hn, h => by
    simp only [unview, unS] at h
    split at h
    · simp only [Option.some.injEq] at h; subst h; rfl
    · cases h
  | .u, cs, z, hn, h => by
    simp only [unview, unU] at h
    split at h
    · rfl
    · cases h
  | .sl t, cs, z, hn, h => by
    simp only [unview, unL] at h
    split at h
    · split at h
      · rename_i e; subst e; simp only [Option.some.injEq] at h; subst h; rfl
      · cases h
    · exact absurd rfl (hn .nils (by simp))
    · cases h
  | .pr p q, cs, z, hn, h => by
    simp only [unview] at h
    split at h
    · rename_i x1 y1 h1 h2
      simp only [Option.some.injEq] at h
      subst h
      simp only [view]
      rw [unview_strict p _ x1 (fun a ha => hn a (List.mem_of_mem_take ha)) h1, unview_strict q _ y1 (fun a ha => hn a (List.mem_of_mem_drop ha)) h2, List.take_append_drop]
    · cases h
/-- a cell of an element is set -/
theorem unview_set : ∀ (t : Ty) (x : t.D) (off : Nat) (a : AV) (z : t.D), a ≠ .nils → unview t ((view t x).set off a) = some z → view t z = (view t x).set off a
  | .i k, x, off, a, z, ha, h => by
    cases off with
    | zero =>
      simp only [view, List.set_cons_zero, unview, unI] at h ⊢
      split at h
      · rename_i k' n e
        simp only [List.cons.injEq, and_true] at e
        subst e
        split at h
        · rename_i e; subst e; simp only [Option.some.injEq] at h; subst h; rfl
        · cases h
      · cases h
    | succ off =>
      simp only [view, List.set_cons_succ, List.set_nil, unview, unI, if_pos] at h ⊢
      simp only [Option.some.injEq] at h; subst h; rfl
  | .b, x, off, a, z, ha, h => by
    cases off with
    | zero =>
      simp only [view, List.set_cons_zero, unview, unB] at h ⊢
      split at h
      · rename_i n e
        simp only [List.cons.injEq, and_true] at e
        subst e
        simp only [Option.some.injEq] at h; subst h; rfl
      · cases h
    | succ off =>
      simp only [view, List.set_cons_succ, List.set_nil, unview, unB] at h ⊢
      simp only [Option.some.injEq] at h; subst h; rfl
  | .s, x, off, a, z, ha, h => by
    cases off with
    | zero =>
      simp only [view, List.set_cons_zero, unview, unS] at h ⊢
      split at h
      · rename_i n e
        simp only [List.cons.injEq, and_true] at e
        subst e
        simp only [Option.some.injEq] at h; subst h; rfl
      · cases h
    | succ off =>
      simp only [view, List.set_cons_succ, List.set_nil, unview, unS] at h ⊢
      simp only [Option.some.injEq] at h; subst h; rfl
  | .u, x, off, a, z, ha, h => by simp [view]
  | .sl t, x, off, a, z, ha, h => by
    cases off with
    | zero =>
      simp only [view, List.set_cons_zero, unview, unL] at h ⊢
      split at h
      · rename_i t' n e
        simp only [List.cons.injEq, and_true] at e
        subst e
        split at h
        · rename_i e; subst e; simp only [Option.some.injEq] at h; subst h; rfl
        · cases h
      · rename_i e
        simp only [List.cons.injEq, and_true] at e
        exact absurd e ha
      · cases h
    | succ off =>
      simp only [view, List.set_cons_succ, List.set_nil, unview, unL, dite_true] at h ⊢
      simp only [Option.some.injEq] at h; subst h; rfl
  | .pr p q, x, off, a, z, ha, h => by
    have hl := view_len p x.1
    simp only [unview] at h
    split at h
    · rename_i x1 y1 h1 h2
      simp only [Option.some.injEq] at h
      subst h
      simp only [view] at h1 h2 ⊢
      rw [List.set_append] at h1 h2 ⊢
      split at h1
      · rename_i hlt
        rw [if_pos hlt] at h2 ⊢
        rw [List.take_left' (by rw [List.length_set]; exact hl)] at h1
        rw [List.drop_left' (by rw [List.length_set]; exact hl)] at h2
        rw [unview_set p x.1 off a x1 ha h1]
        have := unview_set q x.2 (view q x.2).length a y1 ha (by rw [List.set_eq_of_length_le (Nat.le_refl _)]; exact h2)
        rw [List.set_eq_of_length_le (Nat.le_refl _)] at this
        rw [this]
      · rename_i hlt
        rw [if_neg hlt] at h2 ⊢
        rw [List.take_left' hl] at h1
        rw [List.drop_left' hl] at h2
        have := unview_set p x.1 (view p x.1).length a x1 ha (by rw [List.set_eq_of_length_le (Nat.le_refl _)]; exact h1)
        rw [List.set_eq_of_length_le (Nat.le_refl _)] at this
        rw [this, unview_set q x.2 _ a y1 ha h2]
    · cases h
/-- rows inside rows, where an element is set -/
theorem list_back {t : Ty} {xs : List t.D} {j : Nat} {y zz : t.D} (hx : xs[j]? = some y) (h : ∀ (q : Nat) (u : Ty) (l : List u.D), (view t zz)[q]? = some (AV.lst u l) → ∃ (u0 : Ty) (l0 : List u0.D), (view t y)[q]? = some (AV.lst u0 l0)) {jj q : Nat} {x : t.D} {u : Ty} {l : List u.D} (h1 : (xs.set j zz)[jj]? = some x) (h2 : (view t x)[q]? = some (AV.lst u l)) : ∃ (x0 : t.D) (u0 : Ty) (l0 : List u0.D), xs[jj]? = some x0 ∧ (view t x0)[q]? = some (AV.lst u0 l0) := by
  by_cases e : jj = j
  · subst e
    have hl : jj < xs.length := (List.getElem?_eq_some_iff.1 hx).1
    rw [List.getElem?_set_self hl] at h1
    have := Option.some.inj h1
    subst this
    obtain ⟨u0, l0, h3⟩ := h q u l h2
    exact ⟨y, u0, l0, hx, h3⟩
  · rw [List.getElem?_set_ne fun h => e h.symm] at h1
    exact ⟨x, u, l, h1, h2⟩
theorem list_set {t : Ty} {y zz : t.D} {off : Nat} {a : AV} (hv : view t zz = (view t y).set off a) (ha : ∀ (u : Ty) (l : List u.D), a = AV.lst u l → ∃ (u0 : Ty) (l0 : List u0.D), (view t y)[off]? = some (AV.lst u0 l0)) : ∀ (q : Nat) (u : Ty) (l : List u.D), (view t zz)[q]? = some (AV.lst u l) → ∃ (u0 : Ty) (l0 : List u0.D), (view t y)[q]? = some (AV.lst u0 l0) := fun q u l h => by
  rw [hv] at h
  by_cases e : off = q
  · subst e
    rw [List.getElem?_set] at h
    split at h
    · split at h
      · exact ha u l (Option.some.inj h)
      · cases h
    · exact ⟨u, l, h⟩
  · rw [List.getElem?_set_ne e] at h
    exact ⟨u, l, h⟩
end
end Go.Proofs.YtafjengmkiepbaaGreat.Am
end
section
/- What the machine of values does at an operation, the program does: stores. -/
namespace Go.Proofs.YtafjengmkiepbaaGreat.Am
open Go
set_option linter.constructorNameAsVariable false
set_option linter.unusedVariables false
set_option linter.unusedSimpArgs false
section
variable {P : Program} {B : Base} {c : Cx} {ob : Nat → Option AO} {w : World} {s : Sem Next} {d : Delta}

theorem setRow_other (w : World) (g : Nat) (cs : Array Value) {b : Nat} (h : b ≠ g) : (w.setRow g cs).heap[b]? = w.heap[b]? := by
  unfold World.setRow
  simp only [Array.getElem?_modify]
  rw [if_neg fun e => h e.symm]
theorem setRow_size (w : World) (g : Nat) (cs : Array Value) : (w.setRow g cs).heap.size = w.heap.size := by
  unfold World.setRow
  simp
theorem has_mem : ∀ (l : List Nat) (n : Nat), has l n = false → ¬ n ∈ l
  | [], n, _ => by simp
  | k :: l, n, h => by
    simp only [has] at h
    split at h
    · cases h
    · rename_i e
      have := Nat.ne_of_beq_eq_false e
      simp only [List.mem_cons, not_or]
      exact ⟨fun e => this e.symm, has_mem l n h⟩
theorem fup_not : ∀ (fs : List (Nat × AO)) (ob : Nat → Option AO) (o : Nat), ¬ o ∈ fs.map (·.1) → fup ob fs o = ob o
  | [], ob, o, _ => rfl
  | (k, x) :: r, ob, o, h => by
    simp only [List.map_cons, List.mem_cons, not_or] at h
    simp only [fup]
    rw [fup_not r _ o h.2, if_neg h.1]

/-- cells that are put into others -/
def spl (arr : Array Value) (p : Nat) (vs : List Value) : Array Value := (arr.toList.take p ++ vs ++ arr.toList.drop (p + vs.length)).toArray
theorem spl_size {arr : Array Value} {p : Nat} {vs : List Value} (h : p + vs.length ≤ arr.size) : (spl arr p vs).size = arr.size := by
  have : arr.toList.length = arr.size := by simp
  simp only [spl, List.size_toArray, List.length_append, List.length_take, List.length_drop]
  omega
theorem spl_get {arr : Array Value} {p : Nat} {vs : List Value} (h : p + vs.length ≤ arr.size) (j : Nat) : (spl arr p vs).getD j undef = if p ≤ j ∧ j < p + vs.length then vs.getD (j - p) undef else arr.getD j undef := by
  have hl : arr.toList.length = arr.size := by simp
  have ht : (arr.toList.take p).length = p := by rw [List.length_take]; omega
  have e : ∀ (a : Array Value) j, a.getD j undef = a.toList.getD j undef := fun a j => by simp [Array.getD_eq_getD_getElem?, List.getD_eq_getElem?_getD]
  rw [e, e]
  simp only [spl, List.getD_eq_getElem?_getD, List.getElem?_append, ht, List.length_append]
  by_cases h1 : j < p
  · rw [if_pos (by omega), if_pos h1, if_neg (by omega), List.getElem?_take, if_pos h1]
  · by_cases h2 : j < p + vs.length
    · rw [if_pos h2, if_neg h1, if_pos ⟨by omega, h2⟩]
    · rw [if_neg h2, if_neg (by omega), List.getElem?_drop]
      congr 2
      omega

theorem cl_get {cs : List AV} {vs : Array Value} (h : Cl c w cs vs) (j : Nat) (hj : j < cs.length) : vs.getD j undef = vs.toList.getD j undef := by
  simp [Array.getD_eq_getD_getElem?, List.getD_eq_getElem?_getD]
theorem splice_get {cs new : List AV} {off : Nat} (h : off + new.length ≤ cs.length) (j : Nat) : (splice cs off new)[j]? = if off ≤ j ∧ j < off + new.length then new[j - off]? else cs[j]? := by
  have ht : (cs.take off).length = off := by rw [List.length_take]; omega
  simp only [splice, List.getElem?_append, ht, List.length_append]
  by_cases h1 : j < off
  · rw [if_pos (by omega), if_pos h1, if_neg (by omega), List.getElem?_take, if_pos h1]
  · by_cases h2 : j < off + new.length
    · rw [if_pos h2, if_neg h1, if_pos ⟨by omega, h2⟩]
    · rw [if_neg h2, if_neg (by omega), List.getElem?_drop]
      congr 1
      omega
theorem splice_len {cs new : List AV} {off : Nat} (h : off + new.length ≤ cs.length) : (splice cs off new).length = cs.length := by
  simp only [splice, List.length_append, List.length_take, List.length_drop]
  omega
theorem Cl.spl {cs new : List AV} {arr vs : Array Value} {off : Nat} (h : Cl c w cs arr) (k : Cl c w new vs) (hf : off + new.length ≤ cs.length) : Cl c w (splice cs off new) (spl arr off vs.toList) := by
  have hvl : vs.toList.length = new.length := by simp [k.1]
  have hfa : off + vs.toList.length ≤ arr.size := by rw [hvl, h.1]; exact hf
  refine ⟨by rw [spl_size hfa, splice_len hf, h.1], fun j hj => ?_, fun j y hy => ?_⟩
  · rw [splice_len hf] at hj
    rw [spl_get hfa, hvl]
    split
    · rename_i hc
      rw [← cl_get k _ (by omega)]
      exact k.2.1 _ (by omega)
    · exact h.2.1 j hj
  · rw [splice_get hf] at hy
    rw [spl_get hfa, hvl]
    split
    · rename_i hc
      rw [if_pos hc] at hy
      rw [← cl_get k _ (by omega)]
      exact k.2.2 _ y hy
    · rename_i hc
      rw [if_neg hc] at hy
      exact h.2.2 j y hy

theorem run_storeVar_at {t : TypeId} {n : Nat} (hsz : szOf P t = some n) {b p : Nat} {arr : Array Value} {e : TypeId} (hb : w.heap[b]? = some (.cells arr e (0, 0))) {v : Value} (hv : v.cells.size = n) (hf : p + n ≤ arr.size) (h1 : ∀ j, j < n → (v.cells.getD j undef).oneCell' = true) :
    (storeVar t ⟨b, p, none⟩ v).run P w = .ok () (w.setRow b (spl arr p v.cells.toList)) := by
  have hone : ∀ u ∈ v.cells.toList, u.oneCell' = true := fun u hu => by
    obtain ⟨j, hj, rfl⟩ := List.getElem_of_mem hu
    have hj' : j < n := by simpa [hv] using hj
    have := h1 j hj'
    simpa [Array.getD_eq_getD_getElem?, hv, hj'] using this
  have hst := run_storeCells_at (P := P) b p e v.cells.toList 0 arr w hb (by simp [hv]; omega) hone
  simp only [Nat.add_zero] at hst
  simp only [storeVar, Sem.run_bind, run_sizeOf' hsz, Result.andThen_ok]
  rw [if_neg (by simp [hv])]
  exact hst

/-- a store into a block of one's own -/
theorem Mem.write (hm : Mem B c ob w) {k : Nat} {x x' : AO} {i : Inf} {b : Nat} {arr' : Array Value} (hx : ob k = some x) (hl : live x = true) (hi : c.inf k = some i) (hb : i.blk = some b)
    (hor : Ext c w (c.set k i) (w.setRow b arr') → OR (c.set k i) (w.setRow b arr') k x') (hof : ∀ b, ofB x' i b → ofB x i b := by exact fun _ h => h) :
    Mem B (c.set k i) (fup ob [(k, x')]) (w.setRow b arr') ∧ Ext c w (c.set k i) (w.setRow b arr') := by
  refine hm.put k x' i _ rfl rfl rfl (by rw [setRow_size]; exact Nat.le_refl _) (fun b' hb' hB => setRow_other w b arr' fun e => hB ⟨x, i, hx, hl, hi, by rw [e]; exact ofB_blk hb⟩) (fun j hj => ?_) hor (fun b' _ hb' => .inl ⟨x, i, hx, hl, hi, hof b' hb'⟩)
  rw [hi] at hj
  cases hj
  exact ⟨Nat.le_refl _, fun _ => rfl⟩

theorem beq_true {a b : Nat} (h : Nat.beq a b = true) : a = b := Nat.eq_of_beq_eq_true h
theorem ble_true {a b : Nat} (h : Nat.ble a b = true) : a ≤ b := Nat.le_of_ble_eq_true h

/-! ### rows of one's own that go into a row of rows -/
theorem plainV_mv {c c' : Cx} {w w' : World} {a : AV} {v : Value} (h : plainV a = true) (hv : V c w a v) : V c' w' a v := by
  cases hv <;> simp only [plainV, Bool.false_eq_true] at h
  case i k n => exact .i k n
  case b x => exact .b x
  case s x => exact .s x
theorem frz_cells : ∀ (cs l : List AV) (fs : List (Nat × AO)), frz ob cs = some (l, fs) → absOk ob cs = true → l.length = cs.length ∧ (∀ o1, o1 ∈ fs.map (·.1) → ∃ (r v : Nat), cs[r]? = some (AV.own o1 v)) ∧ ∀ (r : Nat) (a : AV), cs[r]? = some a → (plainV a = true ∧ l[r]? = some a) ∨ ∃ (o1 v : Nat) (t : Ty) (xs : List t.D), a = AV.own o1 v ∧ ob o1 = some (.row v t xs) ∧ l[r]? = some (AV.lst t xs) ∧ o1 ∈ fs.map (·.1)
  | [], l, fs, h, _ => by
    simp only [frz, Option.some.injEq, Prod.mk.injEq] at h
    obtain ⟨rfl, rfl⟩ := h
    exact ⟨rfl, by simp, by simp⟩
  | a :: q, l, fs, h, hok => by
    simp only [absOk, Bool.and_eq_true] at hok
    simp only [frz] at h
    split at h
    · rename_i b f1 s f2 h1 h2
      simp only [Option.some.injEq, Prod.mk.injEq] at h
      obtain ⟨rfl, rfl⟩ := h
      obtain ⟨k1, k2, k3⟩ := frz_cells q s f2 h2 hok.2
      have head : (plainV a = true ∧ b = a ∧ f1 = []) ∨ ∃ (o1 v : Nat) (t : Ty) (xs : List t.D), a = AV.own o1 v ∧ ob o1 = some (.row v t xs) ∧ b = AV.lst t xs ∧ f1 = [(o1, .fro v t xs)] := by
        cases a with
        | own o1 v =>
          refine .inr ?_
          have ho := hok.1
          simp only [abs1] at ho
          split at ho
          · rename_i v' t xs he
            simp only [frz1, he] at h1
            split at h1
            · rename_i hv
              have := Nat.eq_of_beq_eq_true hv
              subst this
              simp only [Option.some.injEq, Prod.mk.injEq] at h1
              exact ⟨o1, v', t, xs, rfl, he, h1.1.symm, h1.2.symm⟩
            · cases h1
          · cases ho
        | i k n => simp only [frz1, Option.some.injEq, Prod.mk.injEq] at h1; exact .inl ⟨rfl, h1.1.symm, h1.2.symm⟩
        | b x => simp only [frz1, Option.some.injEq, Prod.mk.injEq] at h1; exact .inl ⟨rfl, h1.1.symm, h1.2.symm⟩
        | s x => simp only [frz1, Option.some.injEq, Prod.mk.injEq] at h1; exact .inl ⟨rfl, h1.1.symm, h1.2.symm⟩
        | _ => simp [abs1, plainV] at hok
      refine ⟨by simp [k1], fun o1 ho => ?_, fun r a' hr => ?_⟩
      · rw [List.map_append, List.mem_append] at ho
        rcases ho with ho | ho
        · rcases head with ⟨_, _, e⟩ | ⟨o2, v, t, xs, e1, _, _, e⟩
          · rw [e] at ho; cases ho
          · rw [e] at ho
            simp at ho
            subst ho
            exact ⟨0, v, by simp [e1]⟩
        · obtain ⟨r, v, hr⟩ := k2 o1 ho
          exact ⟨r + 1, v, by simpa using hr⟩
      · cases r with
        | zero =>
          simp at hr
          subst hr
          rcases head with ⟨h1, h2, _⟩ | ⟨o2, v, t, xs, e1, e2, e3, e⟩
          · exact .inl ⟨h1, by simp [h2]⟩
          · exact .inr ⟨o2, v, t, xs, e1, e2, by simp [e3], by simp [e]⟩
        | succ r =>
          rcases k3 r a' (by simpa using hr) with h | ⟨o2, v, t, xs, e1, e2, e3, e⟩
          · exact .inl ⟨h.1, by simpa using h.2⟩
          · exact .inr ⟨o2, v, t, xs, e1, e2, by simpa using e3, by rw [List.map_append]; exact List.mem_append_right _ e⟩
    · cases h
theorem nodup1_mem : ∀ (l : List Nat), nodup1 l = true → l.Nodup
  | [], _ => List.nodup_nil
  | a :: r, h => by
    simp only [nodup1] at h
    split at h
    · cases h
    · rename_i hh
      exact List.nodup_cons.2 ⟨has_mem _ _ hh, nodup1_mem r h⟩
theorem frz_inj : ∀ (cs l : List AV) (fs : List (Nat × AO)), frz ob cs = some (l, fs) → absOk ob cs = true → (fs.map (·.1)).Nodup → ∀ (r r' o1 v v' : Nat), cs[r]? = some (AV.own o1 v) → cs[r']? = some (AV.own o1 v') → r = r'
  | [], l, fs, h, _, _, r, r', o1, v, v', h1, _ => by simp at h1
  | a :: q, l, fs, h, hok, hn, r, r', o1, v, v', h1, h2 => by
    have hall := frz_cells (a :: q) l fs h hok
    simp only [absOk, Bool.and_eq_true] at hok
    simp only [frz] at h
    split at h
    · rename_i b f1 s f2 g1 g2
      simp only [Option.some.injEq, Prod.mk.injEq] at h
      obtain ⟨rfl, rfl⟩ := h
      rw [List.map_append, List.nodup_append] at hn
      have tl := frz_cells q s f2 g2 hok.2
      have keyIn : ∀ (r v : Nat), q[r]? = some (AV.own o1 v) → o1 ∈ f2.map (·.1) := fun r v hr => by
        rcases tl.2.2 r _ hr with h | ⟨o2, v2, t, xs, e1, _, _, e⟩
        · simp [plainV] at h
        · cases e1; exact e
      have headIn : ∀ (v : Nat), a = AV.own o1 v → o1 ∈ f1.map (·.1) := fun v e => by
        subst e
        simp only [frz1] at g1
        split at g1
        · split at g1
          · simp only [Option.some.injEq, Prod.mk.injEq] at g1; rw [← g1.2]; simp
          · cases g1
        · split at g1
          · simp only [Option.some.injEq, Prod.mk.injEq] at g1; rw [← g1.2]; simp
          · cases g1
        · cases g1
      cases r with
      | zero =>
        cases r' with
        | zero => rfl
        | succ r' =>
          simp at h1 h2
          exact absurd rfl (hn.2.2 o1 (headIn v h1) o1 (keyIn r' v' h2))
      | succ r =>
        cases r' with
        | zero =>
          simp at h1 h2
          exact absurd rfl (hn.2.2 o1 (headIn v' h2) o1 (keyIn r v h1))
        | succ r' =>
          rw [frz_inj q s f2 g2 hok.2 hn.2.1 r r' o1 v v' (by simpa using h1) (by simpa using h2)]
    · cases h
theorem fup_deads : ∀ (fs : List (Nat × AO)) (ob : Nat → Option AO) (o : Nat), fup ob (deads fs) o = if o ∈ fs.map (·.1) then some .dead else ob o
  | [], ob, o => by simp [deads, fup]
  | (q, x) :: r, ob, o => by
    simp only [deads, fup]
    rw [fup_deads r]
    by_cases h : o ∈ r.map (·.1)
    · rw [if_pos h, if_pos (by simp [List.mem_map] at h ⊢; exact .inr h)]
    · rw [if_neg h]
      by_cases e : o = q
      · subst e; simp
      · rw [if_neg e, if_neg]
        simp [List.mem_map] at h ⊢
        exact ⟨e, h⟩
theorem nest_view : ∀ (t : Ty) (x : t.D) (q : Nat) (u : Ty) (l : List u.D), nestT t = true → (view t x)[q]? = some (AV.lst u l) → immT u = false
  | .i k, x, q, u, l, _, h => by cases q <;> simp [view] at h
  | .b, x, q, u, l, _, h => by cases q <;> simp [view] at h
  | .s, x, q, u, l, _, h => by cases q <;> simp [view] at h
  | .u, x, q, u, l, _, h => by simp [view] at h
  | .sl t, x, q, u, l, hn, h => by
    cases q with
    | zero =>
      simp only [view, List.getElem?_cons_zero, Option.some.injEq, AV.lst.injEq] at h
      obtain ⟨rfl, _⟩ := h
      simpa [nestT] using hn
    | succ q => simp [view] at h
  | .pr a b, x, q, u, l, hn, h => by
    simp only [nestT, Bool.and_eq_true] at hn
    simp only [view, List.getElem?_append] at h
    split at h
    · exact nest_view a x.1 _ u l hn.1 h
    · exact nest_view b x.2 _ u l hn.2 h
/-- a row of one's own as a row inside -/
theorem own_nest (hm : Mem B c ob w) {o v : Nat} {t : Ty} {xs : List t.D} (ho : ob o = some (.row v t xs)) {x : Value} (hx : V c w (.own o v) x) (hi : immT t = false) {S : Nat → Prop} (hS : ∀ b, Blk c ob o b → S b) : Nest w S t xs x ∧ ∀ b, nb x = some b → Blk c ob o b := by
  obtain ⟨i, h1, h2, h3, h4, h5, h6⟩ := hm.obj o _ ho
  obtain ⟨A, n, cp, i', rfl, k1, k2, k3⟩ := hx.inv_own
  rw [h1] at k1; cases k1
  have hd := k3 h2.symm
  rw [h3] at hd
  obtain ⟨A', cp', e, q1, q2, q3⟩ := hd
  cases e
  refine ⟨⟨A, cp, rfl, q1, hi, fun h0 => ?_⟩, fun b hb => ?_⟩
  · obtain ⟨b, hb, rfl⟩ := q3 h0
    rcases h6 with ⟨h6, _⟩ | ⟨b', arr, el, p1, p2, p3, p4, p5⟩
    · rw [hb] at h6; cases h6
    rw [hb] at p1; cases p1
    refine ⟨b, i.off, arr, el, by simp, hS b ⟨_, i, ho, rfl, h1, hb⟩, p2, by rw [show cp = i.cap by omega]; exact p3, fun j y hy q z hz => ⟨view_mv (c := ⟨c.inf, fun _ => False⟩) (fun _ h => h.elim) (fun _ h => h.elim) hz ((p4 j y hy q z hz).1.noimm w rfl (view_imm t y q z hi hz)), (p4 j y hy q z hz).2⟩⟩
  · cases cp with
    | zero => cases A <;> simp [nb] at hb
    | succ n =>
      obtain ⟨b', hb', rfl⟩ := q3 (by omega)
      have : b' = b := by simpa [nb] using hb
      subst this
      exact ⟨_, i, ho, rfl, h1, hb'⟩
theorem absorb_ok (hm : Mem B c ob w) {T : Table} {k o v j off : Nat} (hk1 : 1000 ≤ k) {u : Ty} {xs : List u.D} (ho : ob o = some (.tree u xs)) {xc : List AV} {vs : Array Value} (hcl : Cl c w xc vs) {z : Value} (ha : V c w (.eptr o v j off) z) (h : run T (absorbA ob k o v j off u xs xc) = some d) :
    ∃ b p arr el c', z = .pointer (some ⟨b, p, none⟩) ∧ w.heap[b]? = some (.cells arr el (0, 0)) ∧ p + xc.length ≤ arr.size ∧ Mem B c' (fup ob d.ow) (w.setRow b (spl arr p vs.toList)) ∧ Ext c w c' (w.setRow b (spl arr p vs.toList)) ∧ d.v = .und := by
  unfold absorbA at h
  obtain ⟨⟨l, fs⟩, hfz, hA⟩ := run_opt h
  clear h
  have h := hA
  clear hA
  split at h
  case h_2 => exact (run_fail h).elim
  rename_i hck
  simp only [Bool.and_eq_true] at hck
  obtain ⟨hv, hoff, hlen, hok, hnest, hnd⟩ := hck
  have hv := beq_true hv
  have hoff := beq_true hoff
  have hlen := beq_true hlen
  have hnd := nodup1_mem _ hnd
  rw [List.nodup_cons] at hnd
  subst hv hoff
  simp only [run] at h
  split at h
  case h_2 => cases h
  rename_i y hy
  obtain ⟨zz, hzz, h⟩ := run_opt h
  obtain ⟨hk, h⟩ := run_fresh h
  have hd := run_ret h
  subst hd
  obtain ⟨fl, fk, fc⟩ := frz_cells xc l fs hfz hok
  have finj := frz_inj xc l fs hfz hok hnd.2
  have hvz : view u zz = l := unview_strict u l zz (fun a ha e => by
    obtain ⟨r, hr, e1⟩ := List.getElem_of_mem ha
    have hr' : r < xc.length := by omega
    rcases fc r _ (List.getElem?_eq_getElem hr') with ⟨h1, h2⟩ | ⟨o1, v1, t, ys, h1, h2, h3, h4⟩
    · rw [List.getElem?_eq_getElem hr, Option.some.injEq, e1, e] at h2
      rw [← h2] at h1
      simp [plainV] at h1
    · rw [List.getElem?_eq_getElem hr, e1, e] at h3
      cases h3) hzz
  obtain ⟨i, h1, h2, h3, h4, h5, h6, h7⟩ := hm.obj o _ ho
  obtain ⟨ad, i', e1, hi', hvle, hp⟩ := ha.inv_eptr
  rw [h1] at hi'; cases hi'
  obtain ⟨hjl, b, hb, rfl⟩ := hp h2.symm
  rcases h7 with ⟨h7, _⟩ | ⟨b', arr, el, k1, k2, k3, k4, k5, k6⟩
  · rw [hb] at h7; cases h7
  rw [hb] at k1; cases k1
  have hjx : j < xs.length := (List.getElem?_eq_some_iff.1 hy).1
  have hxs : xs.length * u.sz ≤ i.cap * u.sz := Nat.mul_le_mul_right _ h5
  have hj1 : (j + 1) * u.sz ≤ xs.length * u.sz := Nat.mul_le_mul_right _ hjx
  rw [Nat.add_mul, Nat.one_mul] at hj1
  have hvl : vs.toList.length = u.sz := by have := hcl.1; simp; omega
  have hfit : i.off + j * i.sz + 0 + xc.length ≤ arr.size := by rw [h4]; omega
  have hfit' : i.off + j * i.sz + 0 + vs.toList.length ≤ arr.size := by rw [hvl, ← hlen]; exact hfit
  refine ⟨b, i.off + j * i.sz + 0, arr, el, c.set k { i with S := fun b => i.S b ∨ ∃ o1, o1 ∈ fs.map (·.1) ∧ Blk c ob o1 b, N := fun jj q => if jj = j then vs.getD q undef else i.N jj q }, e1, k2, hfit, ?_⟩
  have hoBlk : ∀ b', i.blk = some b' ∨ i.S b' → Blk c ob o b' := fun b' hb' => ⟨_, i, ho, rfl, h1, hb'⟩
  have hfsrow : ∀ o1, o1 ∈ fs.map (·.1) → ∃ (r v : Nat) (t : Ty) (ys : List t.D), xc[r]? = some (AV.own o1 v) ∧ ob o1 = some (.row v t ys) ∧ l[r]? = some (AV.lst t ys) := fun o1 ho1 => by
    obtain ⟨r, v, hr⟩ := fk o1 ho1
    rcases fc r _ hr with h | ⟨o2, v2, t, ys, e1, e2, e3, _⟩
    · simp [plainV] at h
    · cases e1
      exact ⟨r, v, t, ys, hr, e2, e3⟩
  have hko : k ≠ o := fun e => by rw [e, ho] at hk; cases hk
  have hkfs : ¬ k ∈ fs.map (·.1) := fun hh => by
    obtain ⟨r, v, t, ys, _, h2, _⟩ := hfsrow k hh
    rw [hk] at h2; cases h2
  have hob' : ∀ q, fup ob (deads fs ++ [(o, .fwd k), (k, .tree u (xs.set j zz))]) q = if q = k then some (.tree u (xs.set j zz)) else if q = o then some (.fwd k) else if q ∈ fs.map (·.1) then some .dead else ob q := fun q => by
    rw [fup_append]
    simp only [fup, fup_deads]
  have hdis : ∀ o1 b', o1 ∈ fs.map (·.1) → Blk c ob o1 b' → Blk c ob o b' → False := fun o1 b' ho1 ⟨x1, i1, a1, a2, a3, a4⟩ ⟨x2, i2, b1, b2, b3, b4⟩ => by
    have := hm.inj o1 o x1 x2 i1 i2 b' a1 b1 a2 b2 a3 b3 a4 b4
    subst this
    exact hnd.1 ho1
  have hSb : ∀ b', (i.S b' ∨ ∃ o1, o1 ∈ fs.map (·.1) ∧ Blk c ob o1 b') → b' ≠ b := fun b' hb' e => by
    subst e
    rcases hb' with hb' | ⟨o1, ho1, hb'⟩
    · exact k4 hb'
    · exact hdis o1 b' ho1 hb' (hoBlk b' (.inl hb))
  have hother : ∀ b', b' ≠ b → (w.setRow b (spl arr (i.off + j * i.sz + 0) vs.toList)).heap[b']? = w.heap[b']? := fun b' hb' => setRow_other w b _ hb'
  have hput := hm.absorb (ob' := fup ob (deads fs ++ [(o, .fwd k), (k, .tree u (xs.set j zz))])) (o :: fs.map (·.1)) k (.tree u (xs.set j zz)) { i with S := fun b => i.S b ∨ ∃ o1, o1 ∈ fs.map (·.1) ∧ Blk c ob o1 b, N := fun jj q => if jj = j then vs.getD q undef else i.N jj q } (w.setRow b (spl arr (i.off + j * i.sz + 0) vs.toList)) rfl rfl rfl (by rw [setRow_size]; exact Nat.le_refl _)
    (fun b' _ hn => hother b' fun e => hn ⟨o, by simp, hoBlk b' (.inl (by rw [e]; exact hb))⟩) hk hk1 (by rw [hob', if_pos rfl])
    (fun ext o1 ho1 => ?_) (fun q hq hn => ?_) (fun ext => ?_) (fun b' hb' => ?_)
  · exact ⟨hput.1, hput.2, rfl⟩
  · rcases List.mem_cons.1 ho1 with e | ho1
    · subst e
      exact ⟨.fwd k, by rw [hob', if_neg (Ne.symm hko), if_pos rfl], rfl, rfl, ⟨i, _, (Cx.set_ne c _ (Ne.symm hko)).trans h1, Cx.set_eq _ _ _, h2, fun _ => ⟨rfl, rfl, rfl, rfl, rfl⟩⟩⟩
    · refine ⟨.dead, ?_, rfl, rfl, trivial⟩
      rw [hob', if_neg (fun (e : o1 = k) => hkfs (by rw [← e]; exact ho1)), if_neg (fun (e : o1 = o) => hnd.1 (by rw [← e]; exact ho1)), if_pos ho1]
  · rw [hob', if_neg hq, if_neg (fun e => hn (by simp [e])), if_neg (fun hh => hn (List.mem_cons_of_mem _ hh))]
  · refine ⟨_, Cx.set_eq _ _ _, h2, by simpa using h3, h4, by simpa using h5, fun b' hb' => ?_, .inr ⟨b, _, el, hb, setRow_heap w b arr _ el (0, 0) k2, by rw [spl_size hfit']; exact k3, fun hh => hSb b hh rfl, ?_, ?_⟩⟩
    · rw [setRow_size]
      rcases hb' with hb' | hb' | ⟨o1, ho1, hb'⟩
      · exact h6 b' (.inl hb')
      · exact h6 b' (.inr hb')
      · exact hm.blk hb'
    · intro jj xx hxx q' yy hyy
      have hq' : q' < u.sz := by rw [← view_len u xx]; exact (List.getElem?_eq_some_iff.1 hyy).1
      show NC _ _ jj q' yy ((spl arr (i.off + j * i.sz + 0) vs.toList).getD (i.off + (jj * u.sz + q')) undef)
      rw [spl_get hfit', hvl]
      by_cases hjj : jj = j
      · subst hjj
        have hxz : xx = zz := by
          have : (xs.set jj zz)[jj]? = some zz := by simp [hjx]
          rw [this] at hxx
          exact (Option.some.inj hxx).symm
        subst hxz
        rw [hvz] at hyy
        rw [if_pos (by rw [h4]; omega)]
        rw [show i.off + (jj * u.sz + q') - (i.off + jj * i.sz + 0) = q' by rw [h4]; omega, ← cl_get hcl _ (by omega)]
        have hcell := List.getElem?_eq_getElem (l := xc) (i := q') (by omega)
        refine ⟨hcl.2.1 q' (by omega), fun u1 l1 e => ?_, fun him => ?_⟩
        · subst e
          refine ⟨by simp, ?_⟩
          rcases fc q' _ hcell with ⟨g1, g2⟩ | ⟨o1, v1, t, ys, g1, g2, g3, g4⟩
          · rw [hyy] at g2
            rw [← Option.some.inj g2] at g1
            simp [plainV] at g1
          · rw [hyy] at g3
            cases g3
            have hx := hcl.2.2 q' _ hcell
            rw [g1] at hx
            have hvw : (view u xx)[q']? = some (AV.lst u1 l1) := by rw [hvz]; exact hyy
            have := (own_nest hm g2 hx (nest_view u xx q' u1 l1 hnest hvw) (S := fun b => i.S b ∨ ∃ o1, o1 ∈ fs.map (·.1) ∧ Blk c ob o1 b) fun b' hb' => .inr ⟨o1, g4, hb'⟩).1
            exact this.mv fun b' hb' => hother b' (hSb b' hb')
        · rcases fc q' _ hcell with ⟨g1, g2⟩ | ⟨o1, v1, t, ys, g1, g2, g3, g4⟩
          · rw [hyy] at g2
            have hx := hcl.2.2 q' _ hcell
            rw [← Option.some.inj g2] at g1 hx
            exact plainV_mv g1 hx
          · rw [hyy] at g3
            cases g3
            cases him
      · have hxx2 : xs[jj]? = some xx := by rwa [List.getElem?_set_ne (fun e => hjj e.symm)] at hxx
        have hjj1 : jj < xs.length := (List.getElem?_eq_some_iff.1 hxx2).1
        rw [if_neg ?_]
        · obtain ⟨g1, g2, g3⟩ := k5 jj xx hxx2 q' yy hyy
          refine ⟨g1, fun u1 l1 e => ⟨?_, ?_⟩, fun him => view_mv (c := ⟨fun _ => none, fun _ => False⟩) (fun _ h => h.elim) (fun _ h => h.elim) hyy (g3 him)⟩
          · show _ = if jj = j then _ else _
            rw [if_neg hjj]
            exact (g2 u1 l1 e).1
          · obtain ⟨A, cp, m1, m2, m3, m4⟩ := (g2 u1 l1 e).2
            refine ⟨A, cp, m1, m2, m3, fun h0 => ?_⟩
            obtain ⟨b1, off1, arr1, el1, p1, p2, p3, p4, p5⟩ := m4 h0
            exact ⟨b1, off1, arr1, el1, p1, .inl p2, (hother b1 (hSb b1 (.inl p2))).trans p3, p4, cells_mv p5⟩
        · rintro ⟨hA, hB⟩
          rw [h4] at hA hB
          rcases Nat.lt_or_gt_of_ne hjj with hlt | hgt
          · have := Nat.mul_le_mul_right u.sz (show jj + 1 ≤ j by omega)
            rw [Nat.add_mul, Nat.one_mul] at this
            omega
          · have := Nat.mul_le_mul_right u.sz (show j + 1 ≤ jj by omega)
            rw [Nat.add_mul, Nat.one_mul] at this
            omega
    · -- what is known of a row inside
      have info : ∀ (jj q : Nat) (x1 : u.D) (u1 : Ty) (l1 : List u1.D) (b' : Nat), (xs.set j zz)[jj]? = some x1 → (view u x1)[q]? = some (AV.lst u1 l1) → nb (if jj = j then vs.getD q undef else i.N jj q) = some b' → (jj = j ∧ ∃ (o1 v1 : Nat), xc[q]? = some (AV.own o1 v1) ∧ o1 ∈ fs.map (·.1) ∧ Blk c ob o1 b') ∨ (jj ≠ j ∧ xs[jj]? = some x1 ∧ i.S b') := fun jj q x1 u1 l1 b' a1 a2 a3 => by
        by_cases hjj : jj = j
        · subst hjj
          rw [if_pos rfl] at a3
          have hxz : x1 = zz := by
            have : (xs.set jj zz)[jj]? = some zz := by simp [hjx]
            rw [this] at a1
            exact (Option.some.inj a1).symm
          subst hxz
          rw [hvz] at a2
          have hq : q < xc.length := by rw [← fl]; exact (List.getElem?_eq_some_iff.1 a2).1
          have hcell := List.getElem?_eq_getElem (l := xc) (i := q) hq
          rcases fc q _ hcell with ⟨g1, g2⟩ | ⟨o1, v1, t, ys, g1, g2, g3, g4⟩
          · rw [a2] at g2
            rw [← Option.some.inj g2] at g1
            simp [plainV] at g1
          · have hx := hcl.2.2 q _ hcell
            rw [g1] at hx
            rw [a2] at g3
            cases g3
            have hvw : (view u x1)[q]? = some (AV.lst u1 l1) := by rw [hvz]; exact a2
            exact .inl ⟨rfl, o1, v1, by rw [hcell, g1], g4, (own_nest hm g2 hx (nest_view u x1 q u1 l1 hnest hvw) (S := fun _ => True) fun _ _ => trivial).2 b' a3⟩
        · rw [if_neg hjj] at a3
          have hxx2 : xs[jj]? = some x1 := by rwa [List.getElem?_set_ne (fun e => hjj e.symm)] at a1
          refine .inr ⟨hjj, hxx2, ?_⟩
          obtain ⟨_, g2, _⟩ := k5 jj x1 hxx2 q _ a2
          obtain ⟨n1, A, cp, m1, m2, m3, m4⟩ := g2 u1 l1 rfl
          rw [← n1, m1] at a3
          cases cp with
          | zero => cases A <;> simp [nb] at a3
          | succ n =>
            obtain ⟨b1, off1, arr1, el1, p1, p2, _⟩ := m4 (by omega)
            rw [p1] at a3
            have : b1 = b' := by simpa [nb] using a3
            exact this ▸ p2
      intro j1 q1 j2 q2 b' x1 x2 u1 l1 u2 l2 g1 g2 g3 g4 g5 g6
      rcases info j1 q1 x1 u1 l1 b' g1 g2 g5 with ⟨e1, o1, v1, a1, a2, a3⟩ | ⟨e1, a1, a2⟩
      · rcases info j2 q2 x2 u2 l2 b' g3 g4 g6 with ⟨e2, o2, v2, c1, c2, c3⟩ | ⟨e2, c1, c2⟩
        · obtain ⟨y1, i1, d1, d2, d3, d4⟩ := a3
          obtain ⟨y2, i2, f1, f2, f3, f4⟩ := c3
          have := hm.inj o1 o2 y1 y2 i1 i2 b' d1 f1 d2 f2 d3 f3 d4 f4
          subst this
          exact ⟨e1.trans e2.symm, finj q1 q2 o1 v1 v2 a1 c1⟩
        · exact (hdis o1 b' a2 a3 (hoBlk b' (.inr c2))).elim
      · rcases info j2 q2 x2 u2 l2 b' g3 g4 g6 with ⟨e2, o2, v2, c1, c2, c3⟩ | ⟨e2, c1, c2⟩
        · exact (hdis o2 b' c2 c3 (hoBlk b' (.inr a2))).elim
        · have g5' : nb (i.N j1 q1) = some b' := by
            have : (if j1 = j then vs.getD q1 undef else i.N j1 q1) = i.N j1 q1 := if_neg e1
            rw [← this]; exact g5
          have g6' : nb (i.N j2 q2) = some b' := by
            have : (if j2 = j then vs.getD q2 undef else i.N j2 q2) = i.N j2 q2 := if_neg e2
            rw [← this]; exact g6
          exact k6 j1 q1 j2 q2 b' x1 x2 u1 l1 u2 l2 a1 g2 c1 g4 g5' g6'
  · rcases hb' with hb' | hb' | ⟨o1, ho1, hb'⟩
    · exact .inl ⟨o, by simp, hoBlk b' (.inl hb')⟩
    · exact .inl ⟨o, by simp, hoBlk b' (.inr hb')⟩
    · exact .inl ⟨o1, List.mem_cons_of_mem _ ho1, hb'⟩

theorem storeA_ok (hm : Mem B c ob w) {tmd : Bool} {kk : Nat} {T : Table} {t : TypeId} {n : Nat} (hsz : szOf P t = some n) {p x : Operand} {ρ : Operand → Value} {a z : AV} (ha : V c w a (ρ p)) (hz : V c w z (ρ x)) (hk1 : 1000 ≤ kk) (h : run T (storeA ob tmd kk n a z) = some d) {o : Oper} (ho : o.op = .store t p x) :
    Eff P B c ob w (execOp ρ o) d := by
  unfold execOp
  simp only [ho]
  have fin : ∀ (xc : List AV), cellsA z = some xc → xc.length = n → ∀ (b q : Nat) (arr : Array Value) (e : TypeId), ρ p = .pointer (some ⟨b, q, none⟩) → w.heap[b]? = some (.cells arr e (0, 0)) → q + n ≤ arr.size →
      ((do (Instr.storeAt t (ρ p) (ρ x)); pure Next.skip : Sem Next).run P w = .ok .skip (w.setRow b (spl arr q (ρ x).cells.toList))) := fun xc hxc hxl b q arr e e1 e2 e3 => by
    have hcl := hz.cells hxc
    have hvs : (ρ x).cells.size = n := hcl.1.trans hxl
    simp only [Sem.run_bind, Instr.storeAt, Instr.sureAddr, e1, Sem.run_pure, Result.andThen_ok, run_storeVar_at hsz e2 hvs e3 (fun j hj => hcl.2.1 j (by omega))]
  cases a
  case ptr q off =>
    simp only [storeA] at h
    obtain ⟨xc, hxc, h⟩ := run_opt h
    split at h
    case h_1 => exact (run_fail h).elim
    rename_i hxl
    have hxl := beq_true hxl
    have hcl := hz.cells hxc
    have hvs : (ρ x).cells.size = n := hcl.1.trans hxl
    split at h
    · rename_i cs hq
      split at h
      · rename_i hle
        have hle := ble_true hle
        have hd := run_ret h
        subst hd
        obtain ⟨i, b, arr, el, h1, h2, h3, h4, h5, h6⟩ := hm.obj q _ hq
        obtain ⟨ad, i', e1, hi', hp⟩ := ha.inv_ptr
        rw [h1] at hi'; cases hi'
        obtain ⟨b', hb', rfl⟩ := hp h2
        rw [h3] at hb'; cases hb'
        obtain ⟨k1, k2⟩ := hm.write (x' := .box (splice cs off xc)) (arr' := spl arr off (ρ x).cells.toList) hq rfl h1 h3 fun ext =>
          ⟨i, b, _, el, Cx.set_eq _ _ _, h2, h3, setRow_heap w b arr _ el (0, 0) h4, (h5.spl hcl (by omega)).ext ext, h6⟩
        exact ⟨_, _, _, .inr ⟨fin xc hxc hxl b off arr el e1 h4 (by rw [h5.1]; omega), rfl⟩, k1, k2, .und⟩
      · exact (run_fail h).elim
    · exact (run_fail h).elim
  case eptr q v j off =>
    simp only [storeA] at h
    obtain ⟨xc, hxc, h⟩ := run_opt h
    split at h
    case h_1 => exact (run_fail h).elim
    rename_i hxl
    have hxl := beq_true hxl
    have hcl := hz.cells hxc
    have hvs : (ρ x).cells.size = n := hcl.1.trans hxl
    split at h
    · rename_i v' u xs hq
      split at h
      · rename_i hv
        have hv := beq_true hv
        subst hv
        obtain ⟨⟨l, fs⟩, hfz, h⟩ := run_opt h
        simp only [run] at h
        split at h
        case h_2 => cases h
        rename_i y hy
        split at h
        case h_2 => exact (run_fail h).elim
        rename_i hle hnot
        have hle := ble_true hle
        have hnot := has_mem _ _ hnot
        obtain ⟨zz, hzz, h⟩ := run_opt h
        have hd := run_ret h
        subst hd
        obtain ⟨c1, m1, m2, m3, m4, m5⟩ := frz_ok xc l fs hfz c ob hm (.refl ob) (fun j => (ρ x).cells.getD j undef) (fun j y hy => hcl.2.2 j y hy)
        have hq1 : fup ob fs q = some (.row v' u xs) := by rw [fup_not fs ob q hnot]; exact hq
        have ha1 := ha.ext m3
        obtain ⟨i, h1, h2, h3, h4, h5, h6⟩ := m1.obj q _ hq1
        obtain ⟨ad, i', e1, hi', hvle, hp⟩ := ha1.inv_eptr
        rw [h1] at hi'; cases hi'
        obtain ⟨hjl, b, hb, rfl⟩ := hp h2.symm
        rcases h6 with ⟨h6, h7⟩ | ⟨b', arr, el, k1, k2, k3, k4, k5⟩
        · rw [hb] at h6; cases h6
        rw [hb] at k1; cases k1
        have hjx : j < xs.length := (List.getElem?_eq_some_iff.1 hy).1
        have hxs : xs.length * u.sz ≤ i.cap * u.sz := Nat.mul_le_mul_right _ h5
        have hj1 : (j + 1) * u.sz ≤ xs.length * u.sz := Nat.mul_le_mul_right _ hjx
        rw [Nat.add_mul, Nat.one_mul] at hj1
        have hvl : (ρ x).cells.toList.length = n := by simp [hvs]
        have hfit : i.off + j * u.sz + off + n ≤ arr.size := by omega
        have hfit' : i.off + j * u.sz + off + (ρ x).cells.toList.length ≤ arr.size := by rw [hvl]; exact hfit
        have hcells : Ext c1 w (c1.set q i) (w.setRow b (spl arr (i.off + j * u.sz + off) (ρ x).cells.toList)) → Cells (c1.set q i) (w.setRow b (spl arr (i.off + j * u.sz + off) (ρ x).cells.toList)) (spl arr (i.off + j * u.sz + off) (ρ x).cells.toList) i.off u (xs.set j zz) := by
          intro ext jj xx hxx q' yy hyy
          obtain ⟨hul, huv⟩ := unview_ok u _ zz hzz
          have hlen : off + l.length ≤ (view u y).length := by rw [view_len, m4]; omega
          have hq' : q' < u.sz := by rw [← view_len u xx]; exact (List.getElem?_eq_some_iff.1 hyy).1
          by_cases hjj : jj = j
          · subst hjj
            have hxz : xx = zz := by
              have : (xs.set jj zz)[jj]? = some zz := by simp [hjx]
              rw [this] at hxx
              exact (Option.some.inj hxx).symm
            subst hxz
            have key : ∀ r yv, (splice (view u y) off l)[r]? = some yv → V c1 w yv ((spl arr (i.off + jj * u.sz + off) (ρ x).cells.toList).getD (i.off + (jj * u.sz + r)) undef) ∧ ((spl arr (i.off + jj * u.sz + off) (ρ x).cells.toList).getD (i.off + (jj * u.sz + r)) undef).oneCell' = true := by
              intro r yv hr
              rw [splice_get hlen] at hr
              rw [spl_get hfit', hvl]
              by_cases hin : off ≤ r ∧ r < off + l.length
              · rw [if_pos hin] at hr
                rw [if_pos (by omega)]
                rw [show i.off + (jj * u.sz + r) - (i.off + jj * u.sz + off) = r - off by omega, ← cl_get hcl _ (by omega)]
                exact ⟨m5 _ yv hr, hcl.2.1 _ (by omega)⟩
              · rw [if_neg hin] at hr
                have hru : r < u.sz := by rw [← view_len u y]; exact (List.getElem?_eq_some_iff.1 hr).1
                rw [if_neg (by omega)]
                exact k4 jj y hy r yv hr
            refine ⟨(huv c1 w _ (fun r yv hr => (key r yv hr).1) q' yy hyy).ext ext, ?_⟩
            have hq2 : q' < (splice (view u y) off l).length := by rw [splice_len hlen, view_len]; exact hq'
            exact (key q' _ (List.getElem?_eq_getElem hq2)).2
          · have hxx2 : xs[jj]? = some xx := by rwa [List.getElem?_set_ne (fun e => hjj e.symm)] at hxx
            have hjj1 : jj < xs.length := (List.getElem?_eq_some_iff.1 hxx2).1
            rw [spl_get hfit', hvl, if_neg ?_]
            · exact ⟨(k4 jj xx hxx2 q' yy hyy).1.ext ext, (k4 jj xx hxx2 q' yy hyy).2⟩
            · rintro ⟨hA, hB⟩
              rcases Nat.lt_or_gt_of_ne hjj with hlt | hgt
              · have := Nat.mul_le_mul_right u.sz (show jj + 1 ≤ j by omega)
                rw [Nat.add_mul, Nat.one_mul] at this
                omega
              · have := Nat.mul_le_mul_right u.sz (show j + 1 ≤ jj by omega)
                rw [Nat.add_mul, Nat.one_mul] at this
                omega
        obtain ⟨r1, r2⟩ := m1.write (x' := .row v' u (xs.set j zz)) (arr' := spl arr (i.off + j * u.sz + off) (ρ x).cells.toList) hq1 rfl h1 hb fun ext =>
          ⟨i, Cx.set_eq _ _ _, h2, by simpa using h3, h4, by simpa using h5, .inr ⟨b, _, el, hb, setRow_heap w b arr _ el (0, 0) k2, by rw [spl_size hfit']; exact k3, hcells ext, k5⟩⟩
        exact ⟨_, _, _, .inr ⟨fin xc hxc hxl b _ arr el (by rw [e1, h4]) k2 hfit, rfl⟩, by rw [fup_append]; exact r1, m3.trans r2, .und⟩
      · exact (run_fail h).elim
    · rename_i u xs hq
      split at h
      · obtain ⟨b, p', arr, el, c', e1, e2, e3, r1, r2, r3⟩ := absorb_ok hm hk1 hq hcl ha h
        exact ⟨undef, _, c', .inr ⟨fin xc hxc hxl b p' arr el e1 e2 (by omega), rfl⟩, r1, r2, by rw [r3]; exact .und⟩
      obtain ⟨z, hus, h⟩ := run_opt h
      have hus : xc = [.s z] := by
        unfold unS at hus
        split at hus
        · simp only [Option.some.injEq] at hus; subst hus; rfl
        · cases hus
      subst hus
      split at h
      case h_2 => exact (run_fail h).elim
      rename_i hv
      have hv := beq_true hv
      subst hv
      simp only [run] at h
      split at h
      case h_2 => cases h
      rename_i y hy
      split at h
      case h_2 => exact (run_fail h).elim
      rename_i old hyo
      obtain ⟨zz, hzz, h⟩ := run_opt h
      have hd := run_ret h
      subst hd
      have hn : n = 1 := by simpa using hxl.symm
      subst hn
      obtain ⟨i, h1, h2, h3, h4, h5, h6, h7⟩ := hm.obj q _ hq
      obtain ⟨ad, i', e1, hi', hvle, hp⟩ := ha.inv_eptr
      rw [h1] at hi'; cases hi'
      obtain ⟨hjl, b, hb, rfl⟩ := hp h2.symm
      rcases h7 with ⟨h7, _⟩ | ⟨b', arr, el, k1, k2, k3, k4, k5, k6⟩
      · rw [hb] at h7; cases h7
      rw [hb] at k1; cases k1
      have hvz := unview_set u y off _ zz (by simp) hzz
      have hou : off < u.sz := by rw [← view_len u y]; exact (List.getElem?_eq_some_iff.1 hyo).1
      have hjx : j < xs.length := (List.getElem?_eq_some_iff.1 hy).1
      have hxs : xs.length * u.sz ≤ i.cap * u.sz := Nat.mul_le_mul_right _ h5
      have hj1 : (j + 1) * u.sz ≤ xs.length * u.sz := Nat.mul_le_mul_right _ hjx
      rw [Nat.add_mul, Nat.one_mul] at hj1
      have hvl : (ρ x).cells.toList.length = 1 := by simp [hvs]
      have hfit : i.off + j * u.sz + off + 1 ≤ arr.size := by omega
      have hfit' : i.off + j * u.sz + off + (ρ x).cells.toList.length ≤ arr.size := by rw [hvl]; exact hfit
      have hne : ∀ b', i.S b' → (w.setRow b (spl arr (i.off + j * u.sz + off) (ρ x).cells.toList)).heap[b']? = w.heap[b']? := fun b' hb' => setRow_other w b _ fun e => k4 (by rw [← e]; exact hb')
      have hmv : ∀ jj xx q' yy v, xs[jj]? = some xx → (view u xx)[q']? = some yy → NC w i jj q' yy v → NC (w.setRow b (spl arr (i.off + j * u.sz + off) (ρ x).cells.toList)) i jj q' yy v := fun jj xx q' yy v hxx hyy hnc =>
        ⟨hnc.1, fun u l e => ⟨(hnc.2.1 u l e).1, (hnc.2.1 u l e).2.mv hne⟩, fun hm => view_mv (c := ⟨fun _ => none, fun _ => False⟩) (fun _ h => h.elim) (fun _ h => h.elim) hyy (hnc.2.2 hm)⟩
      have hcells : ∀ jj xx, (xs.set j zz)[jj]? = some xx → ∀ q' yy, (view u xx)[q']? = some yy → NC (w.setRow b (spl arr (i.off + j * u.sz + off) (ρ x).cells.toList)) i jj q' yy ((spl arr (i.off + j * u.sz + off) (ρ x).cells.toList).getD (i.off + (jj * u.sz + q')) undef) := by
        intro jj xx hxx q' yy hyy
        have hq' : q' < u.sz := by rw [← view_len u xx]; exact (List.getElem?_eq_some_iff.1 hyy).1
        rw [spl_get hfit', hvl]
        by_cases hjj : jj = j
        · subst hjj
          have hxz : xx = zz := by
            have : (xs.set jj zz)[jj]? = some zz := by simp [hjx]
            rw [this] at hxx
            exact (Option.some.inj hxx).symm
          subst hxz
          rw [hvz] at hyy
          by_cases hoq : off = q'
          · subst hoq
            rw [if_pos (by omega)]
            rw [List.getElem?_set_self (by rw [view_len]; exact hou)] at hyy
            have hyy := (Option.some.inj hyy).symm
            subst hyy
            rw [show i.off + (jj * u.sz + off) - (i.off + jj * u.sz + off) = 0 by omega, ← cl_get hcl _ (by simp)]
            refine ⟨hcl.2.1 0 (by simp), (fun u l e => nomatch e), fun _ => ?_⟩
            rw [V.inv_s (hcl.2.2 0 _ rfl)]
            exact .s z
          · rw [if_neg (by omega)]
            rw [List.getElem?_set_ne hoq] at hyy
            exact hmv jj y q' yy _ hy hyy (k5 jj y hy q' yy hyy)
        · have hxx2 : xs[jj]? = some xx := by rwa [List.getElem?_set_ne (fun e => hjj e.symm)] at hxx
          have hjj1 : jj < xs.length := (List.getElem?_eq_some_iff.1 hxx2).1
          rw [if_neg ?_]
          · exact hmv jj xx q' yy _ hxx2 hyy (k5 jj xx hxx2 q' yy hyy)
          · rintro ⟨hA, hB⟩
            rcases Nat.lt_or_gt_of_ne hjj with hlt | hgt
            · have := Nat.mul_le_mul_right u.sz (show jj + 1 ≤ j by omega)
              rw [Nat.add_mul, Nat.one_mul] at this
              omega
            · have := Nat.mul_le_mul_right u.sz (show j + 1 ≤ jj by omega)
              rw [Nat.add_mul, Nat.one_mul] at this
              omega
      obtain ⟨r1, r2⟩ := hm.write (x' := .tree u (xs.set j zz)) (arr' := spl arr (i.off + j * u.sz + off) (ρ x).cells.toList) hq rfl h1 hb fun ext =>
        ⟨i, Cx.set_eq _ _ _, h2, by simpa using h3, h4, by simpa using h5, fun b' hb' => ⟨by rw [setRow_size]; exact (h6 b' hb').1, (h6 b' hb').2⟩, .inr ⟨b, _, el, hb, setRow_heap w b arr _ el (0, 0) k2, by rw [spl_size hfit']; exact k3, k4, hcells, fun j1 q1 j2 q2 b' x1 x2 u1 l1 u2 l2 g1 g2 g3 g4 => by
            have back := list_set hvz (fun u l e => nomatch e)
            obtain ⟨x10, u10, l10, g5, g6⟩ := list_back hy back g1 g2
            obtain ⟨x20, u20, l20, g7, g8⟩ := list_back hy back g3 g4
            exact k6 j1 q1 j2 q2 b' x10 x20 u10 l10 u20 l20 g5 g6 g7 g8⟩⟩
      exact ⟨_, _, _, .inr ⟨fin _ hxc hxl b _ arr el (by rw [e1, h4]) k2 hfit, rfl⟩, r1, r2, .und⟩
    · exact (run_fail h).elim
  all_goals
    simp only [storeA] at h
    obtain ⟨xc, hxc, h⟩ := run_opt h
    split at h <;> exact (run_fail h).elim
end
end Go.Proofs.YtafjengmkiepbaaGreat.Am
end
section
/- What the machine of values does at an operation, the program does: places, parts, rows that are written out. -/
namespace Go.Proofs.YtafjengmkiepbaaGreat.Am
open Go
set_option linter.constructorNameAsVariable false
set_option linter.unusedVariables false
set_option linter.unusedSimpArgs false
section
variable {P : Program} {B : Base} {c : Cx} {ob : Nat → Option AO} {w : World} {s : Sem Next} {d : Delta}

theorem add_add' (a : Addr) (i j : Nat) : (a.add i).add j = a.add (i + j) := by
  unfold Addr.add
  split <;> split <;> split <;> simp_all <;> omega
theorem fieldsOf_eq {t : TypeId} {fs : List Field} (h : fieldsOf P t = some fs) : ∃ a : Array Field, P.underlying t = some (.struct a) ∧ a.toList = fs := by
  unfold fieldsOf at h
  split at h
  · exact ⟨_, ‹_›, by simpa using h⟩
  · cases h
theorem placeF_eq {fs : List Field} {f : Nat} {pl : Nat × Nat} (h : placeF P fs f = some pl) : ∃ fd, fs[f]? = some fd ∧ szOf P fd.type = some pl.2 ∧ pl.1 = fd.offset := by
  unfold placeF at h
  split at h
  · rename_i fd hfd
    split at h
    · rename_i n hn
      simp only [Option.some.injEq] at h
      subst h
      exact ⟨fd, hfd, hn, rfl⟩
    · cases h
  · cases h

theorem fieldAddr_ok (hm : Mem B c ob w) {T : Table} {t : TypeId} {f : Nat} {x : Operand} {ρ : Operand → Value} {a : AV} (ha : V c w a (ρ x)) {o : Oper} (ho : o.op = .fieldAddr t x f)
    (h : run T (opt (fieldsOf P t) fun fs => opt (placeF P fs f) fun pl => match pl.2 with
      | 0 => .fail
      | _ => match a with
        | .ptr o off => now (.ptr o (off + pl.1))
        | .eptr o v j off => now (.eptr o v j (off + pl.1))
        | .rp cs => now (.rp (cs.drop pl.1))
        | _ => .fail) = some d) : Eff P B c ob w (execOp ρ o) d := by
  obtain ⟨fs, hfs, h1⟩ := run_opt h
  clear h
  obtain ⟨pl, hpl, h⟩ := run_opt h1
  clear h1
  obtain ⟨fa, hu, hfa⟩ := fieldsOf_eq hfs
  obtain ⟨fd, hfd, hsz, hoff⟩ := placeF_eq hpl
  have hne : pl.2 = 0 → False := fun e => by
    simp only [e] at h
    exact run_fail h
  have h2 : run T (match a with
        | .ptr o off => now (.ptr o (off + pl.1))
        | .eptr o v j off => now (.eptr o v j (off + pl.1))
        | .rp cs => now (.rp (cs.drop pl.1))
        | _ => .fail) = some d := by
    cases e : pl.2 with
    | zero => exact (hne e).elim
    | succ n => simpa only [e] using h
  clear h
  have h := h2
  clear h2
  have hfd' : fa[f]? = some fd := by rw [← hfd, ← hfa]; simp
  have go : ∀ ad, ρ x = .pointer (some ad) → (execOp ρ o).run P w = .ok (.value (.pointer (some (ad.add pl.1)))) w := fun ad e => by
    unfold execOp
    simp only [ho]
    have hz : ¬ pl.2 = 0 := fun e => hne e
    simp [Instr.fieldAt, run_underlying hu, hfd', Instr.sureAddr, e, fieldPlace, run_sizeOf' hsz, hz, hoff]
  cases a <;> simp only at h
  case ptr q off =>
    obtain ⟨ad, i, e, hi, hp⟩ := ha.inv_ptr
    refine .now hm h (go ad e) (.ptr q _ _ i hi fun h0 => ?_)
    obtain ⟨b, hb, rfl⟩ := hp h0
    exact ⟨b, hb, add_mid' b off pl.1⟩
  case eptr q v j off =>
    obtain ⟨ad, i, e, hi, hv, hp⟩ := ha.inv_eptr
    refine .now hm h (go ad e) (.eptr q v j _ _ i hi hv fun h0 => ?_)
    obtain ⟨hj, b, hb, rfl⟩ := hp h0
    exact ⟨hj, b, hb, by rw [add_mid', Nat.add_assoc]⟩
  case rp cs =>
    obtain ⟨ad, g, e, hF, hc, hv⟩ := ha.inv_rp
    refine .now hm h (go ad e) (.rp _ _ (fun j => g (pl.1 + j)) (by rw [add_block']; exact hF) (fun j hj => ?_) (fun j y hy => ?_))
    · rw [List.length_drop] at hj
      rw [add_add']
      exact hc _ (by omega)
    · rw [List.getElem?_drop] at hy
      exact hv _ y hy
  all_goals exact (run_fail h).elim

/-- a part of a value -/
theorem part_ok {t : TypeId} {n off : Nat} (hsz : szOf P t = some n) {cs l : List AV} (hl : cut cs off n = some l) {x : AV} (hx : mkA P t l = some x) {vs : Array Value} (hc : Cl c w cs vs) : ∃ v, (part t vs off).run P w = .ok v w ∧ V c w x v := by
  obtain ⟨hll, hlg⟩ := cut_eq hl
  have hlt : ∀ j, j < n → off + j < cs.length := fun j hj => by
    have hcs : (cs[off + j]?).isSome = true := by rw [← hlg j hj]; simp [hll, hj]
    simpa using hcs
  unfold mkA at hx
  split at hx
  · rename_i e
    simp only [Option.some.injEq] at hx
    subst hx
    have hsize : (vs.extract off (off + n)).size = n := by
      rw [Array.size_extract]
      cases n with
      | zero => omega
      | succ m => have := hlt m (by omega); have := hc.1; omega
    have hget : ∀ j, j < n → (vs.extract off (off + n)).getD j undef = vs.getD (off + j) undef := fun j hj => by
      have h1 := hlt j hj
      have h2 : off + j < vs.size := by rw [hc.1]; exact h1
      have h3 : j < (vs.extract off (off + n)).size := by rw [hsize]; exact hj
      rw [Array.getD_eq_getD_getElem?, Array.getD_eq_getD_getElem?, Array.getElem?_eq_getElem h3, Array.getElem?_eq_getElem h2, Array.getElem_extract]
    refine ⟨.agg (vs.extract off (off + n)), by simp [part, run_isAgg' e, run_sizeOf' hsz], .agg _ _ (by rw [hsize, hll]) (fun j hj => ?_) (fun j y hy => ?_)⟩
    · rw [hll] at hj
      rw [hget j hj]
      exact hc.2.1 _ (hlt j hj)
    · have hj : j < n := by have := (List.getElem?_eq_some_iff.1 hy).1; omega
      rw [hget j hj]
      rw [hlg j hj] at hy
      exact hc.2.2 _ y hy
  · rename_i e
    split at hx
    · rename_i y
      simp only [Option.some.injEq] at hx
      subst hx
      have hn : n = 1 := by simpa using hll.symm
      subst hn
      have h0 := hlt 0 (by omega)
      have hy0 : cs[off]? = some y := by have := hlg 0 (by omega); simpa using this.symm
      have hlt2 : off < vs.size := by rw [hc.1]; simpa using h0
      refine ⟨vs.getD off undef, ?_, hc.2.2 off y hy0⟩
      simp [part, run_isAgg' e, hlt2]
    · cases hx
  · cases hx

theorem field_ok (hm : Mem B c ob w) {T : Table} {t : TypeId} {f : Nat} {x : Operand} {ρ : Operand → Value} {a : AV} (ha : V c w a (ρ x)) {o : Oper} (ho : o.op = .field t x f)
    (h : run T (opt (fieldsOf P t) fun fs => opt (fs[f]?) fun fd => opt (szOf P fd.type) fun n => match a with
      | .agg cs => opt (cut cs fd.offset n) fun l => opt (mkA P fd.type l) now
      | _ => .fail) = some d) : Eff P B c ob w (execOp ρ o) d := by
  obtain ⟨fs, hfs, h1⟩ := run_opt h
  clear h
  obtain ⟨fd, hfd, h2⟩ := run_opt h1
  clear h1
  obtain ⟨n, hsz, h⟩ := run_opt h2
  clear h2
  obtain ⟨fa, hu, hfa⟩ := fieldsOf_eq hfs
  have hfd' : fa[f]? = some fd := by rw [← hfd, ← hfa]; simp
  cases a <;> simp only at h
  case agg cs =>
    obtain ⟨l, hl, h⟩ := run_opt h
    obtain ⟨y, hy, h⟩ := run_opt h
    obtain ⟨vs, e, hc⟩ := ha.inv_agg
    obtain ⟨v, h1, h2⟩ := part_ok hsz hl hy hc
    refine .now hm h (v := v) ?_ h2
    unfold execOp
    simp only [ho]
    simp [Instr.field, run_underlying hu, hfd', e, asAgg, h1]
  all_goals exact (run_fail h).elim

theorem extract_ok (hm : Mem B c ob w) {T : Table} {i : Nat} {x : Operand} {ρ : Operand → Value} {a : AV} (ha : V c w a (ρ x)) {o : Oper} (ho : o.op = .extract x i)
    (h : run T (match a with | .tup vs => opt (vs[i]?) now | _ => .fail) = some d) : Eff P B c ob w (execOp ρ o) d := by
  cases a <;> simp only at h
  case tup cs =>
    obtain ⟨y, hy, h⟩ := run_opt h
    obtain ⟨vs, e, hs, hv⟩ := ha.inv_tup
    have hlt : i < vs.size := by rw [hs]; exact (List.getElem?_eq_some_iff.1 hy).1
    refine .now hm h (v := vs.getD i undef) ?_ (hv i y hy)
    unfold execOp
    simp only [ho]
    simp [Instr.extract, e, hlt]
  all_goals exact (run_fail h).elim

theorem nilCheck_ok (hm : Mem B c ob w) {T : Table} {x : Operand} {ρ : Operand → Value} {a : AV} (ha : V c w a (ρ x)) {o : Oper} (ho : o.op = .nilCheck x)
    (h : run T (match a with
      | .ptr o off => now (.ptr o off)
      | .eptr o v j off => now (.eptr o v j off)
      | .rp cs => now (.rp cs)
      | .fn f cs => now (.fn f cs)
      | _ => .fail) = some d) : Eff P B c ob w (execOp ρ o) d := by
  have go : ∀ v, ρ x = v → (∃ ad, v = .pointer (some ad)) ∨ (∃ f vs, v = .func (.func f) #[] vs) → (execOp ρ o).run P w = .ok (.value v) w := fun v e k => by
    unfold execOp
    simp only [ho]
    rcases k with ⟨ad, rfl⟩ | ⟨f, vs, rfl⟩ <;> simp [e]
  cases a <;> simp only at h
  case ptr q off =>
    obtain ⟨ad, i, e, _⟩ := ha.inv_ptr
    exact .now hm h (go _ rfl (.inl ⟨ad, e⟩)) ha
  case eptr q v j off =>
    obtain ⟨ad, i, e, _⟩ := ha.inv_eptr
    exact .now hm h (go _ rfl (.inl ⟨ad, e⟩)) ha
  case rp cs =>
    obtain ⟨ad, g, e, _⟩ := ha.inv_rp
    exact .now hm h (go _ rfl (.inl ⟨ad, e⟩)) ha
  case fn f cs =>
    obtain ⟨vs, e, _⟩ := ha.inv_fn
    exact .now hm h (go _ rfl (.inr ⟨f, vs, e⟩)) ha
  all_goals exact (run_fail h).elim

theorem makeFunc_ok (hm : Mem B c ob w) {T : Table} {f : FuncId} {a cs : Array Operand} {ρ : Operand → Value} {ev : Operand → AV} (hev : ∀ x, V c w (ev x) (ρ x)) {o : Oper} (ho : o.op = .makeFunc (.func f) a cs)
    (h : run T (match a.size with | 0 => now (.fn f (cs.toList.map ev)) | _ => .fail) = some d) : Eff P B c ob w (execOp ρ o) d := by
  split at h
  · rename_i h0
    have ha : a = #[] := by simpa using h0
    subst ha
    refine .now hm h (v := .func (.func f) #[] (cs.map ρ)) ?_ (.fn f _ _ (by simp) fun j y hy => ?_)
    · unfold execOp
      simp only [ho]
      simp [Instr.makeFunc]
    · rw [List.getElem?_map] at hy
      obtain ⟨z, hz, rfl⟩ := Option.map_eq_some_iff.1 hy
      have hlt : j < cs.size := by simpa using (List.getElem?_eq_some_iff.1 hz).1
      have hz' : cs[j] = z := by
        have := (List.getElem?_eq_some_iff.1 hz).2
        simpa using this
      have : (cs.map ρ).getD j undef = ρ z := by simp [hlt, hz']
      rw [this]
      exact hev z
  · exact (run_fail h).elim

theorem pick_ok (hm : Mem B c ob w) {T : Table} {x y z : Operand} {ρ : Operand → Value} {a b e : AV} (ha : V c w a (ρ x)) (hb : V c w b (ρ y)) (he : V c w e (ρ z)) {o : Oper} (ho : o.op = .pick x y z)
    (h : run T (match a, b, e with
      | .b x, .b p, .b q => now (.b (match x with | true => p | false => q))
      | .b x, p, q => .br x (now p) (now q)
      | _, _, _ => .fail) = some d) : Eff P B c ob w (execOp ρ o) d := by
  cases a
  case b x1 =>
    have ex := V.inv_b ha
    have gen : run T (.br x1 (now b) (now e)) = some d → Eff P B c ob w (execOp ρ o) d := fun h => by
      cases x1 with
      | true => exact .now hm (T := T) (a := b) h (v := ρ y) (by unfold execOp; simp only [ho]; simp [ex, asBool]) hb
      | false => exact .now hm (T := T) (a := e) h (v := ρ z) (by unfold execOp; simp only [ho]; simp [ex, asBool]) he
    have h' : run T (.br x1 (now b) (now e)) = some d := by
      cases b <;> cases e <;> first | exact h | (cases x1 <;> exact h)
    exact gen h'
  all_goals
    simp only at h
    exact (run_fail h).elim
end
end Go.Proofs.YtafjengmkiepbaaGreat.Am
end
section
/- What the machine of values does at an operation, the program does: structs and rows that are built, elements, lengths, cuts. -/
namespace Go.Proofs.YtafjengmkiepbaaGreat.Am
open Go
set_option linter.constructorNameAsVariable false
set_option linter.unusedVariables false
set_option linter.unusedSimpArgs false
section
variable {P : Program} {B : Base} {c : Cx} {ob : Nat → Option AO} {w : World} {s : Sem Next} {d : Delta}

/-- cells that are filled in, one after the other -/
theorem fold_get (off : Nat) : ∀ (l : List Value) (k : Nat) (cells : Array Value), ((l.zipIdx k).foldl (fun (cs : Array Value) (p : Value × Nat) => cs.setIfInBounds (off + p.2) p.1) cells).size = cells.size ∧
    ∀ i, off + k + l.length ≤ cells.size → ((l.zipIdx k).foldl (fun (cs : Array Value) (p : Value × Nat) => cs.setIfInBounds (off + p.2) p.1) cells).getD i undef = if off + k ≤ i ∧ i < off + k + l.length then l.getD (i - (off + k)) undef else cells.getD i undef
  | [], k, cells => by
    refine ⟨rfl, fun i _ => ?_⟩
    rw [if_neg (by simp)]
    rfl
  | v :: r, k, cells => by
    obtain ⟨h1, h2⟩ := fold_get off r (k + 1) (cells.setIfInBounds (off + k) v)
    refine ⟨by simpa using h1, fun i hi => ?_⟩
    simp only [List.length_cons] at hi
    simp only [List.zipIdx_cons, List.foldl_cons]
    rw [h2 i (by simp; omega)]
    simp only [List.length_cons]
    by_cases e1 : off + (k + 1) ≤ i ∧ i < off + (k + 1) + r.length
    · rw [if_pos e1, if_pos (by omega)]
      rw [show i - (off + k) = (i - (off + (k + 1))) + 1 by omega, List.getD_cons_succ]
    · rw [if_neg e1]
      by_cases e2 : i = off + k
      · subst e2
        rw [if_pos (by omega)]
        have hlt : off + k < cells.size := by omega
        simp [hlt]
      · rw [if_neg (by omega)]
        simp only [Array.getD_eq_getD_getElem?]
        rw [Array.getElem?_setIfInBounds_ne (fun e => e2 e.symm)]

theorem Cl.of_get {cs : List AV} {arr arr' : Array Value} (h : Cl c w cs arr) (hs : arr'.size = arr.size) (hg : ∀ i, arr'.getD i undef = arr.getD i undef) : Cl c w cs arr' :=
  ⟨hs.trans h.1, fun j hj => by rw [hg]; exact h.2.1 j hj, fun j y hy => by rw [hg]; exact h.2.2 j y hy⟩

theorem fillA_len (place : Nat → Option (Nat × Nat)) : ∀ (ps : List (Nat × AV)) (cs l : List AV), fillA place cs ps = some l → l.length = cs.length
  | [], cs, l, h => by
    simp only [fillA, Option.some.injEq] at h
    rw [h]
  | (i, a) :: r, cs, l, h => by
    simp only [fillA] at h
    split at h
    · cases h
    split at h
    · cases h
    split at h
    case h_2 => cases h
    rename_i h1 h2
    have h1 := beq_true h1
    have h2 := ble_true h2
    rw [fillA_len place r _ l h, splice_len (by omega)]
theorem fill_ok (place : Nat → Option (Nat × Nat)) {ev : Operand → AV} {ρ : Operand → Value} (hev : ∀ x, V c w (ev x) (ρ x)) : ∀ (ps : List (Nat × Operand)) (cs l : List AV) (arr : Array Value), Cl c w cs arr → fillA place cs (ps.map fun p => (p.1, ev p.2)) = some l →
    ∃ arr', Instr.fill place arr (ps.map fun p => (p.1, ρ p.2)) = some arr' ∧ Cl c w l arr'
  | [], cs, l, arr, hc, h => by
    simp only [List.map_nil, fillA, Option.some.injEq] at h
    subst h
    exact ⟨arr, rfl, hc⟩
  | (i, x) :: r, cs, l, arr, hc, h => by
    simp only [List.map_cons, fillA] at h
    split at h
    · cases h
    rename_i off size hp
    split at h
    · cases h
    rename_i ac hac
    split at h
    case h_2 => cases h
    rename_i h1 h2
    have h1 := beq_true h1
    have h2 := ble_true h2
    have hx := (hev x).cells hac
    have hcl := hc.spl hx (show off + ac.length ≤ cs.length by omega)
    have hsz : (ρ x).cells.size = size := hx.1.trans h1
    have hlen : (ρ x).cells.toList.length = size := by simp [hsz]
    have hfold := fold_get off (ρ x).cells.toList 0 arr
    have hz : (ρ x).cells.zipIdx.foldl (fun cs (c, j) => cs.setIfInBounds (off + j) c) arr = (((ρ x).cells.toList.zipIdx 0).foldl (fun (cs : Array Value) (p : Value × Nat) => cs.setIfInBounds (off + p.2) p.1) arr) := by
      rw [← Array.foldl_toList]
      simp [Array.toList_zipIdx]
    have hfit : off + (ρ x).cells.toList.length ≤ arr.size := by rw [hlen, hc.1]; exact h2
    have hcl2 : Cl c w (splice cs off ac) ((ρ x).cells.zipIdx.foldl (fun cs (c, j) => cs.setIfInBounds (off + j) c) arr) := by
      rw [hz]
      refine hcl.of_get (by rw [hfold.1, spl_size hfit]) fun j => ?_
      rw [hfold.2 j (by omega), spl_get hfit]
      simp
    obtain ⟨arr', k1, k2⟩ := fill_ok place hev r _ l _ hcl2 h
    refine ⟨arr', ?_, k2⟩
    simp only [List.map_cons, Instr.fill, hp]
    rw [if_neg (by simp [hsz]; have := hc.1; omega)]
    exact k1

theorem places_mapM : ∀ (fs : List Field) (pl : List (Nat × Nat)), places P fs = some pl → fs.mapM (fun f => (P.info? f.type).map fun i => (f.offset, i.size)) = some pl
  | [], pl, h => by
    simp only [places, Option.some.injEq] at h
    subst h
    rfl
  | f :: r, pl, h => by
    simp only [places] at h
    split at h
    · rename_i n l hn hl
      simp only [Option.some.injEq] at h
      subst h
      obtain ⟨i, hi, rfl⟩ := szOf_info hn
      simp [List.mapM_cons, hi, places_mapM r l hl]
    · cases h

theorem build_ok (hm : Mem B c ob w) {T : Table} {t : TypeId} {ps : Array (Nat × Operand)} {ρ : Operand → Value} {ev : Operand → AV} (hev : ∀ x, V c w (ev x) (ρ x)) {o : Oper} (ho : o.op = .build t ps)
    (h : run T (opt (zeroC P t) fun z => opt (fieldsOf P t) fun fs => opt (places P fs) fun pl => opt (fillA (fun i => pl[i]?) z (ps.toList.map fun p => (p.1, ev p.2))) fun cs => now (.agg cs)) = some d) : Eff P B c ob w (execOp ρ o) d := by
  obtain ⟨z, hz, h⟩ := run_opt h
  obtain ⟨fs, hfs, h⟩ := run_opt h
  obtain ⟨pl, hpl, h⟩ := run_opt h
  obtain ⟨cs, hcs, h⟩ := run_opt h
  obtain ⟨i, zv, hi, hzv, hl, hc⟩ := zeroC_ok hz
  obtain ⟨fa, hu, hfa⟩ := fieldsOf_eq hfs
  obtain ⟨arr', k1, k2⟩ := fill_ok (fun i => pl[i]?) hev ps.toList z cs zv.cells (hc c w) hcs
  have hb : P.built t (ps.map fun p => (p.1, ρ p.2)).toList = some arr' := by
    simp only [Program.built, hi, hu, hzv, hfa, places_mapM fs pl hpl, Array.toList_map]
    simpa using k1
  refine .now hm h (v := .agg arr') ?_ (.agg _ _ k2.1 k2.2.1 k2.2.2)
  unfold execOp
  simp only [ho]
  have := run_build w t _ arr' hb
  simp only [Sem.run_bind]
  rw [show (ps.map fun x => match x with | (i, x) => (i, ρ x)) = ps.map fun p => (p.1, ρ p.2) from rfl, this]
  rfl

theorem repl_len {α : Type} (l : List α) : ∀ n, (repl n l).length = n * l.length
  | 0 => by simp [repl]
  | n + 1 => by simp [repl, repl_len l n, Nat.add_mul]; omega
theorem repl_get {α : Type} (l : List α) : ∀ (n j : Nat), j < n * l.length → (repl n l)[j]? = l[j % l.length]?
  | 0, j, h => by simp at h
  | n + 1, j, h => by
    simp only [repl, List.getElem?_append]
    split
    · rename_i h1
      rw [Nat.mod_eq_of_lt h1]
    · rename_i h1
      rw [repl_get l n _ (by rw [Nat.add_mul] at h; omega)]
      congr 1
      exact (Nat.mod_eq_sub_mod (by omega)).symm

theorem zeros_ok {z : List AV} {zv : Array Value} (hc : Cl c w z zv) (n sz : Nat) (hsz : z.length = sz) (za : Array Value) (hza : n * sz ≠ 0 → za = zv) :
    Cl c w (repl n z) ((Array.range (n * sz)).map (za[· % za.size]!)) := by
  have hl : (repl n z).length = n * sz := by rw [repl_len, hsz]
  have key : ∀ j, j < n * sz → ((Array.range (n * sz)).map (za[· % za.size]!)).getD j undef = zv.getD (j % z.length) undef := fun j hj => by
    have hne : n * sz ≠ 0 := by omega
    have hsp : 0 < sz := Nat.pos_of_ne_zero fun e => by rw [e] at hne; simp at hne
    rw [hza hne]
    have hm : j % zv.size < zv.size := Nat.mod_lt _ (by rw [hc.1, hsz]; exact hsp)
    have e : zv.size = z.length := hc.1
    rw [e] at hm
    have hm' : j % z.length < zv.size := by rw [e]; exact hm
    simp [hj, e]
    rw [getElem!_pos zv _ hm', Array.getElem?_eq_getElem hm']
    rfl
  refine ⟨by simp [hl], fun j hj => ?_, fun j y hy => ?_⟩
  · rw [hl] at hj
    rw [key j hj]
    have hsp : 0 < z.length := by rw [hsz]; exact Nat.pos_of_ne_zero fun e => by rw [e] at hj; simp at hj
    exact hc.2.1 _ (Nat.mod_lt _ hsp)
  · have hj : j < n * sz := by rw [← hl]; exact (List.getElem?_eq_some_iff.1 hy).1
    rw [key j hj]
    rw [repl_get z n j (by rw [hsz]; exact hj)] at hy
    exact hc.2.2 _ y hy

theorem unviews_ok {t : Ty} : ∀ (n : Nat) (cs : List AV) (xs : List t.D), unviews t (chunks t.sz n cs) = some xs → n * t.sz ≤ cs.length → xs.length = n ∧
    ∀ (c : Cx) (w : World) (g : Nat → Value), (∀ j y, cs[j]? = some y → V c w y (g j)) → ∀ j x, xs[j]? = some x → ∀ q y, (view t x)[q]? = some y → V c w y (g (j * t.sz + q))
  | 0, cs, xs, h, _ => by
    simp only [chunks, unviews, Option.some.injEq] at h
    subst h
    exact ⟨rfl, fun c w g hg j x hx => by simp at hx⟩
  | n + 1, cs, xs, h, hl => by
    simp only [chunks, unviews] at h
    split at h
    · rename_i x0 l h1 h2
      simp only [Option.some.injEq] at h
      subst h
      rw [Nat.add_mul, Nat.one_mul] at hl
      obtain ⟨k1, k2⟩ := unview_ok t _ x0 h1
      obtain ⟨m1, m2⟩ := unviews_ok n _ l h2 (by rw [List.length_drop]; omega)
      refine ⟨by simp [m1], fun c w g hg j x hx q y hy => ?_⟩
      cases j with
      | zero =>
        simp at hx
        subst hx
        have := k2 c w g (fun j y hy => by
          rw [List.getElem?_take] at hy
          split at hy
          · exact hg j y hy
          · cases hy) q y hy
        simpa using this
      | succ j =>
        simp at hx
        have := m2 c w (fun j => g (t.sz + j)) (fun j y hy => by rw [List.getElem?_drop] at hy; exact hg _ y hy) j x hx q y hy
        rwa [show t.sz + (j * t.sz + q) = (j + 1) * t.sz + q by rw [Nat.add_mul]; omega] at this
    · cases h

/-- a new row out of cells -/
theorem newRow_ok (hm : Mem B c ob w) {k : Nat} (hnw : c.inf k = none → 1000 ≤ k) (hk : ob k = none) {u : Ty} {xs : List u.D} {arr : Array Value} {n : Nat} (hn : xs.length = n) (hs : arr.size = n * u.sz) (h1 : ∀ j, j < n * u.sz → (arr.getD j undef).oneCell' = true)
    (hv : ∀ j x, xs[j]? = some x → ∀ q y, (view u x)[q]? = some y → V c w y (arr.getD (j * u.sz + q) undef)) (e : TypeId) :
    ∃ c', Mem B c' (fup ob [(k, .row 0 u xs)]) (w.alloc (.cells arr e)) ∧ Ext c w c' (w.alloc (.cells arr e)) ∧ V c' (w.alloc (.cells arr e)) (.own k 0) (.slice (some ⟨w.heap.size, 0, none⟩) n n) := by
  obtain ⟨k1, k2⟩ := hm.newRow hnw hk (xs := xs) (arr := arr) n (fun j x hx q y hy => by
    rw [Nat.zero_add]
    refine ⟨hv j x hx q y hy, h1 _ ?_⟩
    have hq : q < u.sz := by rw [← view_len u x]; exact (List.getElem?_eq_some_iff.1 hy).1
    have hj : j < n := by rw [← hn]; exact (List.getElem?_eq_some_iff.1 hx).1
    have := Nat.mul_le_mul_right u.sz (show j + 1 ≤ n from hj)
    rw [Nat.add_mul, Nat.one_mul] at this
    omega) (by omega) (by omega) e _ rfl
  refine ⟨_, k1, k2, .own k 0 _ _ _ _ (Cx.set_eq _ _ _) (Nat.le_refl _) fun _ => ?_⟩
  refine ⟨some ⟨w.heap.size, 0, none⟩, n, by rw [hn], by simp [hn], by simp, fun _ => ⟨_, rfl, by simp⟩⟩

theorem unviews_strict {t : Ty} : ∀ (n : Nat) (cs : List AV) (xs : List t.D), (∀ a, a ∈ cs → a ≠ .nils) → unviews t (chunks t.sz n cs) = some xs → ∀ j x, xs[j]? = some x → ∀ q y, (view t x)[q]? = some y → cs[j * t.sz + q]? = some y
  | 0, cs, xs, _, h, j, x, hx, q, y, hy => by
    simp only [chunks, unviews, Option.some.injEq] at h
    subst h
    simp at hx
  | n + 1, cs, xs, hn, h, j, x, hx, q, y, hy => by
    simp only [chunks, unviews] at h
    split at h
    · rename_i x0 l h1 h2
      simp only [Option.some.injEq] at h
      subst h
      have hq : q < t.sz := by rw [← view_len t x]; exact (List.getElem?_eq_some_iff.1 hy).1
      cases j with
      | zero =>
        simp at hx
        subst hx
        rw [unview_strict t _ x0 (fun a ha => hn a (List.mem_of_mem_take ha)) h1, List.getElem?_take, if_pos hq] at hy
        simpa using hy
      | succ j =>
        simp at hx
        have := unviews_strict n _ l (fun a ha => hn a (List.mem_of_mem_drop ha)) h2 j x hx q y hy
        rw [List.getElem?_drop] at this
        rw [show (j + 1) * t.sz + q = t.sz + (j * t.sz + q) by rw [Nat.add_mul]; omega]
        exact this
    · cases h
/-- a slice literal of rows of one's own -/
theorem build_tree (hm : Mem B c ob w) {k : Nat} (hkb : 1000 ≤ k) (hk : ob k = none) {u : Ty} {n : Nat} {cs l : List AV} {fs : List (Nat × AO)} {xs : List u.D} {arr : Array Value} (hcl : Cl c w cs arr) (hfz : frz ob cs = some (l, fs)) (hok : absOk ob cs = true) (hnd : (fs.map (·.1)).Nodup) (hnest : nestT u = true)
    (hxs : unviews u (chunks u.sz n l) = some xs) (hlen : cs.length = n * u.sz) (hn : xs.length = n) (e : TypeId) :
    ∃ c', Mem B c' (fup ob (deads fs ++ [(k, .tree u xs)])) (w.alloc (.cells arr e)) ∧ Ext c w c' (w.alloc (.cells arr e)) ∧ V c' (w.alloc (.cells arr e)) (.own k 0) (.slice (some ⟨w.heap.size, 0, none⟩) n n) := by
  obtain ⟨fl, fk, fc⟩ := frz_cells cs l fs hfz hok
  have finj := frz_inj cs l fs hfz hok hnd
  have hnn : ∀ a, a ∈ l → a ≠ .nils := fun a ha e => by
    obtain ⟨r, hr, e1⟩ := List.getElem_of_mem ha
    have hr' : r < cs.length := by omega
    rcases fc r _ (List.getElem?_eq_getElem hr') with ⟨h1, h2⟩ | ⟨o1, v1, t, ys, h1, h2, h3, h4⟩
    · rw [List.getElem?_eq_getElem hr, Option.some.injEq, e1, e] at h2
      rw [← h2] at h1
      simp [plainV] at h1
    · rw [List.getElem?_eq_getElem hr, e1, e] at h3
      cases h3
  have hst := unviews_strict n l xs hnn hxs
  have hfsrow : ∀ o1, o1 ∈ fs.map (·.1) → ∃ (r v : Nat) (t : Ty) (ys : List t.D), cs[r]? = some (AV.own o1 v) ∧ ob o1 = some (.row v t ys) ∧ l[r]? = some (AV.lst t ys) := fun o1 ho1 => by
    obtain ⟨r, v, hr⟩ := fk o1 ho1
    rcases fc r _ hr with h | ⟨o2, v2, t, ys, e1, e2, e3, _⟩
    · simp [plainV] at h
    · cases e1
      exact ⟨r, v, t, ys, hr, e2, e3⟩
  have hkfs : ¬ k ∈ fs.map (·.1) := fun hh => by
    obtain ⟨r, v, t, ys, _, h2, _⟩ := hfsrow k hh
    rw [hk] at h2; cases h2
  have hob' : ∀ q, fup ob (deads fs ++ [(k, .tree u xs)]) q = if q = k then some (.tree u xs) else if q ∈ fs.map (·.1) then some .dead else ob q := fun q => by
    rw [fup_append]
    simp only [fup, fup_deads]
  have hold : ∀ b, b < w.heap.size → (w.alloc (.cells arr e)).heap[b]? = w.heap[b]? := fun b hb => heap_alloc_old w _ _ hb
  have hput := hm.absorb (ob' := fup ob (deads fs ++ [(k, .tree u xs)])) (fs.map (·.1)) k (.tree u xs) ⟨some w.heap.size, 0, n, n, 0, u.sz, fun b => ∃ o1, o1 ∈ fs.map (·.1) ∧ Blk c ob o1 b, fun j q => arr.getD (j * u.sz + q) undef⟩ (w.alloc (.cells arr e)) rfl rfl rfl (by show w.heap.size ≤ (w.heap.push _).size; simp)
    (fun b hb _ => hold b hb) hk hkb (by rw [hob', if_pos rfl])
    (fun ext o1 ho1 => ⟨.dead, by rw [hob', if_neg (fun (e : o1 = k) => hkfs (by rw [← e]; exact ho1)), if_pos ho1], rfl, rfl, trivial⟩)
    (fun q hq hnq => by rw [hob', if_neg hq, if_neg hnq]) (fun ext => ?_) (fun b hb => ?_)
  · refine ⟨_, hput.1, hput.2, .own k 0 _ n n _ (Cx.set_eq _ _ _) (Nat.zero_le _) fun _ => ⟨some ⟨w.heap.size, 0, none⟩, n, rfl, Nat.le_refl _, by simp, fun _ => ⟨_, rfl, by simp⟩⟩⟩
  · refine ⟨_, Cx.set_eq _ _ _, rfl, hn.symm, rfl, by rw [hn]; exact Nat.le_refl _, fun b hb => ?_, .inr ⟨w.heap.size, arr, e, rfl, heap_alloc_new w _, by rw [hcl.1, hlen]; simp, fun hh => ?_, fun j x hx q y hy => ?_, fun j q j' q' b x x' u1 l1 u2 l2 h1 h2 h3 h4 h5 h6 => ?_⟩⟩
    · rcases hb with hb | ⟨o1, ho1, hb⟩
      · have : b = w.heap.size := by simpa using hb.symm
        subst this
        exact ⟨by show w.heap.size < (w.heap.push _).size; simp, fun hF => Nat.lt_irrefl _ (hm.F _ hF)⟩
      · have := hm.blk hb
        exact ⟨Nat.lt_of_lt_of_le this.1 (by show w.heap.size ≤ (w.heap.push _).size; simp), this.2⟩
    · obtain ⟨o1, ho1, hb⟩ := hh
      have := (hm.blk hb).1
      omega
    · have hl := hst j x hx q y hy
      have hr : j * u.sz + q < cs.length := by rw [← fl]; exact (List.getElem?_eq_some_iff.1 hl).1
      have hcell := List.getElem?_eq_getElem (l := cs) hr
      have hV := hcl.2.2 _ _ hcell
      rw [Nat.zero_add]
      refine ⟨hcl.2.1 _ hr, fun u1 l1 e1 => ⟨rfl, ?_⟩, fun him => ?_⟩
      · subst e1
        rcases fc _ _ hcell with ⟨g1, g2⟩ | ⟨o1, v1, t, ys, g1, g2, g3, g4⟩
        · rw [hl] at g2
          rw [← Option.some.inj g2] at g1
          simp [plainV] at g1
        · rw [g1] at hV
          rw [hl] at g3
          cases g3
          have hn := (own_nest hm g2 hV (nest_view u x q u1 l1 hnest hy) (S := fun b => ∃ o1, o1 ∈ fs.map (·.1) ∧ Blk c ob o1 b) fun b' hb' => ⟨o1, g4, hb'⟩).1
          exact hn.mv fun b' ⟨o2, ho2, hb'⟩ => hold b' (hm.blk hb').1
      · rcases fc _ _ hcell with ⟨g1, g2⟩ | ⟨o1, v1, t, ys, g1, g2, g3, g4⟩
        · rw [hl] at g2
          rw [← Option.some.inj g2] at g1 hV
          exact plainV_mv g1 hV
        · rw [hl] at g3
          cases g3
          cases him
    · have info : ∀ (j q : Nat) (x : u.D) (u1 : Ty) (l1 : List u1.D) (b : Nat), xs[j]? = some x → (view u x)[q]? = some (AV.lst u1 l1) → nb (arr.getD (j * u.sz + q) undef) = some b → ∃ (o1 v1 : Nat), cs[j * u.sz + q]? = some (AV.own o1 v1) ∧ Blk c ob o1 b := fun j q x u1 l1 b hx hy hb => by
        have hl := hst j x hx q _ hy
        have hr : j * u.sz + q < cs.length := by rw [← fl]; exact (List.getElem?_eq_some_iff.1 hl).1
        have hcell := List.getElem?_eq_getElem (l := cs) hr
        have hV := hcl.2.2 _ _ hcell
        rcases fc _ _ hcell with ⟨g1, g2⟩ | ⟨o1, v1, t, ys, g1, g2, g3, g4⟩
        · rw [hl] at g2
          rw [← Option.some.inj g2] at g1
          simp [plainV] at g1
        · rw [g1] at hV
          rw [hl] at g3
          cases g3
          exact ⟨o1, v1, by rw [hcell, g1], (own_nest hm g2 hV (nest_view u x q u1 l1 hnest hy) (S := fun _ => True) fun _ _ => trivial).2 b hb⟩
      obtain ⟨o1, v1, a1, y1, i1, a2, a3, a4, a5⟩ := info j q x u1 l1 b h1 h2 h5
      obtain ⟨o2, v2, b1, y2, i2, b2, b3, b4, b5⟩ := info j' q' x' u2 l2 b h3 h4 h6
      have := hm.inj o1 o2 y1 y2 i1 i2 b a2 b2 a3 b3 a4 b4 a5 b5
      subst this
      have he := finj _ _ o1 v1 v2 a1 b1
      have hq : q < u.sz := by rw [← view_len u x]; exact (List.getElem?_eq_some_iff.1 h2).1
      have hq' : q' < u.sz := by rw [← view_len u x']; exact (List.getElem?_eq_some_iff.1 h4).1
      have hp : 0 < u.sz := by omega
      have e1 : (j * u.sz + q) / u.sz = j := by rw [Nat.add_comm, Nat.add_mul_div_right _ _ hp, Nat.div_eq_of_lt hq]; omega
      have e2 : (j' * u.sz + q') / u.sz = j' := by rw [Nat.add_comm, Nat.add_mul_div_right _ _ hp, Nat.div_eq_of_lt hq']; omega
      have hjj : j = j' := by rw [← e1, ← e2, he]
      subst hjj
      exact ⟨rfl, by omega⟩
  · rcases hb with hb | ⟨o1, ho1, hb⟩
    · have : w.heap.size = b := by simpa using hb
      exact .inr (by omega)
    · exact .inl ⟨o1, ho1, hb⟩
theorem buildSlice_ok (hm : Mem B c ob w) {tmd : Bool} {T : Table} {t : TypeId} {n k : Nat} (hkb : 1000 ≤ k) {ps : Array (Nat × Operand)} {ρ : Operand → Value} {ev : Operand → AV} (hev : ∀ x, V c w (ev x) (ρ x)) {o : Oper} (ho : o.op = .buildSlice t n ps)
    (h : run T (match P.underlying t with
    | some (.slice e) => opt (tyOf P 8 e) fun u => opt (szOf P e) fun sz => opt (zeroC P e) fun z => match Nat.beq sz u.sz && Nat.beq z.length sz, Nat.ble (n * sz) 16777216 with
      | true, true => opt (fillA (fun i => some (i * sz, sz)) (repl n z) (ps.toList.map fun p => (p.1, ev p.2))) fun cs =>
          opt (frz ob cs) fun w => opt (unviews u (chunks sz n w.1)) fun xs => fresh ob k (.ret ⟨.own k 0, litO tmd ob k u cs w.2 xs, w.2.map (·.1)⟩)
      | _, _ => .fail
    | _ => .fail) = some d) : Eff P B c ob w (execOp ρ o) d := by
  split at h
  case h_2 => exact (run_fail h).elim
  rename_i e hu
  obtain ⟨u, hty, h⟩ := run_opt h
  obtain ⟨sz, hsz, h⟩ := run_opt h
  obtain ⟨z, hz, h⟩ := run_opt h
  split at h
  case h_2 => exact (run_fail h).elim
  rename_i hb hle
  rw [Bool.and_eq_true] at hb
  have hzl := beq_true hb.2
  have hb := beq_true hb.1
  have hle := ble_true hle
  subst hb
  obtain ⟨cs, hcs, h⟩ := run_opt h
  obtain ⟨⟨l, fs⟩, hfz, h⟩ := run_opt h
  obtain ⟨xs, hxs, h⟩ := run_opt h
  obtain ⟨hk, h⟩ := run_fresh h
  have hd := run_ret h
  subst hd
  obtain ⟨i, zv, hi, hzv, hl, hc⟩ := zeroC_ok hz
  obtain ⟨i2, hi2, his⟩ := szOf_info hsz
  rw [hi] at hi2
  cases hi2
  obtain ⟨arr', k1, k2⟩ := fill_ok (fun i => some (i * u.sz, u.sz)) hev ps.toList (repl n z) cs _ (zeros_ok (hc c w) n u.sz hzl (if n * u.sz = 0 then #[] else zv.cells) (fun h0 => if_neg h0)) hcs
  have hcl : cs.length = n * u.sz := by
    rw [fillA_len _ _ _ _ hcs, repl_len, hzl]
  have hrun : (execOp ρ o).run P w = .ok (.value (.slice (some ⟨w.heap.size, 0, none⟩) n n)) (w.alloc (.cells arr' e)) := by
    unfold execOp
    simp only [ho]
    have hps : (ps.map fun x => match x with | (i, x) => (i, ρ x)) = ps.map fun p => (p.1, ρ p.2) := rfl
    simp only [Sem.run_bind, Instr.buildSlice, run_underlying hu, Result.andThen_ok, run_sizeOf' hsz]
    rw [if_neg (by omega)]
    by_cases h0 : n * u.sz = 0
    · rw [if_pos h0] at k1 ⊢
      simp only [Sem.run_bind, Sem.run_pure, Result.andThen_ok]
      rw [hps, Array.toList_map, k1]
      rfl
    · rw [if_neg h0] at k1 ⊢
      simp only [Sem.run_bind, Sem.run_pure, Result.andThen_ok, run_zeroValue' hi hzv]
      rw [hps, Array.toList_map, k1]
      rfl
  cases hmd : (tmd && (immT u && (nestT u && (absOk ob cs && nodup1 (fs.map (·.1)))))) with
  | true =>
    have hlo : litO tmd ob k u cs fs xs = deads fs ++ [(k, .tree u xs)] := by unfold litO; rw [hmd]
    simp only [Bool.and_eq_true] at hmd
    obtain ⟨_, _, hne, hok, hnd⟩ := hmd
    have fl := (frz_cells cs l fs hfz hok).1
    obtain ⟨q1, _⟩ := unviews_ok n l xs hxs (by rw [fl, hcl]; exact Nat.le_refl _)
    obtain ⟨c2, r1, r2, r3⟩ := build_tree hm hkb hk (n := n) (xs := xs) k2 hfz hok (nodup1_mem _ hnd) hne hxs hcl q1 e
    exact ⟨_, _, c2, .inl hrun, by rw [hlo]; exact r1, r2, r3⟩
  | false =>
  have hlo : litO tmd ob k u cs fs xs = fs ++ [(k, .row 0 u xs)] := by unfold litO; rw [hmd]
  obtain ⟨c1, m1, m2, m3, m4, m5⟩ := frz_ok cs l fs hfz c ob hm (.refl ob) (fun j => arr'.getD j undef) (fun j y hy => k2.2.2 j y hy)
  obtain ⟨q1, q2⟩ := unviews_ok n l xs hxs (by rw [m4, hcl]; exact Nat.le_refl _)
  have hk1 : fup ob fs k = none := by
    rcases m2 k with h | ⟨v, t, xs, h, _⟩
    · rw [h]; exact hk
    · rw [hk] at h; cases h
  obtain ⟨c2, r1, r2, r3⟩ := newRow_ok m1 (fun _ => hkb) hk1 q1 (by rw [k2.1, hcl]) (fun j hj => k2.2.1 j (by rw [hcl]; exact hj)) (q2 c1 w _ m5) e
  exact ⟨_, _, c2, .inl hrun, by rw [hlo, fup_append]; exact r1, m3.trans r2, r3⟩
end
end Go.Proofs.YtafjengmkiepbaaGreat.Am
end
section
/- What the machine of values does at an operation, the program does: rows that are made, elements, lengths, cuts. -/
namespace Go.Proofs.YtafjengmkiepbaaGreat.Am
open Go
set_option linter.constructorNameAsVariable false
set_option linter.unusedVariables false
set_option linter.unusedSimpArgs false
section
variable {P : Program} {B : Base} {c : Cx} {ob : Nat → Option AO} {w : World} {s : Sem Next} {d : Delta}

theorem bytesT_eq {t e : TypeId} {n : Nat} (hu : P.underlying t = some (.slice e)) (h : bytesT P t = some n) : ∃ i, P.info? e = some i ∧ i.bytes = n := by
  unfold bytesT at h
  rw [hu] at h
  simp only at h
  split at h
  · exact ⟨_, ‹_›, by simpa using h⟩
  · cases h
theorem room_le {n by_ : Nat} (h : n ≤ room by_) : n * by_ ≤ 35184372088832 ∧ n ≤ 35184372088832 := by
  unfold room at h
  have h1 : n * (by_ + 1) ≤ 35184372088832 := Nat.le_trans (Nat.mul_le_mul_right _ h) (Nat.div_mul_le_self _ _)
  have h2 : n * by_ ≤ n * (by_ + 1) := Nat.mul_le_mul_left _ (Nat.le_succ _)
  have h3 : n * 1 ≤ n * (by_ + 1) := Nat.mul_le_mul_left _ (by omega)
  omega
theorem wrap64' {n : Int} (h0 : 0 ≤ n) (h1 : n ≤ 35184372088832) : IntKind.i64.wrap n = n := by
  simp only [IntKind.wrap, IntKind.bits, IntKind.signed]
  have e : n % (2 ^ 64 : Int) = n := Int.emod_eq_of_lt h0 (by omega)
  simp only [e]
  split
  · rename_i h
    simp only [Bool.true_and, decide_eq_true_eq] at h
    omega
  · rfl

theorem _root_.Nat.mul_add_mod_of_lt' {j n q : Nat} (h : q < n) : (j * n + q) % n = q := by
  rw [Nat.add_comm, Nat.add_mul_mod_self_right, Nat.mod_eq_of_lt h]
theorem unview_nils : ∀ (t : Ty) (cs : List AV) (x : t.D) (q : Nat) (u : Ty) (l : List u.D), unview t cs = some x → noLst cs = true → (view t x)[q]? = some (AV.lst u l) → cs[q]? = some .nils ∧ l = []
  | .i k, cs, x, q, u, l, h, _, hq => by cases q <;> simp [view] at hq
  | .b, cs, x, q, u, l, h, _, hq => by cases q <;> simp [view] at hq
  | .s, cs, x, q, u, l, h, _, hq => by cases q <;> simp [view] at hq
  | .u, cs, x, q, u, l, h, _, hq => by simp [view] at hq
  | .sl t, cs, x, q, u, l, h, hn, hq => by
    cases q with
    | zero =>
      simp only [unview, unL] at h
      split at h
      · simp [noLst] at hn
      · simp only [Option.some.injEq] at h
        subst h
        simp only [view, List.getElem?_cons_zero, Option.some.injEq, AV.lst.injEq] at hq
        obtain ⟨rfl, hq⟩ := hq
        exact ⟨rfl, (eq_of_heq hq).symm⟩
      · cases h
    | succ q => simp [view] at hq
  | .pr a b, cs, x, q, u, l, h, hn, hq => by
    have nl : ∀ (l1 l2 : List AV), noLst (l1 ++ l2) = true → noLst l1 = true ∧ noLst l2 = true := by
      intro l1
      induction l1 with
      | nil => intro l2 h; exact ⟨rfl, h⟩
      | cons a r ih =>
        intro l2 h
        cases a <;> simp only [List.cons_append, noLst, Bool.false_eq_true] at h ⊢
        all_goals exact ih l2 h
    simp only [unview] at h
    split at h
    · rename_i x1 y1 h1 h2
      simp only [Option.some.injEq] at h
      subst h
      obtain ⟨n1, n2⟩ := nl (cs.take a.sz) (cs.drop a.sz) (by rw [List.take_append_drop]; exact hn)
      obtain ⟨l1, _⟩ := unview_ok a _ x1 h1
      simp only [view, List.getElem?_append, view_len] at hq
      split at hq
      · rename_i hlt
        obtain ⟨k1, k2⟩ := unview_nils a _ x1 q u l h1 n1 hq
        rw [List.getElem?_take] at k1
        rw [if_pos hlt] at k1
        exact ⟨k1, k2⟩
      · rename_i hlt
        obtain ⟨k1, k2⟩ := unview_nils b _ y1 (q - a.sz) u l h2 n2 hq
        rw [List.getElem?_drop] at k1
        rw [show a.sz + (q - a.sz) = q by omega] at k1
        exact ⟨k1, k2⟩
    · cases h
/-- a row of rows that is new: its rows are nil -/
theorem Mem.newTree (hm : Mem B c ob w) {k : Nat} (hnw : c.inf k = none → 1000 ≤ k) (hk : ob k = none) {t : Ty} {xs : List t.D} {arr : Array Value} (cap : Nat)
    (hc : ∀ j x, xs[j]? = some x → ∀ q y, (view t x)[q]? = some y → (arr.getD (j * t.sz + q) undef).oneCell' = true ∧ (∀ (u : Ty) (l : List u.D), y = AV.lst u l → immT u = false ∧ l = [] ∧ ∃ A, arr.getD (j * t.sz + q) undef = .slice A 0 0) ∧ (imm y = false → V ⟨fun _ => none, fun _ => False⟩ w y (arr.getD (j * t.sz + q) undef)))
    (hl : xs.length ≤ cap) (hs : cap * t.sz ≤ arr.size) (e : TypeId) :
    ∃ i : Inf, i.blk = some w.heap.size ∧ i.off = 0 ∧ i.cap = cap ∧ i.len = xs.length ∧ i.ver = 0 ∧ i.sz = t.sz ∧ Mem B (c.set k i) (fup ob [(k, .tree t xs)]) (w.alloc (.cells arr e)) ∧ Ext c w (c.set k i) (w.alloc (.cells arr e)) := by
  refine ⟨⟨some w.heap.size, 0, cap, xs.length, 0, t.sz, fun _ => False, fun j q => arr.getD (j * t.sz + q) undef⟩, rfl, rfl, rfl, rfl, rfl, rfl, hm.put k (.tree t xs) _ _ rfl rfl rfl (by show w.heap.size ≤ (w.heap.push _).size; simp) (fun b hb _ => heap_alloc_old w _ _ hb) (fun i hi => by rw [hm.inf_none hk] at hi; cases hi) (fun ext => ?_) (fun b _ hb => .inr ?_)⟩
  · refine ⟨_, Cx.set_eq _ _ _, rfl, rfl, rfl, hl, fun b hb => ?_, .inr ⟨w.heap.size, arr, e, rfl, heap_alloc_new w _, by simpa using hs, fun h => h, fun j x hx q y hy => ?_, fun j q j' q' b x x' u l u' l' h1 h2 h3 h4 h5 h6 => ?_⟩⟩
    · rcases hb with hb | hb
      · have : b = w.heap.size := by simpa using hb.symm
        subst this
        exact ⟨by show w.heap.size < (w.heap.push _).size; simp, fun hF => Nat.lt_irrefl _ (hm.F _ hF)⟩
      · exact hb.elim
    · obtain ⟨k1, k2, k3⟩ := hc j x hx q y hy
      simp only [Nat.zero_add]
      refine ⟨k1, fun u l e => ?_, fun him => view_mv (c := ⟨fun _ => none, fun _ => False⟩) (fun _ h => h.elim) (fun _ h => h.elim) hy (k3 him)⟩
      obtain ⟨g1, g2, A, g3⟩ := k2 u l e
      exact ⟨rfl, A, 0, by rw [g3, g2]; rfl, by rw [g2]; simp, g1, fun h => by omega⟩
    · obtain ⟨_, k2, _⟩ := hc j x h1 q _ h2
      obtain ⟨_, _, A, g3⟩ := k2 u l rfl
      have h5 : nb (arr.getD (j * t.sz + q) undef) = some b := h5
      rw [g3] at h5
      cases A <;> simp [nb] at h5
  · rcases hb with hb | hb
    · have : w.heap.size = b := by simpa using hb
      omega
    · exact hb.elim
theorem made_cells {e : TypeId} {u : Ty} {z : List AV} {yv : u.D} (hz : zeroC P e = some z) (hyv : unview u z = some yv) : ∃ (i : TypeInfo) (zv : Value), P.info? e = some i ∧ i.zero = some zv ∧ zv.cells.size = z.length ∧ z.length = u.sz ∧
    ∀ (c : Cx) (w : World) (nn mm : Nat), nn ≤ mm → Cells c w (madeCells zv.cells (mm * u.sz)) 0 u (List.replicate nn yv) := by
  obtain ⟨i, zv, hi, hzv, hl, hc⟩ := zeroC_ok hz
  obtain ⟨hul, huv⟩ := unview_ok u z yv hyv
  refine ⟨i, zv, hi, hzv, hl, hul, fun c w nn mm h1 j x hx q y hy => ?_⟩
  have hZ := zeros_ok (hc c w) mm u.sz hul zv.cells (fun _ => rfl)
  have hj : j < nn := by have := (List.getElem?_eq_some_iff.1 hx).1; simpa using this
  have hxy : x = yv := by
    have := (List.getElem?_eq_some_iff.1 hx).2
    simpa using this.symm
  subst hxy
  have hq : q < u.sz := by rw [← view_len u x]; exact (List.getElem?_eq_some_iff.1 hy).1
  have hlt : j * u.sz + q < mm * u.sz := by
    have := Nat.mul_le_mul_right u.sz (show j + 1 ≤ mm by omega)
    rw [Nat.add_mul, Nat.one_mul] at this
    omega
  have hzl : (repl mm z).length = mm * u.sz := by rw [repl_len, hul]
  rw [Nat.zero_add]
  refine ⟨?_, hZ.2.1 _ (by rw [hzl]; exact hlt)⟩
  refine huv c w (fun q => (madeCells zv.cells (mm * u.sz)).getD (j * u.sz + q) undef) (fun q' y' hy' => ?_) q y hy
  have hq' : q' < u.sz := by rw [← hul]; exact (List.getElem?_eq_some_iff.1 hy').1
  have hlt' : j * u.sz + q' < mm * z.length := by
    have := Nat.mul_le_mul_right u.sz (show j + 1 ≤ mm by omega)
    rw [Nat.add_mul, Nat.one_mul] at this
    rw [hul]
    omega
  refine hZ.2.2 _ y' ?_
  rw [repl_get z mm _ hlt', hul, Nat.mul_add_mod_of_lt' hq']
  exact hy'
theorem makeSlice_ok (hm : Mem B c ob w) {tmd : Bool} {T : Table} {t : TypeId} {k : Nat} (hkb : 1000 ≤ k) {x y : Operand} {ρ : Operand → Value} {a b : AV} (ha : V c w a (ρ x)) (hb : V c w b (ρ y)) {o : Oper} (ho : o.op = .makeSlice t x y)
    (h : run T (opt (elemT P t) fun u => match P.underlying t with
    | some (.slice e) => opt (zeroC P e) fun z => opt (unview u z) fun y => opt (bytesT P t) fun by_ => match a, b, szIs P e u.sz with
      | .i .i64 n, .i .i64 m, true => grd (decide (0 ≤ n)) (grd (decide (n ≤ m)) (grd (decide (m ≤ (room by_ : Int))) (fresh ob k (.ret ⟨.own k 0, [(k, madeO tmd u z (List.replicate n.toNat y))], []⟩))))
      | _, _, _ => .fail
    | _ => .fail) = some d) : Eff P B c ob w (execOp ρ o) d := by
  obtain ⟨u, hty, g1⟩ := run_opt h
  clear h
  split at g1
  case h_2 => exact (run_fail g1).elim
  rename_i e hu
  obtain ⟨z, hz, g2⟩ := run_opt g1
  clear g1
  obtain ⟨yv, hyv, g3⟩ := run_opt g2
  clear g2
  obtain ⟨by_, hby, h⟩ := run_opt g3
  clear g3
  split at h
  case h_2 => exact (run_fail h).elim
  rename_i n m hszis
  obtain ⟨h0, h⟩ := run_grd h
  obtain ⟨h1, h⟩ := run_grd h
  obtain ⟨h2, h⟩ := run_grd h
  have h0 : 0 ≤ n := by simpa using h0
  have h1 : n ≤ m := by simpa using h1
  have h2 : m ≤ (room by_ : Int) := by simpa using h2
  obtain ⟨hk, h⟩ := run_fresh h
  have hd := run_ret h
  subst hd
  have ex := V.inv_i ha
  have ey := V.inv_i hb
  obtain ⟨i, zv, hi, hzv, hl, hc⟩ := zeroC_ok hz
  obtain ⟨i2, hi2, hbs⟩ := bytesT_eq hu hby
  rw [hi] at hi2
  cases hi2
  obtain ⟨hul, huv⟩ := unview_ok u z yv hyv
  obtain ⟨mm, rfl⟩ : ∃ mm : Nat, m = (mm : Int) := ⟨m.toNat, by omega⟩
  obtain ⟨nn, rfl⟩ : ∃ nn : Nat, n = (nn : Int) := ⟨n.toNat, by omega⟩
  have hroom := room_le (n := mm) (by_ := by_) (by omega)
  have hisz : i.size = u.sz := by
    unfold szIs at hszis
    split at hszis
    · rename_i q hq
      obtain ⟨i3, hi3, rfl⟩ := szOf_info hq
      rw [hi] at hi3
      cases hi3
      exact beq_true hszis
    · cases hszis
  have hZ := zeros_ok (hc c w) mm u.sz hul zv.cells (fun _ => rfl)
  have hrun := run_make (P := P) w t e i zv hu hi hzv .i64 .i64 nn mm h0 h1 (by
    have : ((i.bytes * mm : Nat) : Int) ≤ 35184372088832 := by rw [Nat.mul_comm, hbs]; omega
    rw [Int.natCast_mul] at this
    omega) (by omega)
  simp only [Int.toNat_natCast, hisz] at hrun
  have hcells0 : ∀ (c : Cx) (w : World), Cells c w (madeCells zv.cells (mm * u.sz)) 0 u (List.replicate nn yv) := fun c w j x hx q y hy => by
    have hZ := zeros_ok (hc c w) mm u.sz hul zv.cells (fun _ => rfl)
    have hj : j < nn := by have := (List.getElem?_eq_some_iff.1 hx).1; simpa using this
    have hxy : x = yv := by
      have := (List.getElem?_eq_some_iff.1 hx).2
      simpa using this.symm
    subst hxy
    have hq : q < u.sz := by rw [← view_len u x]; exact (List.getElem?_eq_some_iff.1 hy).1
    have hlt : j * u.sz + q < mm * u.sz := by
      have := Nat.mul_le_mul_right u.sz (show j + 1 ≤ mm by omega)
      rw [Nat.add_mul, Nat.one_mul] at this
      omega
    have hzl : (repl mm z).length = mm * u.sz := by rw [repl_len, hul]
    rw [Nat.zero_add]
    refine ⟨?_, hZ.2.1 _ (by rw [hzl]; exact hlt)⟩
    refine huv c w (fun q => (madeCells zv.cells (mm * u.sz)).getD (j * u.sz + q) undef) (fun q' y' hy' => ?_) q y hy
    have hq' : q' < u.sz := by rw [← hul]; exact (List.getElem?_eq_some_iff.1 hy').1
    have hlt' : j * u.sz + q' < mm * z.length := by
      have := Nat.mul_le_mul_right u.sz (show j + 1 ≤ mm by omega)
      rw [Nat.add_mul, Nat.one_mul] at this
      rw [hul]
      omega
    refine hZ.2.2 _ y' ?_
    rw [repl_get z mm _ hlt', hul, Nat.mul_add_mod_of_lt' hq']
    exact hy'
  have hcells := hcells0 c w
  cases hmd : (tmd && (immT u && (nestT u && noLst z))) with
  | false =>
    have hmo : madeO tmd u z (List.replicate (nn : Int).toNat yv) = .row 0 u (List.replicate nn yv) := by unfold madeO; rw [hmd]; rfl
    rw [hmo]
    obtain ⟨k1, k2⟩ := hm.newRow (fun _ => hkb) hk mm hcells (by simpa using (by omega : nn ≤ mm)) (by simp [size_madeCells]) e _ rfl
    refine ⟨_, _, _, .inl ?_, k1, k2, .own k 0 (some ⟨w.heap.size, 0, none⟩) nn mm _ (Cx.set_eq _ _ _) (Nat.le_refl _) fun _ => ⟨some ⟨w.heap.size, 0, none⟩, mm, by rw [List.length_replicate], by simpa using (by omega : nn ≤ mm), Nat.zero_add _, fun _ => ⟨_, rfl, by simp⟩⟩⟩
    unfold execOp
    simp only [ho]
    simp only [Sem.run_bind, ex, ey, hrun, Result.andThen_ok, Sem.run_pure]
  | true =>
    have hmo : madeO tmd u z (List.replicate (nn : Int).toNat yv) = .tree u (List.replicate nn yv) := by unfold madeO; rw [hmd]; rfl
    rw [hmo]
    simp only [Bool.and_eq_true] at hmd
    obtain ⟨_, _, hne, hnl⟩ := hmd
    obtain ⟨i4, b1, b2, b3, b4, b5, b6, k1, k2⟩ := hm.newTree (fun _ => hkb) hk (t := u) (xs := List.replicate nn yv) (arr := madeCells zv.cells (mm * u.sz)) mm (fun j x hx q y hy => by
      have hcc := hcells0 ⟨fun _ => none, fun _ => False⟩ w j x hx q y hy
      rw [Nat.zero_add] at hcc
      refine ⟨hcc.2, fun u1 l1 e1 => ?_, fun _ => hcc.1⟩
      subst e1
      have hxy : x = yv := by
        have := (List.getElem?_eq_some_iff.1 hx).2
        simpa using this.symm
      subst hxy
      have hj : j < nn := by have := (List.getElem?_eq_some_iff.1 hx).1; simpa using this
      have hq : q < u.sz := by rw [← view_len u x]; exact (List.getElem?_eq_some_iff.1 hy).1
      obtain ⟨g1, g2⟩ := unview_nils u z x q u1 l1 hyv hnl hy
      refine ⟨nest_view u x q u1 l1 hne hy, g2, ?_⟩
      have hlt : j * u.sz + q < mm * z.length := by
        have := Nat.mul_le_mul_right u.sz (show j + 1 ≤ mm by omega)
        rw [Nat.add_mul, Nat.one_mul] at this
        rw [hul]
        omega
      have := hZ.2.2 (j * u.sz + q) .nils (by rw [repl_get z mm _ hlt, hul, Nat.mul_add_mod_of_lt' hq]; exact g1)
      obtain ⟨A, e⟩ := this.inv_nils
      exact ⟨A, e⟩) (by simpa using (by omega : nn ≤ mm)) (by simp [size_madeCells]) e
    refine ⟨_, _, _, .inl ?_, k1, k2, .own k 0 (some ⟨w.heap.size, 0, none⟩) nn mm _ (Cx.set_eq _ _ _) (Nat.zero_le _) fun _ => ⟨some ⟨w.heap.size, 0, none⟩, mm, by rw [b4, List.length_replicate], by rw [b4]; simpa using (by omega : nn ≤ mm), by rw [b3]; simp, fun _ => ⟨_, b1, by rw [b2]; simp⟩⟩⟩
    unfold execOp
    simp only [ho]
    simp only [Sem.run_bind, ex, ey, hrun, Result.andThen_ok, Sem.run_pure]
end
end Go.Proofs.YtafjengmkiepbaaGreat.Am
end
section
/- What the machine of values does at an operation, the program does: elements, lengths, cuts. -/
namespace Go.Proofs.YtafjengmkiepbaaGreat.Am
open Go
set_option linter.constructorNameAsVariable false
set_option linter.unusedVariables false
set_option linter.unusedSimpArgs false
section
variable {P : Program} {B : Base} {c : Cx} {ob : Nat → Option AO} {w : World} {s : Sem Next} {d : Delta}

/-- a row that can be read -/
def Rd (c : Cx) (w : World) (t : Ty) (xs : List t.D) (v : Value) : Prop :=
  ∃ (A : Option Addr) (cp : Nat) (g : Nat → Value), v = .slice A xs.length cp ∧ xs.length ≤ cp ∧
    (0 < xs.length → ∃ a, A = some a ∧ ∀ j, j < xs.length * t.sz → w.cell? (a.add j) = some (g j) ∧ (g j).oneCell' = true) ∧
    ∀ j x, xs[j]? = some x → ∀ q y, (view t x)[q]? = some y → V c w y (g (j * t.sz + q))
theorem Rd.ofLst {t : Ty} {xs : List t.D} {v : Value} (h : V c w (.lst t xs) v) : Rd c w t xs v := by
  obtain ⟨A, cp, g, rfl, hn, ha, hv⟩ := h.inv_lst
  refine ⟨A, cp, g, rfl, hn, fun h0 => ?_, hv⟩
  obtain ⟨a, e, _, k⟩ := ha h0
  exact ⟨a, e, k⟩
theorem Rd.ofRow {i : Inf} {t : Ty} {xs : List t.D} {p : Prop} (hl : i.len = xs.length) (hs : i.sz = t.sz) (hB : RowB c w i t xs p) {lo n : Nat} {v : Value} (hn : lo + n ≤ xs.length) (h : Hd i lo n v) : Rd c w t ((xs.drop lo).take n) v := by
  let c' : Cx := c.frz (fun b => i.blk = some b)
  have e : Ext c w c' w := ⟨fun _ h => .inl h, fun _ i h => ⟨i, h, Nat.le_refl _, fun _ => rfl⟩, fun _ _ => rfl, fun _ _ h => h⟩
  obtain ⟨A, cp, rfl, h1, h2, h3⟩ := h
  have hlen : ((xs.drop lo).take n).length = n := by rw [List.length_take, List.length_drop]; omega
  rcases hB with ⟨hb0, hc0⟩ | ⟨b, arr, el, hb, hh, hsz, hc, hF⟩
  · have hn0 : n = 0 := by omega
    subst hn0
    exact ⟨A, cp, fun _ => undef, by rw [hlen], by rw [hlen]; exact h1, fun h0 => by rw [hlen] at h0; omega, fun j x hx => by simp at hx⟩
  · refine ⟨A, cp, fun j => arr.getD (i.off + (lo * t.sz + j)) undef, by rw [hlen], by rw [hlen]; exact h1, fun h0 => ?_, fun j x hx q y hy => ?_⟩
    · rw [hlen] at h0
      obtain ⟨b', hb', rfl⟩ := h3 (by omega)
      rw [hb] at hb'; cases hb'
      refine ⟨_, rfl, fun j hj => ?_⟩
      rw [hlen] at hj
      have hts : 0 < t.sz := Nat.pos_of_ne_zero fun e => by rw [e] at hj; simp at hj
      have hjn : j / t.sz < n := (Nat.div_lt_iff_lt_mul hts).2 hj
      have hx := List.getElem?_eq_getElem (l := xs) (i := lo + j / t.sz) (by omega)
      have hq : j % t.sz < (view t xs[lo + j / t.sz]).length := by rw [view_len]; exact Nat.mod_lt _ hts
      have hcc := hc (lo + j / t.sz) _ hx (j % t.sz) _ (List.getElem?_eq_getElem hq)
      have hidx : i.off + ((lo + j / t.sz) * t.sz + j % t.sz) = i.off + (lo * t.sz + j) := by
        rw [Nat.add_mul]
        have := Nat.div_add_mod j t.sz
        rw [Nat.mul_comm] at this
        omega
      rw [hidx] at hcc
      have hlt : i.off + (lo * t.sz + j) < arr.size := by
        have h5 : lo * t.sz + j < (lo + n) * t.sz := by rw [Nat.add_mul]; omega
        have h6 : (lo + n) * t.sz ≤ i.cap * t.sz := Nat.mul_le_mul_right _ (by omega)
        omega
      refine ⟨?_, hcc.2⟩
      rw [add_mid', hs, Nat.add_assoc]
      exact cell_in hh hlt
    · have hx2 : xs[lo + j]? = some x := by
        rw [List.getElem?_take] at hx
        split at hx
        · rw [List.getElem?_drop] at hx; exact hx
        · cases hx
      have := (hc (lo + j) x hx2 q y hy).1
      rwa [show i.off + ((lo + j) * t.sz + q) = i.off + (lo * t.sz + (j * t.sz + q)) by rw [Nat.add_mul]; omega] at this

/-- a row's object -/
theorem rowObj (hm : Mem B c ob w) {o v : Nat} {t : Ty} {xs : List t.D} (h : ob o = some (.row v t xs) ∨ ob o = some (.fro v t xs)) : ∃ i p, c.inf o = some i ∧ i.ver = v ∧ i.len = xs.length ∧ i.sz = t.sz ∧ xs.length ≤ i.cap ∧ RowB c w i t xs p := by
  rcases h with h | h
  · obtain ⟨i, h1⟩ := hm.obj o _ h
    exact ⟨i, _, h1⟩
  · obtain ⟨i, h1⟩ := hm.obj o _ h
    exact ⟨i, _, h1⟩
theorem rowOf_own {o v : Nat} {q : Option Ty} {r : RV} (h : rowOf ob q (.own o v) = some r) : (ob o = some (.row v r.t r.xs) ∨ ob o = some (.fro v r.t r.xs)) ∧ r.rd = [o] := by
  simp only [rowOf] at h
  split at h
  · rename_i v' t xs ho
    split at h
    · rename_i hv
      have := beq_true hv
      simp only [Option.some.injEq] at h
      subst h this
      exact ⟨.inl ho, rfl⟩
    · cases h
  · rename_i v' t xs ho
    split at h
    · rename_i hv
      have := beq_true hv
      simp only [Option.some.injEq] at h
      subst h this
      exact ⟨.inr ho, rfl⟩
    · cases h
  · cases h
theorem own_head (hm : Mem B c ob w) {o v : Nat} {t : Ty} {xs : List t.D} {x : Value} (h : ob o = some (.row v t xs) ∨ ob o = some (.fro v t xs)) (hv : V c w (.own o v) x) :
    ∃ i p, c.inf o = some i ∧ i.ver = v ∧ i.len = xs.length ∧ i.sz = t.sz ∧ xs.length ≤ i.cap ∧ RowB c w i t xs p ∧ Hd i 0 xs.length x := by
  obtain ⟨i, p, h1, h2, h3, h4, h5, h6⟩ := rowObj hm h
  obtain ⟨A, n, cp, i', e, k1, k2, k3⟩ := hv.inv_own
  rw [h1] at k1
  cases k1
  exact ⟨i, p, h1, h2, h3, h4, h5, h6, h3 ▸ k3 h2.symm⟩
theorem sub_head (hm : Mem B c ob w) {o v lo n : Nat} {t : Ty} {xs : List t.D} {x : Value} (h : ob o = some (.row v t xs) ∨ ob o = some (.fro v t xs)) (hv : V c w (.sub o v lo n) x) :
    ∃ i p, c.inf o = some i ∧ i.ver = v ∧ i.len = xs.length ∧ i.sz = t.sz ∧ xs.length ≤ i.cap ∧ RowB c w i t xs p ∧ lo + n ≤ xs.length ∧ Hd i lo n x := by
  obtain ⟨i, p, h1, h2, h3, h4, h5, h6⟩ := rowObj hm h
  obtain ⟨A, n, cp, i', e, k1, k2, k3⟩ := hv.inv_sub
  rw [h1] at k1
  cases k1
  have := k3 h2.symm
  exact ⟨i, p, h1, h2, h3, h4, h5, h6, h3 ▸ this.1, this.2⟩
theorem rowOf_rd (hm : Mem B c ob w) {a : AV} {x : Value} (hv : V c w a x) {q : Option Ty} {r : RV} (h : rowOf ob q a = some r) : Rd c w r.t r.xs x := by
  cases a <;> simp only [rowOf, reduceCtorEq] at h
  case own o v =>
    have h' : rowOf ob q (.own o v) = some r := by simpa only [rowOf] using h
    obtain ⟨i, p, h1, h2, h3, h4, h5, h6, h7⟩ := own_head hm (rowOf_own h').1 hv
    have := Rd.ofRow h3 h4 h6 (lo := 0) (n := r.xs.length) (by omega) h7
    simpa using this
  case sub o v lo n =>
    split at h
    · rename_i v' t xs ho
      split at h
      · rename_i hvv
        have := beq_true hvv
        simp only [Option.some.injEq] at h
        subst h this
        obtain ⟨i, p, h1, h2, h3, h4, h5, h6, h7, h8⟩ := sub_head hm (.inl ho) hv
        exact Rd.ofRow h3 h4 h6 h7 h8
      · cases h
    · rename_i v' t xs ho
      split at h
      · rename_i hvv
        have := beq_true hvv
        simp only [Option.some.injEq] at h
        subst h this
        obtain ⟨i, p, h1, h2, h3, h4, h5, h6, h7, h8⟩ := sub_head hm (.inr ho) hv
        exact Rd.ofRow h3 h4 h6 h7 h8
      · cases h
    · cases h
  case lst t xs =>
    simp only [Option.some.injEq] at h
    subst h
    exact .ofLst hv
  case nils =>
    split at h
    · rename_i t
      simp only [Option.some.injEq] at h
      subst h
      obtain ⟨A, rfl⟩ := hv.inv_nils
      exact ⟨A, 0, fun _ => undef, rfl, Nat.le_refl _, fun h0 => by simp at h0, fun j x hx => by simp at hx⟩
    · cases h
  all_goals cases h

/-! ### builtins -/
theorem call_builtin {ρ : Operand → Value} {o : Oper} {cl : Call} {b : Builtin} (ho : o.op = .call cl) (hb : cl.callee = .builtin b) :
    execOp ρ o = builtin b cl.argTypes o.type (cl.args.map fun | .const _ => true | _ => false) (cl.args.map ρ) := by
  unfold execOp
  simp only [ho]
  simp only [resolve, hb]
  rfl
theorem args_of {c : Call} {l : List Operand} (h : c.args.toList = l) : c.args = l.toArray := by rw [← h]
theorem len_ok (hm : Mem B c ob w) {T : Table} {x : Operand} {ρ : Operand → Value} {a : AV} (ha : V c w a (ρ x)) {o : Oper} {cl : Call} (ho : o.op = .call cl) (hb : cl.callee = .builtin .len) (hargs : cl.args.toList = [x])
    (h : run T (lenB P ob cl.argTypes.toList a) = some d) : Eff P B c ob w (execOp ρ o) d := by
  unfold lenB at h
  split at h
  case h_2 => exact (run_fail h).elim
  rename_i t ts hts
  have h1 : cl.argTypes[0]? = some t := by
    have : cl.argTypes.toList[0]? = some t := by rw [hts]; rfl
    simpa using this
  split at h
  · rename_i hu
    split at h
    · rename_i b
      refine .now hm h (v := .int .i64 b.size) ?_ (.i _ _)
      rw [call_builtin ho hb, args_of hargs]
      simp [builtin, Builtin.len_, h1, run_underlying hu, V.inv_s ha, goInt]
    · exact (run_fail h).elim
  · rename_i e hu
    have go : ∀ (A : Option Addr) (l cp : Nat), ρ x = .slice A l cp → (execOp ρ o).run P w = .ok (.value (.int .i64 l)) w := fun A l cp e => by
      rw [call_builtin ho hb, args_of hargs]
      simp [builtin, Builtin.len_, h1, run_underlying hu, e, goInt]
    have h' : run T (opt (lenA ob a) fun n => .ret ⟨.i .i64 n.1, [], n.2⟩) = some d := by
      split at h
      · exact (run_fail h).elim
      · exact h
    obtain ⟨⟨n, rd⟩, hn, h2⟩ := run_opt h'
    clear h h'
    have hd := run_ret h2
    clear h2
    subst hd
    cases a <;> simp only [lenA, reduceCtorEq] at hn
    case own q v =>
      split at hn
      · rename_i r hr
        simp only [Option.some.injEq, Prod.mk.injEq] at hn
        obtain ⟨rfl, rfl⟩ := hn
        obtain ⟨A, cp, g, e, _⟩ := rowOf_rd hm ha hr
        exact .pure hm (go _ _ _ e) (.i _ _) rfl
      · split at hn
        · rename_i u xs hq
          split at hn
          · rename_i hv
            have := beq_true hv
            subst this
            simp only [Option.some.injEq, Prod.mk.injEq] at hn
            obtain ⟨rfl, rfl⟩ := hn
            obtain ⟨i, A, cp, _, _, _, _, _, e, _⟩ := tree_head hm hq ha
            exact .pure hm (go _ _ _ e) (.i _ _) rfl
          · cases hn
        · cases hn
    case sub q v lo m =>
      split at hn
      · rename_i r hr
        simp only [Option.some.injEq, Prod.mk.injEq] at hn
        obtain ⟨rfl, rfl⟩ := hn
        obtain ⟨A, l, cp, i, e, _⟩ := ha.inv_sub
        have hl : l = m := by
          simp only [rowOf] at hr
          split at hr
          · rename_i v' t xs hq
            split at hr
            · rename_i hvv
              have := beq_true hvv
              subst this
              obtain ⟨i, p, _, _, _, _, _, _, _, A', cp', e', _⟩ := sub_head hm (.inl hq) ha
              rw [e] at e'
              cases e'
              rfl
            · cases hr
          · rename_i v' t xs hq
            split at hr
            · rename_i hvv
              have := beq_true hvv
              subst this
              obtain ⟨i, p, _, _, _, _, _, _, _, A', cp', e', _⟩ := sub_head hm (.inr hq) ha
              rw [e] at e'
              cases e'
              rfl
            · cases hr
          · cases hr
        subst hl
        exact .pure hm (go _ _ _ e) (.i _ _) rfl
      · cases hn
    case lst t xs =>
      simp only [Option.some.injEq, Prod.mk.injEq] at hn
      obtain ⟨rfl, rfl⟩ := hn
      obtain ⟨A, cp, g, e, _⟩ := ha.inv_lst
      exact .pure hm (go _ _ _ e) (.i _ _) rfl
    case nils =>
      simp only [Option.some.injEq, Prod.mk.injEq] at hn
      obtain ⟨rfl, rfl⟩ := hn
      obtain ⟨A, e⟩ := ha.inv_nils
      exact .pure hm (go _ _ _ e) (.i _ _) rfl
  · exact (run_fail h).elim
end
end Go.Proofs.YtafjengmkiepbaaGreat.Am
end
