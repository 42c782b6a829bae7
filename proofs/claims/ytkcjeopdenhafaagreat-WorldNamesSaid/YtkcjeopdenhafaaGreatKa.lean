/- A machine of my own for the program's code: its values, its memory, its code, and the compiler to it. No condition. -/
import GoSem.Step
import GoSem.Elab.Main
namespace Go.K
noncomputable section Part1

/-- Places: the natural numbers in binary, as ways through a tree. -/
inductive Pa where
  | z
  | l (p : Pa)
  | r (p : Pa)
  deriving Inhabited, DecidableEq

def Pa.succ (p : Pa) : Pa := Pa.rec (.l .z) (fun p _ => .r p) (fun _ ih => .l ih) p

/-- the n-th place (f: at least the number of binary digits) -/
def paF (f : Nat) : Nat → Pa :=
  Nat.rec (fun _ => .z) (fun _ ih n => Nat.rec .z (fun n _ => Bool.rec (.r (ih (Nat.div n 2))) (.l (ih (Nat.div n 2))) (Nat.beq (Nat.mod n 2) 0)) n) f

def pa (n : Nat) : Pa := paF (Nat.succ n) n

def Pa.beq (p : Pa) : Pa → Bool :=
  Pa.rec (fun q => Pa.rec true (fun _ _ => false) (fun _ _ => false) q)
    (fun _ ih q => Pa.rec false (fun q _ => ih q) (fun _ _ => false) q)
    (fun _ ih q => Pa.rec false (fun _ _ => false) (fun q _ => ih q) q) p

/-- A tree of what stands at places. -/
inductive Tr (α : Type) where
  | nil
  | node (l : Tr α) (v : Option α) (r : Tr α)
  deriving Inhabited

def Tr.val {α : Type} (t : Tr α) : Option α := Tr.rec none (fun _ v _ _ _ => v) t
def Tr.lef {α : Type} (t : Tr α) : Tr α := Tr.rec .nil (fun l _ _ _ _ => l) t
def Tr.rig {α : Type} (t : Tr α) : Tr α := Tr.rec .nil (fun _ _ r _ _ => r) t

def Tr.get {α : Type} (t : Tr α) (p : Pa) : Option α :=
  Pa.rec (fun t => t.val) (fun _ ih t => ih t.lef) (fun _ ih t => ih t.rig) p t

def Tr.set {α : Type} (x : Option α) (t : Tr α) (p : Pa) : Tr α :=
  Pa.rec (fun x t => Tr.rec (.node .nil x .nil) (fun l _ r _ _ => .node l x r) t)
    (fun _ ih x t => Tr.rec (.node (ih x .nil) none .nil) (fun l v r _ _ => .node (ih x l) v r) t)
    (fun _ ih x t => Tr.rec (.node .nil none (ih x .nil)) (fun l v r _ _ => .node l v (ih x r)) t) p x t

/-- Values. A block's number is abstract. -/
inductive V where
  | bool (b : Bool)
  | int (k : IntKind) (n : Int)
  | str (s : List Nat)
  | ptr (b : Pa) (o : Nat)
  | nilptr
  | slice (b : Pa) (o len cap : Nat)
  | nilslice
  | map (r : Pa)
  | nilmap
  | func (fn : Nat) (first captured : List V)
  | yield (l : Pa)
  | nilfunc
  | iface (t : TypeId) (v : V)
  | niliface
  | agg (cs : List V)
  | tup (vs : List V)
  deriving Inhabited

def undefV : V := .tup []

/-- the cells of a value -/
def V.aggOr (v : V) (d : List V) : List V := (V.rec (motive_1 := fun _ => List V → List V) (motive_2 := fun _ => PUnit) (fun _ _ => []) (fun _ _ _ => []) (fun _ _ => []) (fun _ _ _ => []) (fun _ => []) (fun _ _ _ _ _ => []) (fun _ => []) (fun _ _ => []) (fun _ => []) (fun _ _ _ _ _ _ => []) (fun _ _ => []) (fun _ => []) (fun _ _ _ _ => []) (fun _ => []) (fun cs _ => fun _ => cs) (fun _ _ _ => []) PUnit.unit (fun _ _ _ _ => PUnit.unit) (v)) d
def V.isAgg (v : V) : Bool := V.rec (motive_1 := fun _ => Bool) (motive_2 := fun _ => PUnit) (fun _ => false) (fun _ _ => false) (fun _ => false) (fun _ _ => false) (false) (fun _ _ _ _ => false) (false) (fun _ => false) (false) (fun _ _ _ _ _ => false) (fun _ => false) (false) (fun _ _ _ => false) (false) (fun _ _ => true) (fun _ _ => false) PUnit.unit (fun _ _ _ _ => PUnit.unit) (v)
def V.cells (v : V) : List V := Bool.rec [v] (V.aggOr v []) (V.isAgg v)
/-- no tuple -/
def V.fits (v : V) : Bool := V.rec (motive_1 := fun _ => Bool) (motive_2 := fun _ => PUnit) (fun _ => true) (fun _ _ => true) (fun _ => true) (fun _ _ => true) (true) (fun _ _ _ _ => true) (true) (fun _ => true) (true) (fun _ _ _ _ _ => true) (fun _ => true) (true) (fun _ _ _ => true) (true) (fun _ _ => true) (fun _ _ => false) PUnit.unit (fun _ _ _ _ => PUnit.unit) (v)
/-- of one cell -/
def V.one (v : V) : Bool := V.rec (motive_1 := fun _ => Bool) (motive_2 := fun _ => PUnit) (fun _ => true) (fun _ _ => true) (fun _ => true) (fun _ _ => true) (true) (fun _ _ _ _ => true) (true) (fun _ => true) (true) (fun _ _ _ _ _ => true) (fun _ => true) (true) (fun _ _ _ => true) (true) (fun _ _ => false) (fun _ _ => false) PUnit.unit (fun _ _ _ _ => PUnit.unit) (v)

/-! lists, by their recursors -/

def lget {α : Type} (l : List α) : Nat → Option α :=
  List.rec (fun _ => none) (fun a _ ih n => Nat.rec (some a) (fun n _ => ih n) n) l

def lset {α : Type} (x : α) (l : List α) : Nat → List α :=
  List.rec (fun _ => []) (fun a l ih n => Nat.rec (x :: l) (fun n _ => a :: ih n) n) l

def ldrop {α : Type} (n : Nat) : List α → List α :=
  Nat.rec (fun l => l) (fun _ ih l => List.rec [] (fun _ l _ => ih l) l) n

/-- the first n (lazily) -/
def ltk {α : Type} (n : Nat) : List α → List α :=
  Nat.rec (fun _ => []) (fun _ ih l => List.rec [] (fun a l _ => a :: ih l) l) n

def lapp {α : Type} (l m : List α) : List α :=
  List.rec m (fun a _ ih => a :: ih) l

/-- a number made ready before it is handed on -/
def forceN {β : Type} (n : Nat) (f : Nat → β) : β := Nat.rec (f 0) (fun k _ => f (Nat.succ k)) n

def llenA {α : Type} (l : List α) : Nat → Nat :=
  List.rec (fun n => n) (fun _ _ ih n => forceN (Nat.succ n) ih) l

def llen {α : Type} (l : List α) : Nat := llenA l 0

/-- xs in the place of what stands from o on (no longer than what stands there) -/
def lput {α : Type} (xs : List α) (l : List α) : Nat → List α :=
  fun n => List.rec (fun _ _ => [])
    (fun a l ih n xs => Nat.rec (List.rec (a :: l) (fun x xs _ => x :: ih 0 xs) xs) (fun n _ => a :: ih n xs) n) l n xs

def lall {α : Type} (f : α → Bool) (l : List α) : Bool :=
  List.rec true (fun a _ ih => Bool.rec false ih (f a)) l

def lmap {α β : Type} (f : α → β) (l : List α) : List β :=
  List.rec [] (fun a _ ih => f a :: ih) l

def beqList {α : Type} (f : α → α → Bool) (l : List α) : List α → Bool :=
  List.rec (fun m => List.rec true (fun _ _ _ => false) m)
    (fun a _ ih m => List.rec false (fun b m _ => Bool.rec false (ih m) (f a b)) m) l

def repl {α : Type} (zero : List α) (n : Nat) : List α :=
  Nat.rec [] (fun _ ih => lapp zero ih) n

def beqInt (a b : Int) : Bool :=
  Int.rec (fun a => Int.rec (fun b => Nat.beq a b) (fun _ => false) b) (fun a => Int.rec (fun _ => false) (fun b => Nat.beq a b) b) a

def kindNo (k : IntKind) : Nat := IntKind.rec 0 1 2 3 4 5 6 7 k

def beqKind (a b : IntKind) : Bool := Nat.beq (kindNo a) (kindNo b)

def beqBool (a b : Bool) : Bool := Bool.rec (Bool.rec true false b) b a

def band (a b : Bool) : Bool := Bool.rec false b a

def vBool (v : V) (k : Bool → Bool) : Bool := (V.rec (motive_1 := fun _ => (Bool → Bool) → Bool) (motive_2 := fun _ => PUnit) (fun x => fun k => k x) (fun _ _ _ => false) (fun _ _ => false) (fun _ _ _ => false) (fun _ => false) (fun _ _ _ _ _ => false) (fun _ => false) (fun _ _ => false) (fun _ => false) (fun _ _ _ _ _ _ => false) (fun _ _ => false) (fun _ => false) (fun _ _ _ _ => false) (fun _ => false) (fun _ _ _ => false) (fun _ _ _ => false) PUnit.unit (fun _ _ _ _ => PUnit.unit) (v)) k
def vInt (v : V) (k : IntKind → Int → Bool) : Bool := (V.rec (motive_1 := fun _ => (IntKind → Int → Bool) → Bool) (motive_2 := fun _ => PUnit) (fun _ _ => false) (fun i x => fun k => k i x) (fun _ _ => false) (fun _ _ _ => false) (fun _ => false) (fun _ _ _ _ _ => false) (fun _ => false) (fun _ _ => false) (fun _ => false) (fun _ _ _ _ _ _ => false) (fun _ _ => false) (fun _ => false) (fun _ _ _ _ => false) (fun _ => false) (fun _ _ _ => false) (fun _ _ _ => false) PUnit.unit (fun _ _ _ _ => PUnit.unit) (v)) k
def vStr (v : V) (k : List Nat → Bool) : Bool := (V.rec (motive_1 := fun _ => (List Nat → Bool) → Bool) (motive_2 := fun _ => PUnit) (fun _ _ => false) (fun _ _ _ => false) (fun x => fun k => k x) (fun _ _ _ => false) (fun _ => false) (fun _ _ _ _ _ => false) (fun _ => false) (fun _ _ => false) (fun _ => false) (fun _ _ _ _ _ _ => false) (fun _ _ => false) (fun _ => false) (fun _ _ _ _ => false) (fun _ => false) (fun _ _ _ => false) (fun _ _ _ => false) PUnit.unit (fun _ _ _ _ => PUnit.unit) (v)) k
def vPtr (v : V) (k : Pa → Nat → Bool) : Bool := (V.rec (motive_1 := fun _ => (Pa → Nat → Bool) → Bool) (motive_2 := fun _ => PUnit) (fun _ _ => false) (fun _ _ _ => false) (fun _ _ => false) (fun b o => fun k => k b o) (fun _ => false) (fun _ _ _ _ _ => false) (fun _ => false) (fun _ _ => false) (fun _ => false) (fun _ _ _ _ _ _ => false) (fun _ _ => false) (fun _ => false) (fun _ _ _ _ => false) (fun _ => false) (fun _ _ _ => false) (fun _ _ _ => false) PUnit.unit (fun _ _ _ _ => PUnit.unit) (v)) k
def vSlice (v : V) (k : Pa → Nat → Nat → Nat → Bool) : Bool := (V.rec (motive_1 := fun _ => (Pa → Nat → Nat → Nat → Bool) → Bool) (motive_2 := fun _ => PUnit) (fun _ _ => false) (fun _ _ _ => false) (fun _ _ => false) (fun _ _ _ => false) (fun _ => false) (fun b o l c => fun k => k b o l c) (fun _ => false) (fun _ _ => false) (fun _ => false) (fun _ _ _ _ _ _ => false) (fun _ _ => false) (fun _ => false) (fun _ _ _ _ => false) (fun _ => false) (fun _ _ _ => false) (fun _ _ _ => false) PUnit.unit (fun _ _ _ _ => PUnit.unit) (v)) k
def vMap (v : V) (k : Pa → Bool) : Bool := (V.rec (motive_1 := fun _ => (Pa → Bool) → Bool) (motive_2 := fun _ => PUnit) (fun _ _ => false) (fun _ _ _ => false) (fun _ _ => false) (fun _ _ _ => false) (fun _ => false) (fun _ _ _ _ _ => false) (fun _ => false) (fun b => fun k => k b) (fun _ => false) (fun _ _ _ _ _ _ => false) (fun _ _ => false) (fun _ => false) (fun _ _ _ _ => false) (fun _ => false) (fun _ _ _ => false) (fun _ _ _ => false) PUnit.unit (fun _ _ _ _ => PUnit.unit) (v)) k
def vFunc (v : V) (k : Nat → List V → List V → Bool) : Bool := (V.rec (motive_1 := fun _ => (Nat → List V → List V → Bool) → Bool) (motive_2 := fun _ => PUnit) (fun _ _ => false) (fun _ _ _ => false) (fun _ _ => false) (fun _ _ _ => false) (fun _ => false) (fun _ _ _ _ _ => false) (fun _ => false) (fun _ _ => false) (fun _ => false) (fun f a b _ _ => fun k => k f a b) (fun _ _ => false) (fun _ => false) (fun _ _ _ _ => false) (fun _ => false) (fun _ _ _ => false) (fun _ _ _ => false) PUnit.unit (fun _ _ _ _ => PUnit.unit) (v)) k
def vYield (v : V) (k : Pa → Bool) : Bool := (V.rec (motive_1 := fun _ => (Pa → Bool) → Bool) (motive_2 := fun _ => PUnit) (fun _ _ => false) (fun _ _ _ => false) (fun _ _ => false) (fun _ _ _ => false) (fun _ => false) (fun _ _ _ _ _ => false) (fun _ => false) (fun _ _ => false) (fun _ => false) (fun _ _ _ _ _ _ => false) (fun b => fun k => k b) (fun _ => false) (fun _ _ _ _ => false) (fun _ => false) (fun _ _ _ => false) (fun _ _ _ => false) PUnit.unit (fun _ _ _ _ => PUnit.unit) (v)) k
def vIface (v : V) (k : Nat → V → Bool) : Bool := (V.rec (motive_1 := fun _ => (Nat → V → Bool) → Bool) (motive_2 := fun _ => PUnit) (fun _ _ => false) (fun _ _ _ => false) (fun _ _ => false) (fun _ _ _ => false) (fun _ => false) (fun _ _ _ _ _ => false) (fun _ => false) (fun _ _ => false) (fun _ => false) (fun _ _ _ _ _ _ => false) (fun _ _ => false) (fun _ => false) (fun t x _ => fun k => k t x) (fun _ => false) (fun _ _ _ => false) (fun _ _ _ => false) PUnit.unit (fun _ _ _ _ => PUnit.unit) (v)) k
def vAgg (v : V) (k : List V → Bool) : Bool := (V.rec (motive_1 := fun _ => (List V → Bool) → Bool) (motive_2 := fun _ => PUnit) (fun _ _ => false) (fun _ _ _ => false) (fun _ _ => false) (fun _ _ _ => false) (fun _ => false) (fun _ _ _ _ _ => false) (fun _ => false) (fun _ _ => false) (fun _ => false) (fun _ _ _ _ _ _ => false) (fun _ _ => false) (fun _ => false) (fun _ _ _ _ => false) (fun _ => false) (fun x _ => fun k => k x) (fun _ _ _ => false) PUnit.unit (fun _ _ _ _ => PUnit.unit) (v)) k
def vTup (v : V) (k : List V → Bool) : Bool := (V.rec (motive_1 := fun _ => (List V → Bool) → Bool) (motive_2 := fun _ => PUnit) (fun _ _ => false) (fun _ _ _ => false) (fun _ _ => false) (fun _ _ _ => false) (fun _ => false) (fun _ _ _ _ _ => false) (fun _ => false) (fun _ _ => false) (fun _ => false) (fun _ _ _ _ _ _ => false) (fun _ _ => false) (fun _ => false) (fun _ _ _ _ => false) (fun _ => false) (fun _ _ _ => false) (fun x _ => fun k => k x) PUnit.unit (fun _ _ _ _ => PUnit.unit) (v)) k
/-- which constructor a value has -/
def V.no (v : V) : Nat := V.rec (motive_1 := fun _ => Nat) (motive_2 := fun _ => PUnit) (fun _ => 0) (fun _ _ => 1) (fun _ => 2) (fun _ _ => 3) (4) (fun _ _ _ _ => 5) (6) (fun _ => 7) (8) (fun _ _ _ _ _ => 9) (fun _ => 10) (11) (fun _ _ _ => 12) (13) (fun _ _ => 14) (fun _ _ => 15) PUnit.unit (fun _ _ _ _ => PUnit.unit) (v)

def V.beq1 (rec : V → V → Bool) (a b : V) : Bool := (V.rec (motive_1 := fun _ => (V → V → Bool) → V → Bool) (motive_2 := fun _ => PUnit) (fun x => fun _ b => vBool b (beqBool x)) (fun k x => fun _ b => vInt b fun j y => band (beqKind k j) (beqInt x y)) (fun s => fun _ b => vStr b (beqList Nat.beq s)) (fun b' o => fun _ b => vPtr b fun c p => band (Pa.beq b' c) (Nat.beq o p)) (fun _ b => Nat.beq b.no 4) (fun b1 o l c => fun _ b => vSlice b fun b' o' l' c' => band (Pa.beq b1 b') (band (Nat.beq o o') (band (Nat.beq l l') (Nat.beq c c')))) (fun _ b => Nat.beq b.no 6) (fun r => fun _ b => vMap b (Pa.beq r)) (fun _ b => Nat.beq b.no 8) (fun f x y _ _ => fun rec b => vFunc b fun g x' y' => band (Nat.beq f g) (band (beqList rec x x') (beqList rec y y'))) (fun l => fun _ b => vYield b (Pa.beq l)) (fun _ b => Nat.beq b.no 11) (fun t x _ => fun rec b => vIface b fun u y => band (Nat.beq t u) (rec x y)) (fun _ b => Nat.beq b.no 13) (fun x _ => fun rec b => vAgg b (beqList rec x)) (fun x _ => fun rec b => vTup b (beqList rec x)) PUnit.unit (fun _ _ _ _ => PUnit.unit) (a)) rec b

def V.beq (n : Nat) : V → V → Bool :=
  Nat.rec (fun _ _ => false) (fun _ ih => V.beq1 ih) n

/-- How two values of a type are compared. -/
inductive ETy where
  | bool | int | str
  | ptr
  | slice | map | func
  | iface
  | cells (l : List ETy)   -- struct, array: cell by cell
  deriving Inhabited

inductive Opd where
  | t (i : Pa)
  | c (v : V)
  deriving Inhabited

inductive KCallee where
  | fn (f : Nat)
  | val (x : Opd)
  | inv (x : Opd) (tab : List (TypeId × Nat))
  deriving Inhabited

inductive KOp where
  | mov (x : Opd)
  | pick (c a b : Opd)
  | new (zero : List V)
  | newBig (n : Nat) (z : V)
  | box (x : Opd)
  | build (zero : List V) (parts : List (Nat × Nat × Opd))
  | buildSlice (len n : Nat) (zero : List V) (parts : List (Nat × Nat × Opd))
  | load (agg : Bool) (n : Nat) (a : Opd)
  | store (n : Nat) (a v : Opd)
  | nilCheck (x : Opd)
  | bin (op : BinOp) (x y : Opd)
  | eq (neg : Bool) (e : ETy) (lit : Bool) (x y : Opd)
  | un (op : UnOp) (x : Opd)
  | conv (k : IntKind) (x : Opd)
  | toStr (x : Opd)
  | strStr (x : Opd)
  | mkIface (t : TypeId) (x : Opd)
  | mkFunc (f : Nat) (first captured : List Opd)
  | mkMap
  | mkSlice (es bytes : Nat) (zero : List V) (l c : Opd)
  | sliceS (es : Nat) (x : Opd) (lo hi mx : Option Opd)
  | sliceA (n es : Nat) (x : Opd) (lo hi mx : Option Opd)
  | sliceStr (x : Opd) (lo hi : Option Opd)
  | fieldAddr (off : Nat) (x : Opd)
  | field (off n : Nat) (agg : Bool) (x : Opd)
  | idxArr (len es : Nat) (x i : Opd)
  | idxSl (es : Nat) (x i : Opd)
  | index (len es : Nat) (agg : Bool) (x i : Opd)
  | indexStr (x i : Opd)
  | lookup (e : ETy) (zero : V) (ok : Bool) (m k : Opd)
  | mapUpdate (e : ETy) (m k v : Opd)
  | mapEntry (e : ETy) (zero : V) (m k : Opd)
  | entryStore (m s v : Opd)
  | rangeMap (m : Opd)
  | nextMap (it : Opd)
  | entry (it : Opd)
  | extract (x : Opd) (i : Nat)
  | tassert (t : TypeId) (zero : V) (ok : Bool) (x : Opd)
  | lenStr (x : Opd)
  | lenSl (x : Opd)
  | lenMap (x : Opd)
  | lenC (n : Nat)
  | cap (x : Opd)
  | minmax (mx : Bool) (l : List Opd)
  | append (es bytes : Nat) (s x : Opd)
  | appendZ (es bytes : Nat) (zero : List V) (s n : Opd)
  | panic
  | copy (es : Nat) (d s : Opd)
  | delete (e : ETy) (m k : Opd)
  | clearS (zero : List V) (s : Opd)
  | clearM (m : Opd)
  | s2a (n : Nat) (x : Opd)
  deriving Inhabited

inductive Cls where
  | pure
  | read (lo hi : Nat)
  | alloc (lo hi : Nat)
  | write
  deriving Inhabited

inductive KOper where
  | ev (cls : Cls) (guard : Option (Pa × Bool)) (dst : Option Pa) (op : KOp)
  | call (guard : Option (Pa × Bool)) (dst : Option Pa) (f : KCallee) (args : List Opd)
  | defer (guard : Option (Pa × Bool)) (dst : Option Pa) (f : Opd) (args : List Opd)
  deriving Inhabited

inductive KCode where
  | skip
  | region (ops : List KOper)
  | regionD (ops : List KOper)
  | seq (a b : KCode)
  | cond (c : Opd) (a b : KCode)
  | block (id : Nat) (c : KCode)
  | loop (c : KCode)
  | rangeFunc (f : Opd) (params : List Pa) (assign body : KCode)
  | exit (id : Nat)
  | ret
  | mapLit (m : Pa) (ents : List (Pa × V × V))
  | loopM (d : Pa) (it : Opd) (ops : List KOper) (rest : KCode)   -- a loop over a map
  deriving Inhabited

inductive KRes where
  | tmp (t : Pa)
  | cell (t : Pa) (agg : Bool) (n : Nat)
  deriving Inhabited

structure KFunc where
  ntmps : Nat
  results : List KRes
  body : KCode
  many : Bool   -- holds it a loop over a map?
  deriving Inhabited

structure Ent where
  key : V
  val : V
  born : Nat
  deriving Inhabited

inductive Blk where
  | cells (n : Nat) (l : List V) (grown : Nat)   -- grown: 0, or of how many cells an element is, behind which there may be room
  | big (n : Nat) (z : V) (t : Tr V) (grown : Nat)
  | map (es : List Ent) (clock : Nat)
  | mapIter (m : Option Pa) (since : Nat) (seen : List Nat) (stepped : Nat)
  | loop (done : Nat) (tmps : Tr V) (params : List Pa) (assign body : KCode) (pending : Nat)   -- pending: 0 none, 1 ret, 2 + id: exit id
  | bag (es : List Ent)
  deriving Inhabited

structure St where
  heap : Tr Blk
  next : Pa
  deriving Inhabited

inductive Res (α : Type) where
  | ok (a : α) (s : St)
  | err (c : Nat)
  deriving Inhabited

abbrev Env := Tr V

def optD {α : Type} (d : α) (x : Option α) : α := Option.rec d (fun a => a) x

def envAt (e : Env) (i : Pa) : V := optD undefV (Tr.get e i)

def Env.look (e : Env) (x : Opd) : V := Opd.rec (fun i => envAt e i) (fun v => v) x

/-! numbers -/

def kmax (k : IntKind) : Nat := IntKind.rec 127 32767 2147483647 9223372036854775807 255 65535 4294967295 18446744073709551615 k
def kmod (k : IntKind) : Nat := IntKind.rec 256 65536 4294967296 18446744073709551616 256 65536 4294967296 18446744073709551616 k
def kbits (k : IntKind) : Nat := IntKind.rec 8 16 32 64 8 16 32 64 k

/-- n modulo 2 to the bits. -/
def toU (k : IntKind) (n : Int) : Nat :=
  Int.rec (fun n => Nat.mod n (kmod k)) (fun m => Nat.sub (Nat.sub (kmod k) 1) (Nat.mod m (kmod k))) n

/-- from the residue to the kind's number. -/
def ofU (k : IntKind) (u : Nat) : Int :=
  Bool.rec (.negSucc (Nat.sub (Nat.sub (kmod k) 1) u)) (.ofNat u) (Nat.ble u (kmax k))

def wr (k : IntKind) (n : Int) : Int :=
  Int.rec (fun m => Bool.rec (ofU k (Nat.mod m (kmod k))) (.ofNat m) (Nat.ble m (kmax k))) (fun m => ofU k (toU k (.negSucc m))) n

def ilt (a b : Int) : Bool :=
  Int.rec (fun a => Int.rec (fun b => Nat.blt a b) (fun _ => false) b) (fun a => Int.rec (fun _ => true) (fun b => Nat.blt b a) b) a

def iadd (a b : Int) : Int :=
  Int.rec (fun m => Int.rec (fun n => .ofNat (Nat.add m n)) (fun _ => a + b) b) (fun _ => a + b) a

def isub (a b : Int) : Int :=
  Int.rec (fun m => Int.rec (fun n => Bool.rec (.negSucc (Nat.sub (Nat.sub n m) 1)) (.ofNat (Nat.sub m n)) (Nat.ble n m)) (fun _ => a - b) b) (fun _ => a - b) a

def imul (a b : Int) : Int :=
  Int.rec (fun m => Int.rec (fun n => .ofNat (Nat.mul m n)) (fun _ => a * b) b) (fun _ => a * b) a

def idiv (a b : Int) : Int :=
  Int.rec (fun m => Int.rec (fun n => .ofNat (Nat.div m n)) (fun _ => a.tdiv b) b) (fun _ => a.tdiv b) a

def imod (a b : Int) : Int :=
  Int.rec (fun m => Int.rec (fun n => .ofNat (Nat.mod m n)) (fun _ => a.tmod b) b) (fun _ => a.tmod b) a

def ishr (a : Int) (n : Nat) : Int :=
  Int.rec (fun m => .ofNat (Nat.div m (Nat.pow 2 n))) (fun _ => a.fdiv (2 ^ n)) a

def onZero {α : Type} (y : Int) (a b : α) : α := Bool.rec b a (beqInt y (.ofNat 0))

def bnot (a : Bool) : Bool := Bool.rec true false a

def arith (op : BinOp) (k : IntKind) (x y : Int) : Option V :=
  (BinOp.rec (motive := fun _ => IntKind → Int → Int → Option V)
    (fun k x y => some (.int k (wr k (iadd x y))))
    (fun k x y => some (.int k (wr k (isub x y))))
    (fun k x y => some (.int k (wr k (imul x y))))
    (fun k x y => onZero y none (some (.int k (wr k (idiv x y)))))
    (fun k x y => onZero y none (some (.int k (imod x y))))
    (fun k x y => some (.int k (ofU k (Nat.land (toU k x) (toU k y)))))
    (fun k x y => some (.int k (ofU k (Nat.lor (toU k x) (toU k y)))))
    (fun k x y => some (.int k (ofU k (Nat.xor (toU k x) (toU k y)))))
    (fun _ _ _ => none)
    (fun _ _ _ => none)
    (fun k x y => some (.int k (ofU k (Nat.land (toU k x) (Nat.sub (Nat.sub (kmod k) 1) (toU k y))))))
    (fun _ x y => some (.bool (beqInt x y)))
    (fun _ x y => some (.bool (bnot (beqInt x y))))
    (fun _ x y => some (.bool (ilt x y)))
    (fun _ x y => some (.bool (bnot (ilt y x))))
    (fun _ x y => some (.bool (ilt y x)))
    (fun _ x y => some (.bool (bnot (ilt x y)))) op) k x y

def minN (a b : Nat) : Nat := Bool.rec b a (Nat.ble a b)

def shl (k : IntKind) (x : Int) (n : Nat) : Option V := some (.int k (wr k (imul x (.ofNat (Nat.pow 2 (minN n (kbits k)))))))
def shr (k : IntKind) (x : Int) (n : Nat) : Option V := some (.int k (ishr x (minN n (kbits k))))

def no3 (_ : IntKind) (_ : Int) (_ : Nat) : Option V := none
def shiftN (op : BinOp) : IntKind → Int → Nat → Option V :=
  BinOp.rec no3 no3 no3 no3 no3 no3 no3 no3 shl shr no3 no3 no3 no3 no3 no3 no3 op

def shiftV (op : BinOp) (k : IntKind) (x y : Int) : Option V := Int.rec (fun n => shiftN op k x n) (fun _ => none) y

def isShift (op : BinOp) : Bool := BinOp.rec false false false false false false false false true true false false false false false false false op

def no2 (_ _ : List Nat) : Option V := none
def strOp (op : BinOp) : List Nat → List Nat → Option V :=
  BinOp.rec (fun s t => Bool.rec none (some (.str (lapp s t))) (Nat.ble (Nat.add (llen s) (llen t)) 4611686018427387904)) no2 no2 no2 no2 no2 no2 no2 no2 no2 no2
    (fun s t => some (.bool (beqList Nat.beq s t)))
    (fun s t => some (.bool (bnot (beqList Nat.beq s t))))
    no2 no2 no2 no2 op

def oInt (v : V) (k : IntKind → Int → Option V) : Option V := (V.rec (motive_1 := fun _ => (IntKind → Int → Option V) → Option V) (motive_2 := fun _ => PUnit) (fun _ _ => none) (fun i x => fun k => k i x) (fun _ _ => none) (fun _ _ _ => none) (fun _ => none) (fun _ _ _ _ _ => none) (fun _ => none) (fun _ _ => none) (fun _ => none) (fun _ _ _ _ _ _ => none) (fun _ _ => none) (fun _ => none) (fun _ _ _ _ => none) (fun _ => none) (fun _ _ _ => none) (fun _ _ _ => none) PUnit.unit (fun _ _ _ _ => PUnit.unit) (v)) k
def oStr (v : V) (k : List Nat → Option V) : Option V := (V.rec (motive_1 := fun _ => (List Nat → Option V) → Option V) (motive_2 := fun _ => PUnit) (fun _ _ => none) (fun _ _ _ => none) (fun x => fun k => k x) (fun _ _ _ => none) (fun _ => none) (fun _ _ _ _ _ => none) (fun _ => none) (fun _ _ => none) (fun _ => none) (fun _ _ _ _ _ _ => none) (fun _ _ => none) (fun _ => none) (fun _ _ _ _ => none) (fun _ => none) (fun _ _ _ => none) (fun _ _ _ => none) PUnit.unit (fun _ _ _ _ => PUnit.unit) (v)) k
def oBool (v : V) (k : Bool → Option V) : Option V := (V.rec (motive_1 := fun _ => (Bool → Option V) → Option V) (motive_2 := fun _ => PUnit) (fun x => fun k => k x) (fun _ _ _ => none) (fun _ _ => none) (fun _ _ _ => none) (fun _ => none) (fun _ _ _ _ _ => none) (fun _ => none) (fun _ _ => none) (fun _ => none) (fun _ _ _ _ _ _ => none) (fun _ _ => none) (fun _ => none) (fun _ _ _ _ => none) (fun _ => none) (fun _ _ _ => none) (fun _ _ _ => none) PUnit.unit (fun _ _ _ _ => PUnit.unit) (v)) k

def binInt (op : BinOp) (k : IntKind) (a : Int) (y : V) : Option V := oInt y fun j b =>
  Bool.rec (Bool.rec none (arith op k a b) (beqKind k j)) (shiftV op k a b) (isShift op)

def binV (op : BinOp) (x y : V) : Option V := (V.rec (motive_1 := fun _ => BinOp → V → Option V) (motive_2 := fun _ => PUnit) (fun _ _ _ => none) (fun k a => fun op y => binInt op k a y) (fun s => fun op y => oStr y (strOp op s)) (fun _ _ _ _ => none) (fun _ _ => none) (fun _ _ _ _ _ _ => none) (fun _ _ => none) (fun _ _ _ => none) (fun _ _ => none) (fun _ _ _ _ _ _ _ => none) (fun _ _ _ => none) (fun _ _ => none) (fun _ _ _ _ _ => none) (fun _ _ => none) (fun _ _ _ _ => none) (fun _ _ _ _ => none) PUnit.unit (fun _ _ _ _ => PUnit.unit) (x)) op y

def unV (op : UnOp) : V → Option V :=
  UnOp.rec (fun x => oInt x fun k n => some (.int k (wr k (isub (.ofNat 0) n))))
    (fun x => oInt x fun k n => some (.int k (ofU k (Nat.sub (Nat.sub (kmod k) 1) (toU k n)))))
    (fun x => oBool x fun b => some (.bool (bnot b)))
    (fun _ => none) op

/-! blocks -/

def bigRead (z : V) (t : Tr V) (k : Nat) : Nat → List V :=
  Nat.rec (fun _ => []) (fun _ ih i => optD z (Tr.get t (pa i)) :: ih (Nat.succ i)) k

def forceT {α β : Type} (t : Tr α) (f : Tr α → β) : β := Tr.rec (f .nil) (fun l v r _ _ => f (.node l v r)) t

def bigWrite (vs : List V) : Nat → Tr V → Tr V :=
  List.rec (fun _ t => t) (fun v _ ih i t => forceT (Tr.set (some v) t (pa i)) (ih (Nat.succ i))) vs

def Blk.size (b : Blk) : Option Nat := Blk.rec (motive := fun _ => Option Nat) (fun n _ _ => some n) (fun n _ _ _ => some n) (fun _ _ => none) (fun _ _ _ _ => none) (fun _ _ _ _ _ _ => none) (fun _ => none) (b)

def Blk.gr (b : Blk) : Nat := Blk.rec (motive := fun _ => Nat) (fun _ _ g => g) (fun _ _ _ g => g) (fun _ _ => 0) (fun _ _ _ _ => 0) (fun _ _ _ _ _ _ => 0) (fun _ => 0) (b)

def bIf {α : Type} (c : Bool) (a b : α) : α := Bool.rec b a c

def Blk.read1 (b : Blk) (i : Nat) : Option V := (Blk.rec (motive := fun _ => Nat → Option V) (fun _ l _ => fun i => lget l i) (fun n z t _ => fun i => bIf (Nat.blt i n) (some (optD z (Tr.get t (pa i)))) none) (fun _ _ _ => none) (fun _ _ _ _ _ => none) (fun _ _ _ _ _ _ _ => none) (fun _ _ => none) (b)) i

def Blk.read (b : Blk) (o n : Nat) : Option (List V) := (Blk.rec (motive := fun _ => Nat → Nat → Option (List V)) (fun m l _ => fun o n => bIf (Nat.ble (Nat.add o n) m) (some (ltk n (ldrop o l))) none) (fun m z t _ => fun o n => bIf (Nat.ble (Nat.add o n) m) (some (bigRead z t n o)) none) (fun _ _ _ _ => none) (fun _ _ _ _ _ _ => none) (fun _ _ _ _ _ _ _ _ => none) (fun _ _ _ => none) (b)) o n

/-- vs: k of them -/
def Blk.write (b : Blk) (o k : Nat) (vs : List V) : Option Blk := (Blk.rec (motive := fun _ => Nat → Nat → List V → Option Blk) (fun m l g => fun o k vs => bIf (Nat.ble (Nat.add o k) m) (some (.cells m (lput vs l o) g)) none) (fun m z t g => fun o k vs => bIf (Nat.ble (Nat.add o k) m) (some (.big m z (bigWrite vs o t) g)) none) (fun _ _ _ _ _ => none) (fun _ _ _ _ _ _ _ => none) (fun _ _ _ _ _ _ _ _ _ => none) (fun _ _ _ _ => none) (b)) o k vs

def St.get (s : St) (b : Pa) : Option Blk := Tr.get s.heap b
def St.put (s : St) (b : Pa) (x : Blk) : St := ⟨Tr.set (some x) s.heap b, s.next⟩
def St.kill (s : St) (b : Pa) : St := ⟨Tr.set none s.heap b, s.next⟩
def St.new (s : St) (x : Blk) : St := ⟨Tr.set (some x) s.heap s.next, Pa.succ s.next⟩

def obind {α β : Type} (x : Option α) (f : α → Option β) : Option β := Option.rec none f x
def rbind {α β : Type} (x : Option α) (f : α → Res β) : Res β := Option.rec (.err 1) f x

def St.readN (s : St) (b : Pa) (o n : Nat) : Option (List V) := obind (s.get b) fun blk => blk.read o n

def St.writeN (s : St) (b : Pa) (o k : Nat) (vs : List V) : Option St :=
  obind (s.get b) fun blk => obind (blk.write o k vs) fun blk => some (s.put b blk)

/-! equality -/
def bBool (v : V) (k : Bool → Option Bool) : Option Bool := (V.rec (motive_1 := fun _ => (Bool → Option Bool) → Option Bool) (motive_2 := fun _ => PUnit) (fun x => fun k => k x) (fun _ _ _ => none) (fun _ _ => none) (fun _ _ _ => none) (fun _ => none) (fun _ _ _ _ _ => none) (fun _ => none) (fun _ _ => none) (fun _ => none) (fun _ _ _ _ _ _ => none) (fun _ _ => none) (fun _ => none) (fun _ _ _ _ => none) (fun _ => none) (fun _ _ _ => none) (fun _ _ _ => none) PUnit.unit (fun _ _ _ _ => PUnit.unit) (v)) k
def bInt (v : V) (k : IntKind → Int → Option Bool) : Option Bool := (V.rec (motive_1 := fun _ => (IntKind → Int → Option Bool) → Option Bool) (motive_2 := fun _ => PUnit) (fun _ _ => none) (fun i x => fun k => k i x) (fun _ _ => none) (fun _ _ _ => none) (fun _ => none) (fun _ _ _ _ _ => none) (fun _ => none) (fun _ _ => none) (fun _ => none) (fun _ _ _ _ _ _ => none) (fun _ _ => none) (fun _ => none) (fun _ _ _ _ => none) (fun _ => none) (fun _ _ _ => none) (fun _ _ _ => none) PUnit.unit (fun _ _ _ _ => PUnit.unit) (v)) k
def bStr (v : V) (k : List Nat → Option Bool) : Option Bool := (V.rec (motive_1 := fun _ => (List Nat → Option Bool) → Option Bool) (motive_2 := fun _ => PUnit) (fun _ _ => none) (fun _ _ _ => none) (fun x => fun k => k x) (fun _ _ _ => none) (fun _ => none) (fun _ _ _ _ _ => none) (fun _ => none) (fun _ _ => none) (fun _ => none) (fun _ _ _ _ _ _ => none) (fun _ _ => none) (fun _ => none) (fun _ _ _ _ => none) (fun _ => none) (fun _ _ _ => none) (fun _ _ _ => none) PUnit.unit (fun _ _ _ _ => PUnit.unit) (v)) k

def eqBool (x y : V) : Option Bool := bBool x fun a => bBool y fun b => some (beqBool a b)
def eqInt (x y : V) : Option Bool := bInt x fun k a => bInt y fun j b => bIf (beqKind k j) (some (beqInt a b)) none
def eqStr (x y : V) : Option Bool := bStr x fun s => bStr y fun t => some (beqList Nat.beq s t)

def St.live (s : St) (b : Pa) : Bool := Option.rec false (fun x => Option.rec false (fun _ => true) x.size) (s.get b)

def eqPtr2 (s : St) (b : Pa) (o : Nat) (y : V) : Option Bool := (V.rec (motive_1 := fun _ => St → Pa → Nat → Option Bool) (motive_2 := fun _ => PUnit) (fun _ _ _ _ => none) (fun _ _ _ _ _ => none) (fun _ _ _ _ => none) (fun c p => fun s b o => bIf (band (s.live b) (s.live c)) (some (band (Pa.beq b c) (Nat.beq o p))) none) (fun _ _ _ => some false) (fun _ _ _ _ _ _ _ => none) (fun _ _ _ => none) (fun _ _ _ _ => none) (fun _ _ _ => none) (fun _ _ _ _ _ _ _ _ => none) (fun _ _ _ _ => none) (fun _ _ _ => none) (fun _ _ _ _ _ _ => none) (fun _ _ _ => none) (fun _ _ _ _ _ => none) (fun _ _ _ _ _ => none) PUnit.unit (fun _ _ _ _ => PUnit.unit) (y)) s b o
def eqPtr (s : St) (x y : V) : Option Bool := (V.rec (motive_1 := fun _ => St → V → Option Bool) (motive_2 := fun _ => PUnit) (fun _ _ _ => none) (fun _ _ _ _ => none) (fun _ _ _ => none) (fun b o => fun s y => eqPtr2 s b o y) (fun _ y => V.rec (motive_1 := fun _ => Option Bool) (motive_2 := fun _ => PUnit) (fun _ => none) (fun _ _ => none) (fun _ => none) (fun _ _ => some false) (some true) (fun _ _ _ _ => none) (none) (fun _ => none) (none) (fun _ _ _ _ _ => none) (fun _ => none) (none) (fun _ _ _ => none) (none) (fun _ _ => none) (fun _ _ => none) PUnit.unit (fun _ _ _ _ => PUnit.unit) (y)) (fun _ _ _ _ _ _ => none) (fun _ _ => none) (fun _ _ _ => none) (fun _ _ => none) (fun _ _ _ _ _ _ _ => none) (fun _ _ _ => none) (fun _ _ => none) (fun _ _ _ _ _ => none) (fun _ _ => none) (fun _ _ _ _ => none) (fun _ _ _ _ => none) PUnit.unit (fun _ _ _ _ => PUnit.unit) (x)) s y
def eqSlice (x y : V) : Option Bool := (V.rec (motive_1 := fun _ => V → Option Bool) (motive_2 := fun _ => PUnit) (fun _ _ => none) (fun _ _ _ => none) (fun _ _ => none) (fun _ _ _ => none) (fun _ => none) (fun _ _ _ _ => fun y => V.rec (motive_1 := fun _ => Option Bool) (motive_2 := fun _ => PUnit) (fun _ => none) (fun _ _ => none) (fun _ => none) (fun _ _ => none) (none) (fun _ _ _ _ => none) (some false) (fun _ => none) (none) (fun _ _ _ _ _ => none) (fun _ => none) (none) (fun _ _ _ => none) (none) (fun _ _ => none) (fun _ _ => none) PUnit.unit (fun _ _ _ _ => PUnit.unit) (y)) (fun y => V.rec (motive_1 := fun _ => Option Bool) (motive_2 := fun _ => PUnit) (fun _ => none) (fun _ _ => none) (fun _ => none) (fun _ _ => none) (none) (fun _ _ _ _ => some false) (some true) (fun _ => none) (none) (fun _ _ _ _ _ => none) (fun _ => none) (none) (fun _ _ _ => none) (none) (fun _ _ => none) (fun _ _ => none) PUnit.unit (fun _ _ _ _ => PUnit.unit) (y)) (fun _ _ => none) (fun _ => none) (fun _ _ _ _ _ _ => none) (fun _ _ => none) (fun _ => none) (fun _ _ _ _ => none) (fun _ => none) (fun _ _ _ => none) (fun _ _ _ => none) PUnit.unit (fun _ _ _ _ => PUnit.unit) (x)) y
def eqMap (x y : V) : Option Bool := (V.rec (motive_1 := fun _ => V → Option Bool) (motive_2 := fun _ => PUnit) (fun _ _ => none) (fun _ _ _ => none) (fun _ _ => none) (fun _ _ _ => none) (fun _ => none) (fun _ _ _ _ _ => none) (fun _ => none) (fun _ => fun y => V.rec (motive_1 := fun _ => Option Bool) (motive_2 := fun _ => PUnit) (fun _ => none) (fun _ _ => none) (fun _ => none) (fun _ _ => none) (none) (fun _ _ _ _ => none) (none) (fun _ => none) (some false) (fun _ _ _ _ _ => none) (fun _ => none) (none) (fun _ _ _ => none) (none) (fun _ _ => none) (fun _ _ => none) PUnit.unit (fun _ _ _ _ => PUnit.unit) (y)) (fun y => V.rec (motive_1 := fun _ => Option Bool) (motive_2 := fun _ => PUnit) (fun _ => none) (fun _ _ => none) (fun _ => none) (fun _ _ => none) (none) (fun _ _ _ _ => none) (none) (fun _ => some false) (some true) (fun _ _ _ _ _ => none) (fun _ => none) (none) (fun _ _ _ => none) (none) (fun _ _ => none) (fun _ _ => none) PUnit.unit (fun _ _ _ _ => PUnit.unit) (y)) (fun _ _ _ _ _ _ => none) (fun _ _ => none) (fun _ => none) (fun _ _ _ _ => none) (fun _ => none) (fun _ _ _ => none) (fun _ _ _ => none) PUnit.unit (fun _ _ _ _ => PUnit.unit) (x)) y
def eqFunc (x y : V) : Option Bool := (V.rec (motive_1 := fun _ => V → Option Bool) (motive_2 := fun _ => PUnit) (fun _ _ => none) (fun _ _ _ => none) (fun _ _ => none) (fun _ _ _ => none) (fun _ => none) (fun _ _ _ _ _ => none) (fun _ => none) (fun _ _ => none) (fun _ => none) (fun _ _ _ _ _ => fun y => V.rec (motive_1 := fun _ => Option Bool) (motive_2 := fun _ => PUnit) (fun _ => none) (fun _ _ => none) (fun _ => none) (fun _ _ => none) (none) (fun _ _ _ _ => none) (none) (fun _ => none) (none) (fun _ _ _ _ _ => none) (fun _ => none) (some false) (fun _ _ _ => none) (none) (fun _ _ => none) (fun _ _ => none) PUnit.unit (fun _ _ _ _ => PUnit.unit) (y)) (fun _ _ => none) (fun y => V.rec (motive_1 := fun _ => Option Bool) (motive_2 := fun _ => PUnit) (fun _ => none) (fun _ _ => none) (fun _ => none) (fun _ _ => none) (none) (fun _ _ _ _ => none) (none) (fun _ => none) (none) (fun _ _ _ _ _ => some false) (fun _ => none) (some true) (fun _ _ _ => none) (none) (fun _ _ => none) (fun _ _ => none) PUnit.unit (fun _ _ _ _ => PUnit.unit) (y)) (fun _ _ _ _ => none) (fun _ => none) (fun _ _ _ => none) (fun _ _ _ => none) PUnit.unit (fun _ _ _ _ => PUnit.unit) (x)) y
def eqIface (x y : V) : Option Bool := (V.rec (motive_1 := fun _ => V → Option Bool) (motive_2 := fun _ => PUnit) (fun _ _ => none) (fun _ _ _ => none) (fun _ _ => none) (fun _ _ _ => none) (fun _ => none) (fun _ _ _ _ _ => none) (fun _ => none) (fun _ _ => none) (fun _ => none) (fun _ _ _ _ _ _ => none) (fun _ _ => none) (fun _ => none) (fun _ _ _ => fun y => V.rec (motive_1 := fun _ => Option Bool) (motive_2 := fun _ => PUnit) (fun _ => none) (fun _ _ => none) (fun _ => none) (fun _ _ => none) (none) (fun _ _ _ _ => none) (none) (fun _ => none) (none) (fun _ _ _ _ _ => none) (fun _ => none) (none) (fun _ _ _ => none) (some false) (fun _ _ => none) (fun _ _ => none) PUnit.unit (fun _ _ _ _ => PUnit.unit) (y)) (fun y => V.rec (motive_1 := fun _ => Option Bool) (motive_2 := fun _ => PUnit) (fun _ => none) (fun _ _ => none) (fun _ => none) (fun _ _ => none) (none) (fun _ _ _ _ => none) (none) (fun _ => none) (none) (fun _ _ _ _ _ => none) (fun _ => none) (none) (fun _ _ _ => some false) (some true) (fun _ _ => none) (fun _ _ => none) PUnit.unit (fun _ _ _ _ => PUnit.unit) (y)) (fun _ _ _ => none) (fun _ _ _ => none) PUnit.unit (fun _ _ _ _ => PUnit.unit) (x)) y

def eqLeaf (s : St) (e : ETy) (x y : V) : Option Bool :=
  (ETy.rec (motive_1 := fun _ => St → V → V → Option Bool) (motive_2 := fun _ => PUnit)
    (fun _ => eqBool) (fun _ => eqInt) (fun _ => eqStr) eqPtr (fun _ => eqSlice) (fun _ => eqMap) (fun _ => eqFunc) (fun _ => eqIface) (fun _ _ _ _ _ => none) PUnit.unit (fun _ _ _ _ => PUnit.unit) e) s x y

def eqCells (s : St) (es : List ETy) : List V → List V → Option Bool :=
  List.rec (fun xs ys => List.rec (List.rec (some true) (fun _ _ _ => none) ys) (fun _ _ _ => none) xs)
    (fun e _ ih xs ys => List.rec none (fun x xs _ => List.rec none (fun y ys _ => obind (eqLeaf s e x y) fun b => Bool.rec (some false) (ih xs ys) b) ys) xs) es

def eqAgg (es : List ETy) (s : St) (x y : V) : Option Bool := (V.rec (motive_1 := fun _ => List ETy → St → V → Option Bool) (motive_2 := fun _ => PUnit) (fun _ _ _ _ => none) (fun _ _ _ _ _ => none) (fun _ _ _ _ => none) (fun _ _ _ _ _ => none) (fun _ _ _ => none) (fun _ _ _ _ _ _ _ => none) (fun _ _ _ => none) (fun _ _ _ _ => none) (fun _ _ _ => none) (fun _ _ _ _ _ _ _ _ => none) (fun _ _ _ _ => none) (fun _ _ _ => none) (fun _ _ _ _ _ _ => none) (fun _ _ _ => none) (fun xs _ => fun es s y => (V.rec (motive_1 := fun _ => List ETy → St → List V → Option Bool) (motive_2 := fun _ => PUnit) (fun _ _ _ _ => none) (fun _ _ _ _ _ => none) (fun _ _ _ _ => none) (fun _ _ _ _ _ => none) (fun _ _ _ => none) (fun _ _ _ _ _ _ _ => none) (fun _ _ _ => none) (fun _ _ _ _ => none) (fun _ _ _ => none) (fun _ _ _ _ _ _ _ _ => none) (fun _ _ _ _ => none) (fun _ _ _ => none) (fun _ _ _ _ _ _ => none) (fun _ _ _ => none) (fun ys _ => fun es s xs => eqCells s es xs ys) (fun _ _ _ _ _ => none) PUnit.unit (fun _ _ _ _ => PUnit.unit) (y)) es s xs) (fun _ _ _ _ _ => none) PUnit.unit (fun _ _ _ _ => PUnit.unit) (x)) es s y

def eqV (s : St) (e : ETy) (x y : V) : Option Bool :=
  (ETy.rec (motive_1 := fun _ => St → V → V → Option Bool) (motive_2 := fun _ => PUnit)
    (fun _ => eqBool) (fun _ => eqInt) (fun _ => eqStr) eqPtr (fun _ => eqSlice) (fun _ => eqMap) (fun _ => eqFunc) (fun _ => eqIface) (fun es _ => eqAgg es) PUnit.unit (fun _ _ _ _ => PUnit.unit) e) s x y

/-! maps -/
def aggLen (n : Nat) (v : V) : Bool := (V.rec (motive_1 := fun _ => Nat → Bool) (motive_2 := fun _ => PUnit) (fun _ _ => false) (fun _ _ _ => false) (fun _ _ => false) (fun _ _ _ => false) (fun _ => false) (fun _ _ _ _ _ => false) (fun _ => false) (fun _ _ => false) (fun _ => false) (fun _ _ _ _ _ _ => false) (fun _ _ => false) (fun _ => false) (fun _ _ _ _ => false) (fun _ => false) (fun cs _ => fun n => Nat.beq (llen cs) n) (fun _ _ _ => false) PUnit.unit (fun _ _ _ _ => PUnit.unit) (v)) n
/-- has a key as many cells as its type -/
def keyFits (e : ETy) (v : V) : Bool :=
  (ETy.rec (motive_1 := fun _ => V → Bool) (motive_2 := fun _ => PUnit)
    (fun _ => true) (fun _ => true) (fun _ => true) (fun _ => true) (fun _ => true) (fun _ => true) (fun _ => true) (fun _ => true) (fun l _ v => aggLen (llen l) v) PUnit.unit (fun _ _ _ _ => PUnit.unit) e) v
def findEnt (s : St) (e : ETy) (k : V) (es : List Ent) : Nat → Option (Option (Nat × V)) :=
  List.rec (fun _ => some none)
    (fun x _ ih i => obind (eqV s e k x.key) fun b => Bool.rec (ih (Nat.succ i)) (some (some (i, x.val))) b) es

def setEnt (k v : V) (es : List Ent) : Nat → List Ent :=
  List.rec (fun _ => []) (fun x es ih i => Nat.rec (⟨k, v, x.born⟩ :: es) (fun i _ => x :: ih i) i) es

def delEnt (es : List Ent) : Nat → List Ent :=
  List.rec (fun _ => []) (fun x es ih i => Nat.rec es (fun i _ => x :: ih i) i) es

/-! operations that call nothing -/

def looks (env : Env) (l : List Opd) : List V := lmap (Env.look env) l

def partV (agg : Bool) (n : Nat) (cs : List V) (off : Nat) : Option V :=
  bIf agg (bIf (Nat.ble (Nat.add off n) (llen cs)) (some (.agg (ltk n (ldrop off cs)))) none) (lget cs off)

/-- m: how many cells there are -/
def fillL (env : Env) (m : Nat) (parts : List (Nat × Nat × Opd)) : List V → Option (List V) :=
  List.rec (fun cells => some cells)
    (fun p _ ih cells => bIf (band (env.look p.2.2).fits (band (Nat.beq (llen (env.look p.2.2).cells) p.2.1) (Nat.ble (Nat.add p.1 p.2.1) m))) (ih (lput (env.look p.2.2).cells cells p.1)) none) parts

def bound (v : V) (y : Nat) : Option Nat := (V.rec (motive_1 := fun _ => Nat → Option Nat) (motive_2 := fun _ => PUnit) (fun _ _ => none) (fun _ i => fun y => Int.rec (fun n => bIf (Nat.ble n y) (some n) none) (fun _ => none) i) (fun _ _ => none) (fun _ _ _ => none) (fun _ => none) (fun _ _ _ _ _ => none) (fun _ => none) (fun _ _ => none) (fun _ => none) (fun _ _ _ _ _ _ => none) (fun _ _ => none) (fun _ => none) (fun _ _ _ _ => none) (fun _ => none) (fun _ _ _ => none) (fun _ _ _ => none) PUnit.unit (fun _ _ _ _ => PUnit.unit) (v)) y

def bnd (env : Env) (x : Option Opd) (y d : Nat) : Option Nat := Option.rec (some d) (fun x => bound (env.look x) y) x

def bounds (env : Env) (len cap : Nat) (lo hi mx : Option Opd) (f : Nat → Nat → Nat → Res V) : Res V :=
  rbind (bnd env mx cap cap) fun m => rbind (bnd env hi m len) fun h => rbind (bnd env lo h 0) fun l => f l h m

def strCells (s : List Nat) : List V := lmap (fun c => .int .u8 (.ofNat c)) s

def isByte (v : V) : Bool := V.rec (motive_1 := fun _ => Bool) (motive_2 := fun _ => PUnit) (fun _ => false) (fun k i => Int.rec (fun n => band (beqKind k .u8) (Nat.blt n 256)) (fun _ => false) i) (fun _ => false) (fun _ _ => false) (false) (fun _ _ _ _ => false) (false) (fun _ => false) (false) (fun _ _ _ _ _ => false) (fun _ => false) (false) (fun _ _ _ => false) (false) (fun _ _ => false) (fun _ _ => false) PUnit.unit (fun _ _ _ _ => PUnit.unit) (v)

def byteOf (v : V) : Nat := V.rec (motive_1 := fun _ => Nat) (motive_2 := fun _ => PUnit) (fun _ => 0) (fun _ i => Int.rec (fun n => n) (fun _ => 0) i) (fun _ => 0) (fun _ _ => 0) (0) (fun _ _ _ _ => 0) (0) (fun _ => 0) (0) (fun _ _ _ _ _ => 0) (fun _ => 0) (0) (fun _ _ _ => 0) (0) (fun _ _ => 0) (fun _ _ => 0) PUnit.unit (fun _ _ _ _ => PUnit.unit) (v)

def okV (s : St) (x : Option V) : Res V := Option.rec (.err 2) (fun v => .ok v s) x

/-- of a fresh row: n elements of zero (es cells each) -/
def zeroBlk (zero : List V) (es n : Nat) : Blk :=
  bIf (Nat.ble n 32) (.cells (Nat.mul n es) (repl zero n) 0)
    (match zero with
    | [z] => .big n z .nil 0
    | _ => .cells (Nat.mul n es) (repl zero n) 0)

abbrev Ev := Env → St → Res V

def onPtr (v : V) (k : Pa → Nat → Res V) : Res V := (V.rec (motive_1 := fun _ => (Pa → Nat → Res V) → Res V) (motive_2 := fun _ => PUnit) (fun _ _ => .err 4) (fun _ _ _ => .err 4) (fun _ _ => .err 4) (fun b o => fun k => k b o) (fun _ => .err 4) (fun _ _ _ _ _ => .err 4) (fun _ => .err 4) (fun _ _ => .err 4) (fun _ => .err 4) (fun _ _ _ _ _ _ => .err 4) (fun _ _ => .err 4) (fun _ => .err 4) (fun _ _ _ _ => .err 4) (fun _ => .err 4) (fun _ _ _ => .err 4) (fun _ _ _ => .err 4) PUnit.unit (fun _ _ _ _ => PUnit.unit) (v)) k
def onSlice (v : V) (d : Res V) (k : Pa → Nat → Nat → Nat → Res V) : Res V := (V.rec (motive_1 := fun _ => Res V → (Pa → Nat → Nat → Nat → Res V) → Res V) (motive_2 := fun _ => PUnit) (fun _ _ _ => .err 12) (fun _ _ _ _ => .err 12) (fun _ _ _ => .err 12) (fun _ _ _ _ => .err 12) (fun _ _ => .err 12) (fun b o l c => fun _ k => k b o l c) (fun d _ => d) (fun _ _ _ => .err 12) (fun _ _ => .err 12) (fun _ _ _ _ _ _ _ => .err 12) (fun _ _ _ => .err 12) (fun _ _ => .err 12) (fun _ _ _ _ _ => .err 12) (fun _ _ => .err 12) (fun _ _ _ _ => .err 12) (fun _ _ _ _ => .err 12) PUnit.unit (fun _ _ _ _ => PUnit.unit) (v)) d k
def onMap (v : V) (d : Res V) (k : Pa → Res V) : Res V := (V.rec (motive_1 := fun _ => Res V → (Pa → Res V) → Res V) (motive_2 := fun _ => PUnit) (fun _ _ _ => .err 24) (fun _ _ _ _ => .err 24) (fun _ _ _ => .err 24) (fun _ _ _ _ => .err 24) (fun _ _ => .err 24) (fun _ _ _ _ _ _ => .err 24) (fun _ _ => .err 24) (fun r => fun _ k => k r) (fun d _ => d) (fun _ _ _ _ _ _ _ => .err 24) (fun _ _ _ => .err 24) (fun _ _ => .err 24) (fun _ _ _ _ _ => .err 24) (fun _ _ => .err 24) (fun _ _ _ _ => .err 24) (fun _ _ _ _ => .err 24) PUnit.unit (fun _ _ _ _ => PUnit.unit) (v)) d k
def onInt (v : V) (k : Int → Res V) : Res V := (V.rec (motive_1 := fun _ => (Int → Res V) → Res V) (motive_2 := fun _ => PUnit) (fun _ _ => .err 9) (fun _ n => fun k => k n) (fun _ _ => .err 9) (fun _ _ _ => .err 9) (fun _ => .err 9) (fun _ _ _ _ _ => .err 9) (fun _ => .err 9) (fun _ _ => .err 9) (fun _ => .err 9) (fun _ _ _ _ _ _ => .err 9) (fun _ _ => .err 9) (fun _ => .err 9) (fun _ _ _ _ => .err 9) (fun _ => .err 9) (fun _ _ _ => .err 9) (fun _ _ _ => .err 9) PUnit.unit (fun _ _ _ _ => PUnit.unit) (v)) k
def onAgg (v : V) (k : List V → Res V) : Res V := (V.rec (motive_1 := fun _ => (List V → Res V) → Res V) (motive_2 := fun _ => PUnit) (fun _ _ => .err 16) (fun _ _ _ => .err 16) (fun _ _ => .err 16) (fun _ _ _ => .err 16) (fun _ => .err 16) (fun _ _ _ _ _ => .err 16) (fun _ => .err 16) (fun _ _ => .err 16) (fun _ => .err 16) (fun _ _ _ _ _ _ => .err 16) (fun _ _ => .err 16) (fun _ => .err 16) (fun _ _ _ _ => .err 16) (fun _ => .err 16) (fun cs _ => fun k => k cs) (fun _ _ _ => .err 16) PUnit.unit (fun _ _ _ _ => PUnit.unit) (v)) k
def onTup (v : V) (k : List V → Res V) : Res V := (V.rec (motive_1 := fun _ => (List V → Res V) → Res V) (motive_2 := fun _ => PUnit) (fun _ _ => .err 35) (fun _ _ _ => .err 35) (fun _ _ => .err 35) (fun _ _ _ => .err 35) (fun _ => .err 35) (fun _ _ _ _ _ => .err 35) (fun _ => .err 35) (fun _ _ => .err 35) (fun _ => .err 35) (fun _ _ _ _ _ _ => .err 35) (fun _ _ => .err 35) (fun _ => .err 35) (fun _ _ _ _ => .err 35) (fun _ => .err 35) (fun _ _ _ => .err 35) (fun cs _ => fun k => k cs) PUnit.unit (fun _ _ _ _ => PUnit.unit) (v)) k
def onStr (v : V) (k : List Nat → Res V) : Res V := (V.rec (motive_1 := fun _ => (List Nat → Res V) → Res V) (motive_2 := fun _ => PUnit) (fun _ _ => .err 14) (fun _ _ _ => .err 14) (fun t => fun k => k t) (fun _ _ _ => .err 14) (fun _ => .err 14) (fun _ _ _ _ _ => .err 14) (fun _ => .err 14) (fun _ _ => .err 14) (fun _ => .err 14) (fun _ _ _ _ _ _ => .err 14) (fun _ _ => .err 14) (fun _ => .err 14) (fun _ _ _ _ => .err 14) (fun _ => .err 14) (fun _ _ _ => .err 14) (fun _ _ _ => .err 14) PUnit.unit (fun _ _ _ _ => PUnit.unit) (v)) k
/-- bytes: a string, nothing, a slice -/
def onText (v : V) (ks : List Nat → Res V) (d : Res V) (k : Pa → Nat → Nat → Res V) : Res V := (V.rec (motive_1 := fun _ => (List Nat → Res V) → Res V → (Pa → Nat → Nat → Res V) → Res V) (motive_2 := fun _ => PUnit) (fun _ _ _ _ => .err 10) (fun _ _ _ _ _ => .err 10) (fun t => fun ks _ _ => ks t) (fun _ _ _ _ _ => .err 10) (fun _ _ _ => .err 10) (fun b o l _ => fun _ _ k => k b o l) (fun _ d _ => d) (fun _ _ _ _ => .err 10) (fun _ _ _ => .err 10) (fun _ _ _ _ _ _ _ _ => .err 10) (fun _ _ _ _ => .err 10) (fun _ _ _ => .err 10) (fun _ _ _ _ _ _ => .err 10) (fun _ _ _ => .err 10) (fun _ _ _ _ _ => .err 10) (fun _ _ _ _ _ => .err 10) PUnit.unit (fun _ _ _ _ => PUnit.unit) (v)) ks d k

def evMov (x : Opd) : Ev := fun env s => .ok (env.look x) s
def evPick (c a b : Opd) : Ev := fun env s => (V.rec (motive_1 := fun _ => V → V → St → Res V) (motive_2 := fun _ => PUnit) (fun t => fun a b s => .ok (bIf t a b) s) (fun _ _ _ _ _ => .err 3) (fun _ _ _ _ => .err 3) (fun _ _ _ _ _ => .err 3) (fun _ _ _ => .err 3) (fun _ _ _ _ _ _ _ => .err 3) (fun _ _ _ => .err 3) (fun _ _ _ _ => .err 3) (fun _ _ _ => .err 3) (fun _ _ _ _ _ _ _ _ => .err 3) (fun _ _ _ _ => .err 3) (fun _ _ _ => .err 3) (fun _ _ _ _ _ _ => .err 3) (fun _ _ _ => .err 3) (fun _ _ _ _ _ => .err 3) (fun _ _ _ _ _ => .err 3) PUnit.unit (fun _ _ _ _ => PUnit.unit) (env.look c)) (env.look a) (env.look b) s
def evNew (zero : List V) : Ev := fun _ s => .ok (.ptr s.next 0) (s.new (.cells (llen zero) zero 0))
def evNewBig (n : Nat) (z : V) : Ev := fun _ s => .ok (.ptr s.next 0) (s.new (.big n z .nil 0))
def evBox (x : Opd) : Ev := fun env s => bIf (env.look x).fits (.ok (.ptr s.next 0) (s.new (.cells (llen (env.look x).cells) (env.look x).cells 0))) (.err 60)
def evBuild (zero : List V) (parts : List (Nat × Nat × Opd)) : Ev := fun env s => rbind (fillL env (llen zero) parts zero) fun cs => .ok (.agg cs) s
def evBuildSlice (len n : Nat) (zero : List V) (parts : List (Nat × Nat × Opd)) : Ev := fun env s =>
  rbind (fillL env n parts zero) fun cs => .ok (.slice s.next 0 len len) (s.new (.cells n cs 0))
def evLoad (agg : Bool) (n : Nat) (a : Opd) : Ev := fun env s => onPtr (env.look a) fun b o =>
  rbind (s.get b) fun blk => bIf agg (rbind (blk.read o n) fun l => .ok (.agg l) s) (rbind (blk.read1 o) fun v => .ok v s)
def evStore (n : Nat) (a v : Opd) : Ev := fun env s => onPtr (env.look a) fun b o =>
  bIf (band (env.look v).fits (Nat.beq (llen (env.look v).cells) n)) (rbind (s.writeN b o n (env.look v).cells) fun s => .ok undefV s) (.err 6)
def nilOk (v : V) : Bool := V.rec (motive_1 := fun _ => Bool) (motive_2 := fun _ => PUnit) (fun _ => false) (fun _ _ => false) (fun _ => false) (fun _ _ => true) (false) (fun _ _ _ _ => false) (false) (fun _ => false) (false) (fun _ _ _ _ _ => true) (fun _ => true) (false) (fun _ _ _ => true) (false) (fun _ _ => false) (fun _ _ => false) PUnit.unit (fun _ _ _ _ => PUnit.unit) (v)
def evNilCheck (x : Opd) : Ev := fun env s => bIf (nilOk (env.look x)) (.ok (env.look x) s) (.err 7)
def evBin (op : BinOp) (x y : Opd) : Ev := fun env s => okV s (binV op (env.look x) (env.look y))
def isNilIface (v : V) : Bool := V.rec (motive_1 := fun _ => Bool) (motive_2 := fun _ => PUnit) (fun _ => false) (fun _ _ => false) (fun _ => false) (fun _ _ => false) (false) (fun _ _ _ _ => false) (false) (fun _ => false) (false) (fun _ _ _ _ _ => false) (fun _ => false) (false) (fun _ _ _ => false) (true) (fun _ _ => false) (fun _ _ => false) PUnit.unit (fun _ _ _ _ => PUnit.unit) (v)
def evEq (neg : Bool) (e : ETy) (lit : Bool) (x y : Opd) : Ev := fun env s =>
  bIf (band (bnot lit) (band (isNilIface (env.look x)) (isNilIface (env.look y)))) (.err 8) (rbind (eqV s e (env.look x) (env.look y)) fun r => .ok (.bool (bIf neg (bnot r) r)) s)
def evUn (op : UnOp) (x : Opd) : Ev := fun env s => okV s (unV op (env.look x))
def evConv (k : IntKind) (x : Opd) : Ev := fun env s => onInt (env.look x) fun n => .ok (.int k (wr k n)) s
def evToStr (x : Opd) : Ev := fun env s => onSlice (env.look x) (.ok (.str []) s) fun b o len _ =>
  rbind (s.readN b o len) fun l => bIf (lall isByte l) (.ok (.str (lmap byteOf l)) s) (.err 10)
def evStrStr (x : Opd) : Ev := fun env s => onStr (env.look x) fun l => .ok (.str l) s
def evMkIface (t : TypeId) (x : Opd) : Ev := fun env s => .ok (.iface t (env.look x)) s
def evMkFunc (f : Nat) (first captured : List Opd) : Ev := fun env s => .ok (.func f (looks env first) (looks env captured)) s
def evMkMap : Ev := fun _ s => .ok (.map s.next) (s.new (.map [] 0))
def evMkSlice (es bytes : Nat) (zero : List V) (l c : Opd) : Ev := fun env s =>
  rbind (bound (env.look c) 281474976710656) fun c => rbind (bound (env.look l) c) fun l =>
    bIf (Nat.ble (Nat.mul bytes c) 281474976710656) (.ok (.slice s.next 0 l c) (s.new (zeroBlk zero es c))) (.err 11)
def bor (a b : Bool) : Bool := Bool.rec b true a
def grOk (g es : Nat) : Bool := bor (Nat.beq g 0) (Nat.beq g es)
def slPlace (o l m es : Nat) : Nat := bIf (Nat.beq m l) o (Nat.add o (Nat.mul l es))
def evSliceS (es : Nat) (x : Opd) (lo hi mx : Option Opd) : Ev := fun env s => onSlice (env.look x)
  (bounds env 0 0 lo hi mx fun _ _ _ => .ok .nilslice s) fun b o len cap =>
  rbind (s.get b) fun blk => rbind blk.size fun _ => bIf (grOk blk.gr es) (bounds env len cap lo hi mx fun l h m => .ok (.slice b (slPlace o l m es) (Nat.sub h l) (Nat.sub m l)) s) (.err 63)
def evSliceA (n es : Nat) (x : Opd) (lo hi mx : Option Opd) : Ev := fun env s => onPtr (env.look x) fun b o =>
  bounds env n n lo hi mx fun l h m => .ok (.slice b (slPlace o l m es) (Nat.sub h l) (Nat.sub m l)) s
def evSliceStr (x : Opd) (lo hi : Option Opd) : Ev := fun env s => onStr (env.look x) fun t =>
  bounds env (llen t) (llen t) lo hi none fun l h _ => .ok (.str (ltk (Nat.sub h l) (ldrop l t))) s
def evFieldAddr (off : Nat) (x : Opd) : Ev := fun env s => onPtr (env.look x) fun b o => .ok (.ptr b (Nat.add o off)) s
def evField (off n : Nat) (agg : Bool) (x : Opd) : Ev := fun env s => onAgg (env.look x) fun cs => okV s (partV agg n cs off)
def idxN (v : V) (len : Nat) (f : Nat → Res V) : Res V := onInt v fun i => Int.rec (fun n => bIf (Nat.blt n len) (f n) (.err 18)) (fun _ => .err 18) i
def evIdxArr (len es : Nat) (x i : Opd) : Ev := fun env s => onPtr (env.look x) fun b o => idxN (env.look i) len fun n => .ok (.ptr b (Nat.add o (Nat.mul n es))) s
def evIdxSl (es : Nat) (x i : Opd) : Ev := fun env s => onSlice (env.look x) (.err 20) fun b o len _ => idxN (env.look i) len fun n => .ok (.ptr b (Nat.add o (Nat.mul n es))) s
def evIndex (len es : Nat) (agg : Bool) (x i : Opd) : Ev := fun env s => onAgg (env.look x) fun cs => idxN (env.look i) len fun n => okV s (partV agg es cs (Nat.mul n es))
def evIndexStr (x i : Opd) : Ev := fun env s => onStr (env.look x) fun t => idxN (env.look i) (llen t) fun n => okV s (obind (lget t n) fun c => some (.int .u8 (.ofNat c)))
def blkMap (b : Blk) (f : List Ent → Nat → Res V) : Res V := (Blk.rec (motive := fun _ => (List Ent → Nat → Res V) → Res V) (fun _ _ _ _ => .err 23) (fun _ _ _ _ _ => .err 23) (fun es clock => fun f => f es clock) (fun _ _ _ _ _ => .err 23) (fun _ _ _ _ _ _ _ => .err 23) (fun _ _ => .err 23) (b)) f
def blkIter (b : Blk) (f : Option Pa → Nat → List Nat → Nat → Res V) : Res V := (Blk.rec (motive := fun _ => (Option Pa → Nat → List Nat → Nat → Res V) → Res V) (fun _ _ _ _ => .err 33) (fun _ _ _ _ _ => .err 33) (fun _ _ _ => .err 33) (fun m a l c => fun f => f m a l c) (fun _ _ _ _ _ _ _ => .err 33) (fun _ _ => .err 33) (b)) f
def St.mapOf (s : St) (r : Pa) (f : List Ent → Nat → Res V) : Res V := rbind (s.get r) fun b => blkMap b f
def lookRes (zero : V) (ok : Bool) (s : St) (r : Option (Nat × V)) : Res V :=
  Option.rec (.ok (bIf ok (.tup [zero, .bool false]) zero) s) (fun p => .ok (bIf ok (.tup [p.2, .bool true]) p.2) s) r
/-- of entries in whatever order: one that matches, if it is the only one -/
def bagFind (s : St) (e : ETy) (k : V) (es : List Ent) : Option (Option (Nat × V)) :=
  List.rec (some none) (fun x _ ih => obind (eqV s e k x.key) fun b => obind ih fun r => Bool.rec (some r) (Option.rec (some (some (0, x.val))) (fun _ => none) r) b) es
def blkFind (s : St) (e : ETy) (k : V) (b : Blk) : Option (Option (Nat × V)) := (Blk.rec (motive := fun _ => St → ETy → V → Option (Option (Nat × V))) (fun _ _ _ _ _ _ => none) (fun _ _ _ _ _ _ _ => none) (fun es _ => fun s e k => findEnt s e k es 0) (fun _ _ _ _ _ _ _ => none) (fun _ _ _ _ _ _ _ _ _ => none) (fun es => fun s e k => bagFind s e k es) (b)) s e k
def evLookup (e : ETy) (zero : V) (ok : Bool) (m k : Opd) : Ev := fun env s => bIf (keyFits e (env.look k)) (onMap (env.look m) (lookRes zero ok s none) fun r =>
  rbind (s.get r) fun b => rbind (blkFind s e (env.look k) b) fun r => lookRes zero ok s r) (.err 65)
def evMapUpdate (e : ETy) (m k v : Opd) : Ev := fun env s => bIf (keyFits e (env.look k)) (onMap (env.look m) (.err 25) fun r =>
  s.mapOf r fun es clock => rbind (findEnt s e (env.look k) es 0) fun x =>
      Option.rec (.ok undefV (s.put r (.map (lapp es [⟨env.look k, env.look v, clock⟩]) (Nat.succ clock))))
        (fun p => .ok undefV (s.put r (.map (setEnt (env.look k) (env.look v) es p.1) clock))) x) (.err 65)
def bornAt (es : List Ent) (i : Nat) : Nat := Option.rec 0 (fun x => x.born) (lget es i)
def evMapEntry (e : ETy) (zero : V) (m k : Opd) : Ev := fun env s => bIf (keyFits e (env.look k)) (onMap (env.look m) (.err 26) fun r =>
  s.mapOf r fun es clock => rbind (findEnt s e (env.look k) es 0) fun x =>
      Option.rec (.ok (.tup [zero, .int .i64 (.ofNat clock)]) (s.put r (.map (lapp es [⟨env.look k, zero, clock⟩]) (Nat.succ clock))))
        (fun p => .ok (.tup [p.2, .int .i64 (.ofNat (bornAt es p.1))]) (s.put r (.map (setEnt (env.look k) p.2 es p.1) clock))) x) (.err 65)
def bornIdx (b : Nat) (es : List Ent) : Nat → Option (Nat × V) :=
  List.rec (fun _ => none) (fun x _ ih i => bIf (Nat.beq x.born b) (some (i, x.key)) (ih (Nat.succ i))) es
def evEntryStore (m st v : Opd) : Ev := fun env s => onMap (env.look m) (.err 28) fun r =>
  s.mapOf r fun es clock => onInt (env.look st) fun i => Int.rec (fun b => rbind (bornIdx b es 0) fun p => .ok undefV (s.put r (.map (setEnt p.2 (env.look v) es p.1) clock))) (fun _ => .err 27) i
def evRangeMap (m : Opd) : Ev := fun env s => onMap (env.look m) (.ok (.ptr s.next 0) (s.new (.mapIter none 0 [] 0))) fun r =>
  s.mapOf r fun _ clock => .ok (.ptr s.next 0) (s.new (.mapIter (some r) clock [] clock))
def lmem (x : Nat) (l : List Nat) : Bool := List.rec false (fun a _ ih => bIf (Nat.beq a x) true ih) l
def unseen (seen : List Nat) (es : List Ent) : List Ent := List.rec [] (fun e _ ih => bIf (lmem e.born seen) ih (e :: ih)) es
def isNilL {α : Type} (l : List α) : Bool := List.rec true (fun _ _ _ => false) l
def nextOf (b m : Pa) (since last : Nat) (seen : List Nat) (s : St) (es : List Ent) (clock : Nat) : Res V :=
  bIf (band (bnot (isNilL seen)) (band (bnot (isNilL es)) (lall (fun e => Nat.ble last e.born) es))) (.err 30)
    (List.rec (.ok (.tup [.bool false]) s)
      (fun e l _ => bIf (band (isNilL l) (Nat.blt e.born since)) (.ok (.tup [.bool true, e.key, e.val]) (s.put b (.mapIter (some m) since (lapp seen [e.born]) clock))) (.err 32))
      (unseen seen es))
def evNextMap (it : Opd) : Ev := fun env s => onPtr (env.look it) fun b o => bIf (Nat.beq o 0) (rbind (s.get b) fun x => blkIter x fun m since seen last =>
    Option.rec (.ok (.tup [.bool false]) s) (fun m => s.mapOf m fun es clock => nextOf b m since last seen s es clock) m) (.err 33)
def lastN (l : List Nat) : Option Nat := List.rec none (fun a _ ih => Option.rec (some a) (fun b => some b) ih) l
def findBorn (b : Nat) (es : List Ent) : Option Ent := List.rec none (fun x _ ih => bIf (Nat.beq x.born b) (some x) ih) es
def evEntry (it : Opd) : Ev := fun env s => onPtr (env.look it) fun b o => bIf (Nat.beq o 0) (rbind (s.get b) fun x => blkIter x fun m _ seen stepped =>
    rbind m fun m => rbind (lastN seen) fun st => s.mapOf m fun es clock =>
        bIf (Nat.beq clock stepped) (rbind (findBorn st es) fun e => .ok (.tup [e.key, e.val]) s) (.err 34)) (.err 34)
def evExtract (x : Opd) (i : Nat) : Ev := fun env s => onTup (env.look x) fun vs => okV s (lget vs i)
def evTassert (t : TypeId) (zero : V) (ok : Bool) (x : Opd) : Ev := fun env s => (V.rec (motive_1 := fun _ => TypeId → V → Bool → St → Res V) (motive_2 := fun _ => PUnit) (fun _ _ _ _ _ => .err 36) (fun _ _ _ _ _ _ => .err 36) (fun _ _ _ _ _ => .err 36) (fun _ _ _ _ _ _ => .err 36) (fun _ _ _ _ => .err 36) (fun _ _ _ _ _ _ _ _ => .err 36) (fun _ _ _ _ => .err 36) (fun _ _ _ _ _ => .err 36) (fun _ _ _ _ => .err 36) (fun _ _ _ _ _ _ _ _ _ => .err 36) (fun _ _ _ _ _ => .err 36) (fun _ _ _ _ => .err 36) (fun u v _ => fun t zero ok s => bIf (Nat.beq t u) (.ok (bIf ok (.tup [v, .bool true]) v) s) (bIf ok (.ok (.tup [zero, .bool false]) s) (.err 36))) (fun _ zero ok s => bIf ok (.ok (.tup [zero, .bool false]) s) (.err 36)) (fun _ _ _ _ _ _ => .err 36) (fun _ _ _ _ _ _ => .err 36) PUnit.unit (fun _ _ _ _ => PUnit.unit) (env.look x)) t zero ok s
def evLenStr (x : Opd) : Ev := fun env s => onStr (env.look x) fun l => .ok (.int .i64 (.ofNat (llen l))) s
def evLenSl (x : Opd) : Ev := fun env s => onSlice (env.look x) (.ok (.int .i64 (.ofNat 0)) s) fun _ _ n _ => .ok (.int .i64 (.ofNat n)) s
def evLenMap (x : Opd) : Ev := fun env s => onMap (env.look x) (.ok (.int .i64 (.ofNat 0)) s) fun r => s.mapOf r fun es _ => .ok (.int .i64 (.ofNat (llen es))) s
def evLenC (n : Nat) : Ev := fun _ s => .ok (.int .i64 (.ofNat n)) s
def evCap (x : Opd) : Ev := fun env s => onSlice (env.look x) (.ok (.int .i64 (.ofNat 0)) s) fun b _ _ c => rbind (s.get b) fun blk => rbind blk.size fun _ => bIf (Nat.beq blk.gr 0) (.ok (.int .i64 (.ofNat c)) s) (.err 38)
def mm (mx : Bool) (acc v : V) : Option V := oInt acc fun k x => oInt v fun _ y => some (.int k (bIf mx (bIf (ilt x y) y x) (bIf (ilt y x) y x)))
def mmL (mx : Bool) (l : List V) : V → Option V := List.rec (fun a => some a) (fun v _ ih a => obind (mm mx a v) ih) l
def isIntV (v : V) : Bool := V.rec (motive_1 := fun _ => Bool) (motive_2 := fun _ => PUnit) (fun _ => false) (fun _ _ => true) (fun _ => false) (fun _ _ => false) (false) (fun _ _ _ _ => false) (false) (fun _ => false) (false) (fun _ _ _ _ _ => false) (fun _ => false) (false) (fun _ _ _ => false) (false) (fun _ _ => false) (fun _ _ => false) PUnit.unit (fun _ _ _ _ => PUnit.unit) (v)
def evMinmax (mx : Bool) (l : List Opd) : Ev := fun env s => List.rec (.err 39) (fun x l _ => bIf (isIntV (env.look x)) (okV s (mmL mx (looks env l) (env.look x))) (.err 39)) l
def sizeOk (es need bytes : Nat) : Bool := band (Nat.ble 1 es) <| band (Nat.ble need 281474976710656) <| Nat.ble (Nat.mul (Nat.add (Nat.mul 2 need) 1000) bytes) 281474976710656
def appendGrow (es bytes : Nat) (s : St) (b : Pa) (o len cap need : Nat) (new : List V) : Res V :=
  rbind (s.get b) fun blk => rbind (blk.read o (Nat.mul len es)) fun old => rbind blk.size fun size =>
    bIf (band (sizeOk es need bytes) (grOk blk.gr es))
      (.ok (.slice s.next 0 need need)
        ((bIf (band (bnot (Nat.beq blk.gr 0)) (bor (Nat.beq cap 0) (Nat.beq (Nat.add o (Nat.mul cap es)) size))) (s.kill b) s).new (.cells (Nat.mul need es) (lapp old new) es)))
      (.err 40)
/-- n elements, whose cells are new, behind the slice -/
def appendV (es bytes : Nat) (s : St) (n : Nat) (new : List V) (sl : V) : Res V := onSlice sl
  (Nat.rec (.ok .nilslice s) (fun _ _ => bIf (sizeOk es n bytes) (.ok (.slice s.next 0 n n) (s.new (.cells (Nat.mul n es) new es))) (.err 40)) n) fun b o len cap =>
    bIf (Nat.ble (Nat.add len n) cap)
      (rbind (s.writeN b (Nat.add o (Nat.mul len es)) (Nat.mul n es) new) fun s => .ok (.slice b o (Nat.add len n) cap) s)
      (appendGrow es bytes s b o len cap (Nat.add len n) new)
def evAppend (es bytes : Nat) (sl x : Opd) : Ev := fun env s => onText (env.look x) (fun t => bIf (Nat.beq es 1) (appendV es bytes s (llen t) (strCells t) (env.look sl)) (.err 64)) (appendV es bytes s 0 [] (env.look sl)) fun b o len =>
  rbind (s.readN b o (Nat.mul len es)) fun l => appendV es bytes s len l (env.look sl)
def evAppendZ (es bytes : Nat) (zero : List V) (sl x : Opd) : Ev := fun env s =>
  rbind (bound (env.look x) 281474976710656) fun n => bIf (Nat.ble (Nat.mul n bytes) 281474976710656) (appendV es bytes s n (repl zero n) (env.look sl)) (.err 43)
def copyTo (es : Nat) (s : St) (b : Pa) (o n : Nat) (l : List V) : Res V := rbind (s.writeN b o (Nat.mul n es) l) fun s => .ok (.int .i64 (.ofNat n)) s
def copyFrom (es : Nat) (s : St) (x : V) (b : Pa) (o dlen : Nat) : Res V := onText x
  (fun t => bIf (Nat.beq es 1) (copyTo es s b o (minN (llen t) dlen) (ltk (minN (llen t) dlen) (strCells t))) (.err 64))
  (copyTo es s b o 0 []) fun b' o' len => rbind (s.readN b' o' (Nat.mul (minN len dlen) es)) fun l => copyTo es s b o (minN len dlen) l
def evCopy (es : Nat) (d x : Opd) : Ev := fun env s => onSlice (env.look d) (onText (env.look x) (fun _ => .ok (.int .i64 (.ofNat 0)) s) (.ok (.int .i64 (.ofNat 0)) s) fun _ _ _ => .ok (.int .i64 (.ofNat 0)) s) fun b o dlen _ => copyFrom es s (env.look x) b o dlen
def evDelete (e : ETy) (m k : Opd) : Ev := fun env s => bIf (keyFits e (env.look k)) (onMap (env.look m) (.ok (.tup []) s) fun r =>
  s.mapOf r fun es clock => rbind (findEnt s e (env.look k) es 0) fun x =>
      Option.rec (.ok (.tup []) s) (fun p => .ok (.tup []) (s.put r (.map (delEnt es p.1) clock))) x) (.err 65)
def evClearS (zero : List V) (sl : Opd) : Ev := fun env s => onSlice (env.look sl) (.ok (.tup []) s) fun b o len _ =>
  rbind (s.writeN b o (Nat.mul len (llen zero)) (repl zero len)) fun s => .ok (.tup []) s
def evClearM (m : Opd) : Ev := fun env s => onMap (env.look m) (.ok (.tup []) s) fun r => s.mapOf r fun _ clock => .ok (.tup []) (s.put r (.map [] clock))
def evS2a (n : Nat) (x : Opd) : Ev := fun env s => onSlice (env.look x) (bIf (Nat.beq n 0) (.ok .nilptr s) (.err 48)) fun b o len _ => bIf (band (Nat.ble 1 n) (Nat.ble n len)) (.ok (.ptr b o) s) (.err 48)
def evPanic : Ev := fun _ _ => .err 49

def evalOp (op : KOp) : Ev :=
  KOp.rec (motive := fun _ => Ev) evMov evPick evNew evNewBig evBox evBuild evBuildSlice evLoad evStore evNilCheck evBin evEq evUn evConv evToStr evStrStr evMkIface evMkFunc evMkMap evMkSlice
    evSliceS evSliceA evSliceStr evFieldAddr evField evIdxArr evIdxSl evIndex evIndexStr evLookup evMapUpdate evMapEntry evEntryStore evRangeMap evNextMap evEntry evExtract evTassert
    evLenStr evLenSl evLenMap evLenC evCap evMinmax evAppend evAppendZ evPanic evCopy evDelete evClearS evClearM evS2a op

/-! code -/

inductive Exit where
  | normal | ret | exit (id : Nat)
  deriving Inhabited

structure Fr where
  env : Env
  defers : List (V × List V)
  deriving Inhabited

inductive Req where
  | fn (f : Nat) (args : List V)
  | dfn (f : Nat) (args : List V)
  | round (l : Pa) (args : List V)
  deriving Inhabited

def putD (env : Env) (dst : Option Pa) (v : V) : Env := Option.rec env (fun d => Tr.set (some v) env d) dst

def isB (want : Bool) (v : V) : Bool := (V.rec (motive_1 := fun _ => Bool → Bool) (motive_2 := fun _ => PUnit) (fun b => fun want => beqBool b want) (fun _ _ _ => false) (fun _ _ => false) (fun _ _ _ => false) (fun _ => false) (fun _ _ _ _ _ => false) (fun _ => false) (fun _ _ => false) (fun _ => false) (fun _ _ _ _ _ _ => false) (fun _ _ => false) (fun _ => false) (fun _ _ _ _ => false) (fun _ => false) (fun _ _ _ => false) (fun _ _ _ => false) PUnit.unit (fun _ _ _ _ => PUnit.unit) (v)) want

def wanted (env : Env) (g : Option (Pa × Bool)) : Bool := Option.rec true (fun p => isB p.2 (envAt env p.1)) g

def assocN (l : List (Nat × Nat)) (x : Nat) : Option Nat := List.rec none (fun p _ ih => bIf (Nat.beq p.1 x) (some p.2) ih) l

def targetVal (f : V) (args : List V) : Option Req := (V.rec (motive_1 := fun _ => List V → Option Req) (motive_2 := fun _ => PUnit) (fun _ _ => none) (fun _ _ _ => none) (fun _ _ => none) (fun _ _ _ => none) (fun _ => none) (fun _ _ _ _ _ => none) (fun _ => none) (fun _ _ => none) (fun _ => none) (fun f first captured _ _ => fun args => some (.fn f (lapp first (lapp args captured)))) (fun l => fun args => some (.round l args)) (fun _ => none) (fun _ _ _ _ => none) (fun _ => none) (fun _ _ _ => none) (fun _ _ _ => none) PUnit.unit (fun _ _ _ _ => PUnit.unit) (f)) args

def targetInv (x : V) (tab : List (TypeId × Nat)) (args : List V) : Option Req := (V.rec (motive_1 := fun _ => List (TypeId × Nat) → List V → Option Req) (motive_2 := fun _ => PUnit) (fun _ _ _ => none) (fun _ _ _ _ => none) (fun _ _ _ => none) (fun _ _ _ _ => none) (fun _ _ => none) (fun _ _ _ _ _ _ => none) (fun _ _ => none) (fun _ _ _ => none) (fun _ _ => none) (fun _ _ _ _ _ _ _ => none) (fun _ _ _ => none) (fun _ _ => none) (fun t v _ => fun tab args => obind (assocN tab t) fun f => some (.fn f (v :: args))) (fun _ _ => none) (fun _ _ _ _ => none) (fun _ _ _ _ => none) PUnit.unit (fun _ _ _ _ => PUnit.unit) (x)) tab args

def target (env : Env) (c : KCallee) (args : List Opd) : Option Req :=
  (KCallee.rec (motive := fun _ => Env → List Opd → Option Req)
    (fun f env args => some (.fn f (looks env args)))
    (fun x env args => targetVal (env.look x) (looks env args))
    (fun x tab env args => targetInv (env.look x) tab (looks env args)) c) env args

abbrev CF := Req → St → Res V

def resBind {α β : Type} (r : Res α) (f : α → St → Res β) : Res β := Res.rec f (fun c => .err c) r

def isFnV (v : V) : Bool := V.rec (motive_1 := fun _ => Bool) (motive_2 := fun _ => PUnit) (fun _ => false) (fun _ _ => false) (fun _ => false) (fun _ _ => false) (false) (fun _ _ _ _ => false) (false) (fun _ => false) (false) (fun _ _ _ _ _ => true) (fun _ => false) (false) (fun _ _ _ => false) (false) (fun _ _ => false) (fun _ _ => false) PUnit.unit (fun _ _ _ _ => PUnit.unit) (v)

/-- one operation -/
def step (cf : CF) (o : KOper) (fr : Fr) (s : St) : Res Fr :=
  (KOper.rec (motive := fun _ => CF → Fr → St → Res Fr)
    (fun _ guard dst op _ fr s => bIf (wanted fr.env guard)
      (resBind (evalOp op fr.env s) fun v s => .ok ⟨putD fr.env dst v, fr.defers⟩ s)
      (.ok ⟨putD fr.env dst undefV, fr.defers⟩ s))
    (fun guard dst c args cf fr s => bIf (wanted fr.env guard)
      (rbind (target fr.env c args) fun r => resBind (cf r s) fun v s => .ok ⟨putD fr.env dst v, fr.defers⟩ s)
      (.ok ⟨putD fr.env dst undefV, fr.defers⟩ s))
    (fun guard dst f args _ fr s => bIf (wanted fr.env guard)
      (bIf (isFnV (fr.env.look f)) (.ok ⟨putD fr.env dst undefV, (fr.env.look f, looks fr.env args) :: fr.defers⟩ s) (.err 66))
      (.ok ⟨putD fr.env dst undefV, fr.defers⟩ s)) o) cf fr s

def steps (cf : CF) (l : List KOper) (fr : Fr) (s : St) : Res Fr :=
  (List.rec (motive := fun _ => CF → Fr → St → Res Fr) (fun _ fr s => .ok fr s) (fun o _ ih cf fr s => resBind (step cf o fr s) (ih cf)) l) cf fr s

/-- what is to be looked at again -/
inductive Rec where
  | val (lo hi : Nat) (op : KOp) (env : Env) (v : V)
  | blk (lo mid hi : Nat) (id : Pa) (b : Option Blk)
  deriving Inhabited

def beqEnt (x y : Ent) : Bool := band (V.beq 100 x.key y.key) (band (V.beq 100 x.val y.val) (Nat.beq x.born y.born))

def beqOptN (a b : Option Pa) : Bool := Option.rec (Option.rec true (fun _ => false) b) (fun a => Option.rec false (fun b => Pa.beq a b) b) a

def Blk.beq (a b : Blk) : Bool := match a with
  | .cells n l g => match b with | .cells n' m h => band (Nat.beq g h) (band (Nat.beq n n') (beqList (V.beq 100) l m)) | _ => false
  | .big n z t g => match b with
    | .big m y u h => band (Nat.beq g h) (band (Nat.beq n m) (band (V.beq 100 z y) (match t with | .nil => (match u with | .nil => true | _ => false) | _ => false)))
    | _ => false
  | .map es c => match b with | .map fs d => band (Nat.beq c d) (beqList beqEnt es fs) | _ => false
  | .mapIter m a s c => match b with | .mapIter n a' s' c' => band (beqOptN m n) (band (Nat.beq a a') (band (Nat.beq c c') (beqList Nat.beq s s'))) | _ => false
  | .loop .. => false
  | .bag _ => false

def within (lo hi m : Nat) : Bool := band (Nat.ble lo m) (Nat.ble m hi)

def recOk (m : Nat) (p : St) (r : Rec) : Bool := match r with
  | .val lo hi op env v => bIf (within lo hi m) (Res.rec (fun w _ => V.beq 100 w v) (fun _ => false) (evalOp op env p)) true
  | .blk lo mid hi id b => bIf (within lo hi m) (bIf (Nat.blt m mid) (Option.rec true (fun _ => false) (p.get id)) (Option.rec false (fun x => Option.rec false (fun y => Blk.beq x y) b) (p.get id))) true

def recsOk (recs : List Rec) (q : Nat × St) : Bool := lall (recOk q.1 q.2) recs

structure DSt where
  m : Nat
  rid : Pa
  recs : List Rec
  ps : List (Nat × St)

def isAlloc (o : KOper) : Bool := KOper.rec (fun cls _ _ _ => Cls.rec false (fun _ _ => false) (fun _ _ => true) false cls) (fun _ _ _ _ => false) (fun _ _ _ _ => false) o

/-- a number for each allocation of a region is kept free -/
def skipN (l : List KOper) : Pa → Pa := List.rec (fun p => p) (fun o _ ih p => ih (bIf (isAlloc o) (Pa.succ p) p)) l

def stepD (o : KOper) (d : DSt) (fr : Fr) (s : St) : DSt := match o with
  | .ev cls guard _ op => match cls with
    | .pure => d
    | .write => ⟨Nat.succ d.m, d.rid, d.recs, (d.m, s) :: d.ps⟩
    | .read lo hi => bIf (wanted fr.env guard) ⟨d.m, d.rid, (Res.rec (fun v _ => .val lo hi op fr.env v :: d.recs) (fun _ => d.recs) (evalOp op fr.env s)), d.ps⟩ d
    | .alloc lo hi => ⟨d.m, Pa.succ d.rid, bIf (wanted fr.env guard) (Res.rec (fun _ s' => .blk lo d.m hi d.rid (s'.get d.rid) :: d.recs) (fun _ => d.recs) (evalOp op fr.env ⟨s.heap, d.rid⟩)) d.recs, d.ps⟩
  | _ => ⟨Nat.succ d.m, d.rid, d.recs, (d.m, s) :: d.ps⟩

/-- an allocation under a number that was kept free -/
def stepA (o : KOper) (rid : Pa) (fr : Fr) (s : St) : Res Fr := match o with
  | .ev _ guard dst op => bIf (wanted fr.env guard)
      (resBind (evalOp op fr.env ⟨s.heap, rid⟩) fun v s' => .ok ⟨putD fr.env dst v, fr.defers⟩ ⟨s'.heap, s.next⟩)
      (.ok ⟨putD fr.env dst undefV, fr.defers⟩ s)
  | _ => .err 70

def stepR (cf : CF) (o : KOper) (rid : Pa) (fr : Fr) (s : St) : Res Fr := bIf (isAlloc o) (stepA o rid fr s) (step cf o fr s)

def stepsD (cf : CF) (l : List KOper) : DSt → Fr → St → Res Fr :=
  List.rec (fun d fr s => bIf (lall (recsOk d.recs) ((d.m, s) :: d.ps)) (.ok fr s) (.err 50))
    (fun o _ ih d fr s => resBind (stepR cf o d.rid fr s) (ih (stepD o d fr s))) l

def exitSw (e : Exit) (a b : Res (Exit × Fr)) : Res (Exit × Fr) := Exit.rec a b (fun _ => b) e

def iterN (body : Fr → St → Res (Exit × Fr)) (n : Nat) : Fr → St → Res (Exit × Fr) :=
  Nat.rec (fun _ _ => .err 51) (fun _ ih fr s => resBind (body fr s) fun p s => exitSw p.1 (ih p.2 s) (.ok p s)) n

def setParams (ts : List Pa) : List V → Env → Option Env :=
  List.rec (fun vs e => List.rec (some e) (fun _ _ _ => none) vs) (fun t _ ih vs e => List.rec none (fun v vs _ => ih vs (Tr.set (some v) e t)) vs) ts

def onBool (v : V) (a b : Res (Exit × Fr)) : Res (Exit × Fr) := (V.rec (motive_1 := fun _ => Res (Exit × Fr) → Res (Exit × Fr) → Res (Exit × Fr)) (motive_2 := fun _ => PUnit) (fun t => fun a b => bIf t a b) (fun _ _ _ _ => .err 52) (fun _ _ _ => .err 52) (fun _ _ _ _ => .err 52) (fun _ _ => .err 52) (fun _ _ _ _ _ _ => .err 52) (fun _ _ => .err 52) (fun _ _ _ => .err 52) (fun _ _ => .err 52) (fun _ _ _ _ _ _ _ => .err 52) (fun _ _ _ => .err 52) (fun _ _ => .err 52) (fun _ _ _ _ _ => .err 52) (fun _ _ => .err 52) (fun _ _ _ _ => .err 52) (fun _ _ _ _ => .err 52) PUnit.unit (fun _ _ _ _ => PUnit.unit) (v)) a b

def endExit (pending : Nat) : Exit := Nat.rec .normal (fun n _ => Nat.rec .ret (fun id _ => .exit id) n) pending

/-- where a loop over a function has been, among the deferred calls -/
def markD : V × List V := (.nilfunc, [])
def isMark (v : V) : Bool := V.rec (motive_1 := fun _ => Bool) (motive_2 := fun _ => PUnit) (fun _ => false) (fun _ _ => false) (fun _ => false) (fun _ _ => false) (false) (fun _ _ _ _ => false) (false) (fun _ => false) (false) (fun _ _ _ _ _ => false) (fun _ => false) (true) (fun _ _ _ => false) (false) (fun _ _ => false) (fun _ _ => false) PUnit.unit (fun _ _ _ _ => PUnit.unit) (v)

def endRange (l : Pa) (fr : Fr) (s : St) : Res (Exit × Fr) := rbind (s.get l) fun b => (Blk.rec (motive := fun _ => Pa → Fr → St → Res (Exit × Fr)) (fun _ _ _ _ _ _ => .err 53) (fun _ _ _ _ _ _ _ => .err 53) (fun _ _ _ _ _ => .err 53) (fun _ _ _ _ _ _ _ => .err 53) (fun done tmps params assign body pending => fun l fr s => bIf (Nat.beq done 1) (.err 53) (.ok (endExit pending, ⟨fr.env, markD :: fr.defers⟩) (s.put l (.loop 3 tmps params assign body pending)))) (fun _ _ _ _ => .err 53) (b)) l fr s

def notRound (r : Req) : Bool := Req.rec (fun _ _ => true) (fun _ _ => true) (fun _ _ => false) r

/-- the temporaries of a map's literal -/
def litEnv (ents : List (Pa × V × V)) : Env → Env := List.rec (fun e => e) (fun p _ ih e => ih (Tr.set (some p.2.1) e p.1)) ents

def exec (cf : CF) (lf : Nat) (c : KCode) (fr : Fr) (s : St) : Res (Exit × Fr) :=
  (KCode.rec (motive := fun _ => CF → Nat → Fr → St → Res (Exit × Fr))
    (fun _ _ fr s => .ok (.normal, fr) s)
    (fun ops cf _ fr s => resBind (steps cf ops fr s) fun fr s => .ok (.normal, fr) s)
    (fun ops cf _ fr s => resBind (stepsD cf ops ⟨0, s.next, [], []⟩ fr ⟨s.heap, skipN ops s.next⟩) fun fr s => .ok (.normal, fr) s)
    (fun _ _ iha ihb cf lf fr s => resBind (iha cf lf fr s) fun p s => exitSw p.1 (ihb cf lf p.2 s) (.ok p s))
    (fun c _ _ iha ihb cf lf fr s => onBool (fr.env.look c) (iha cf lf fr s) (ihb cf lf fr s))
    (fun id _ ih cf lf fr s => resBind (ih cf lf fr s) fun p s => .ok (Exit.rec .normal .ret (fun j => bIf (Nat.beq j id) .normal (.exit j)) p.1, p.2) s)
    (fun _ ih cf lf fr s => iterN (ih cf lf) lf fr s)
    (fun f params assign body _ _ cf _ fr s =>
      rbind (targetVal (fr.env.look f) [V.yield s.next]) fun r =>
        bIf (notRound r) (resBind (cf r (s.new (.loop 0 fr.env params assign body 0))) fun _ s' => endRange s.next fr s') (.err 67))
    (fun id _ _ fr s => .ok (.exit id, fr) s)
    (fun _ _ fr s => .ok (.ret, fr) s)
    (fun m ents _ _ fr s => .ok (.normal, ⟨litEnv ents (Tr.set (some (.map s.next)) fr.env m), fr.defers⟩) (s.new (.bag (lmap (fun p => ⟨p.2.1, p.2.2, 0⟩) ents))))
    (fun d it ops _ ih cf lf fr s => iterN (fun fr s => resBind (resBind (steps cf (.ev .pure none (some d) (.nextMap it) :: ops) fr s) fun fr s => .ok (.normal, fr) s) fun p s => exitSw p.1 (ih cf lf p.2 s) (.ok p s)) lf fr s) c) cf lf fr s

def KOp.touches (op : KOp) : Nat := match op with   -- 0 pure, 1 read, 2 alloc, 3 write
  | .mov _ => 0 | .pick _ _ _ => 0 | .build _ _ => 0 | .nilCheck _ => 0 | .bin _ _ _ => 0 | .un _ _ => 0 | .conv _ _ => 0 | .mkIface _ _ => 0 | .mkFunc _ _ _ => 0
  | .sliceS .. => 1 | .sliceA .. => 0 | .sliceStr .. => 0 | .fieldAddr .. => 0 | .field .. => 0 | .idxArr .. => 0 | .idxSl .. => 0 | .index .. => 0 | .indexStr .. => 0
  | .extract .. => 0 | .tassert .. => 0 | .lenC _ => 0 | .minmax .. => 0 | .s2a .. => 0
  | .load .. => 1 | .eq .. => 1 | .toStr _ => 1 | .lookup .. => 1 | .entry _ => 1 | .lenStr _ => 0 | .lenSl _ => 0 | .lenMap _ => 1 | .strStr _ => 0 | .cap _ => 1
  | .new _ => 2 | .newBig .. => 2 | .box _ => 2 | .buildSlice .. => 2 | .mkMap => 2 | .mkSlice .. => 2 | .rangeMap _ => 3
  | _ => 3

/-! loops over maps, whatever the order is -/
def quietOp (o : KOper) : Bool := KOper.rec (fun _ _ _ op => Nat.ble op.touches 1) (fun _ _ _ _ => false) (fun _ _ _ _ => false) o
/-- code that writes nothing -/
def quietC (c : KCode) : Bool :=
  KCode.rec true (fun ops => lall quietOp ops) (fun _ => false) (fun _ _ a b => band a b) (fun _ _ _ a b => band a b) (fun _ _ a => a) (fun _ _ => false) (fun _ _ _ _ _ _ => false) (fun _ => true) true (fun _ _ => false) (fun _ _ _ _ _ => false) c

/-- what may come next, each with the memory behind it -/
def picksOf (s : St) (b m : Pa) (since last : Nat) (seen : List Nat) (es : List Ent) (clock : Nat) : Option (List (V × St)) :=
  bIf (band (bnot (isNilL seen)) (band (bnot (isNilL es)) (lall (fun e => Nat.ble last e.born) es))) none
    (bIf (isNilL (unseen seen es)) (some [(.tup [.bool false], s)])
      (bIf (lall (fun e => Nat.blt e.born since) (unseen seen es))
        (some (lmap (fun e => (.tup [.bool true, e.key, e.val], s.put b (.mapIter (some m) since (lapp seen [e.born]) clock))) (unseen seen es))) none))
def picksIn (s : St) (b : Pa) (x : Blk) : Option (List (V × St)) := match x with
  | .mapIter (some m) since seen last => obind (s.get m) fun y => match y with
    | .map es clock => picksOf s b m since last seen es clock
    | _ => none
  | _ => none
def picks (env : Env) (it : Opd) (s : St) : Option (Pa × List (V × St)) := match env.look it with
  | .ptr b 0 => obind (s.get b) fun x => obind (picksIn s b x) fun l => some (b, l)
  | _ => none

def collect {α β : Type} (f : α → Option (List β)) (l : List α) : Option (List β) := List.rec (some []) (fun a _ ih => obind (f a) fun x => obind ih fun y => some (lapp x y)) l

def bodyM (cf : CF) (lf : Nat) (d : Pa) (ops : List KOper) (rest : KCode) (v : V) (fr : Fr) (s : St) : Res (Exit × Fr) :=
  resBind (steps cf ops ⟨putD fr.env (some d) v, fr.defers⟩ s) fun fr s => exec cf lf rest fr s

def outsM (cf : CF) (lf : Nat) (d b : Pa) (it : Opd) (ops : List KOper) (rest : KCode) (n : Nat) : Fr → St → Option (List (Exit × Fr)) :=
  Nat.rec (fun _ _ => none) (fun _ ih fr s => obind (picks fr.env it s) fun q => bIf (Pa.beq q.1 b)
    (collect (fun p => match bodyM cf lf d ops rest p.1 fr p.2 with
      | .ok (.normal, fr') s' => ih fr' s'
      | .ok r _ => some [r]
      | .err _ => none) q.2) none) n

def blockExit (id : Nat) (p : Exit × Fr) : Exit × Fr := (Exit.rec .normal .ret (fun j => bIf (Nat.beq j id) .normal (.exit j)) p.1, p.2)

/-- code that writes nothing, from each of the outcomes -/
def goM (f : Fr → St → Res (Exit × Fr)) (s : St) (l : List (Exit × Fr)) : Option (List (Exit × Fr)) :=
  collect (fun p => match p.1 with
    | .normal => match f p.2 s with
      | .ok q _ => some [q]
      | .err _ => none
    | _ => some [p]) l

/-- the outcomes of code on whose spine a loop over a map may stand -/
def execM (cf : CF) (lf : Nat) : KCode → Fr → St → Res (List (Exit × Fr))
  | .seq a b, fr, s => match execM cf lf a fr s with
    | .ok [p] s => (match p.1 with
      | .normal => execM cf lf b p.2 s
      | _ => .ok [p] s)
    | .ok l s => bIf (quietC b) (rbind (goM (exec cf lf b) s l) fun l => .ok l s) (.err 73)
    | .err c => .err c
  | .block id c, fr, s => match execM cf lf c fr s with
    | .ok l s => .ok (l.map (blockExit id)) s
    | .err c => .err c
  | .loopM d it ops rest, fr, s => bIf (band (lall quietOp ops) (quietC rest)) (rbind (picks fr.env it s) fun q => rbind (outsM cf lf d q.1 it ops rest lf fr s) fun l => .ok l (s.kill q.1)) (.err 74)
  | c, fr, s => resBind (exec cf lf c fr s) fun p s => .ok [p] s

def result1 (env : Env) (s : St) (r : KRes) : Option V :=
  (KRes.rec (motive := fun _ => Env → St → Option V)
    (fun t env _ => some (envAt env t))
    (fun t agg n env s => (V.rec (motive_1 := fun _ => St → Bool → Nat → Option V) (motive_2 := fun _ => PUnit) (fun _ _ _ _ => none) (fun _ _ _ _ _ => none) (fun _ _ _ _ => none) (fun b o => fun s agg n => obind (s.get b) fun blk => bIf agg (obind (blk.read o n) fun l => some (.agg l)) (blk.read1 o)) (fun _ _ _ => none) (fun _ _ _ _ _ _ _ => none) (fun _ _ _ => none) (fun _ _ _ _ => none) (fun _ _ _ => none) (fun _ _ _ _ _ _ _ _ => none) (fun _ _ _ _ => none) (fun _ _ _ => none) (fun _ _ _ _ _ _ => none) (fun _ _ _ => none) (fun _ _ _ _ _ => none) (fun _ _ _ _ _ => none) PUnit.unit (fun _ _ _ _ => PUnit.unit) (envAt env t)) s agg n) r) env s

def results (env : Env) (s : St) (rs : List KRes) : Option (List V) :=
  List.rec (some []) (fun r _ ih => obind (result1 env s r) fun v => obind ih fun vs => some (v :: vs)) rs

def oneOrTup (l : List V) : V := List.rec (.tup []) (fun v m _ => bIf (isNilL m) v (.tup l)) l

/-- a deferred call's request -/
def asDfn (r : Req) : Req := Req.rec (fun f args => .dfn f args) (fun f args => .dfn f args) (fun l args => .round l args) r

def runDefers (cf : CF) (l : List (V × List V)) : St → Res Unit :=
  List.rec (fun s => .ok () s) (fun d _ ih s => bIf (isMark d.1) (ih s) <| rbind (targetVal d.1 d.2) fun r => bIf (notRound r) (resBind (cf (asDfn r) s) fun _ s => ih s) (.err 61)) l

def startEnv (vs : List V) : Pa → Env → Env :=
  List.rec (fun _ e => e) (fun v _ ih i e => ih (Pa.succ i) (Tr.set (some v) e i)) vs

def isExit (e : Exit) : Bool := Exit.rec false false (fun _ => true) e

def endFn (cf : CF) (fn : KFunc) (p : Exit × Fr) (s : St) : Res V :=
  bIf (isExit p.1) (.err 54) (resBind (runDefers cf p.2.defers s) fun _ s => rbind (results p.2.env s fn.results) fun vs => .ok (oneOrTup vs) s)

def onLoop (b : Blk) (k : Nat → Tr V → List Pa → KCode → KCode → Nat → Res V) : Res V := (Blk.rec (motive := fun _ => (Nat → Tr V → List Pa → KCode → KCode → Nat → Res V) → Res V) (fun _ _ _ _ => .err 56) (fun _ _ _ _ _ => .err 56) (fun _ _ _ => .err 56) (fun _ _ _ _ _ => .err 56) (fun done tmps params assign body pending => fun k => k done tmps params assign body pending) (fun _ _ => .err 56) (b)) k

def endRound (l : Pa) (p : Exit × Fr) (s : St) : Res V :=
  rbind (s.get l) fun b => onLoop b fun _ tmps params assign body _ => Exit.rec
    (.ok (.bool true) (s.put l (.loop 0 tmps params assign body 0)))
    (.ok (.bool false) (s.put l (.loop 2 tmps params assign body 1)))
    (fun id => .ok (.bool false) (s.put l (.loop 2 tmps params assign body (Nat.succ (Nat.succ id))))) p.1

def beginRound (cf : CF) (lf : Nat) (l : Pa) (code : KCode) (fr : Fr) (s : St) : Res V :=
  rbind (s.get l) fun b => onLoop b fun done tmps params assign body pending => bIf (Nat.beq done 0)
    (resBind (exec cf lf code fr (s.put l (.loop 1 tmps params assign body pending))) fun p s => endRound l p s) (.err 68)

def roundV (cf : CF) (lf : Nat) (l : Pa) (args : List V) (s : St) (b : Blk) : Res V := onLoop b fun done tmps params assign body _ =>
  bIf (Nat.beq done 0) (rbind (setParams params args tmps) fun env =>
      resBind (exec cf lf assign ⟨env, []⟩ s) fun p s => Exit.rec (beginRound cf lf l body p.2 s) (.err 56) (fun _ => .err 56) p.1) (.err 56)

def callFn (cf : CF) (lf : Nat) (args : List V) (s : St) (fn : KFunc) : Res V :=
  bIf (bnot (Nat.ble (llen args) fn.ntmps)) (.err 69) <| resBind (exec cf lf fn.body ⟨startEnv args .z .nil, []⟩ s) fun p s => endFn cf fn p s

/-- a function's value behind an outcome -/
def endM (fn : KFunc) (s : St) (p : Exit × Fr) : Option V := bIf (isExit p.1) none (bIf (isNilL p.2.defers) (obind (results p.2.env s fn.results) fun vs => some (oneOrTup vs)) none)
def sameM (fn : KFunc) (s : St) (l : List (Exit × Fr)) : Res V := match l with
  | [] => .err 75
  | p :: l => rbind (endM fn s p) fun v => bIf (lall (fun q => Option.rec false (fun u => V.beq 100 u v) (endM fn s q)) l) (.ok v s) (.err 76)
def callFnM (cf : CF) (lf : Nat) (args : List V) (s : St) (fn : KFunc) : Res V :=
  bIf (bnot (Nat.ble (llen args) fn.ntmps)) (.err 69) <| resBind (execM cf lf fn.body ⟨startEnv args .z .nil, []⟩ s) fun l s => sameM fn s l

def callDfn (cf : CF) (lf : Nat) (args : List V) (s : St) (fn : KFunc) : Res V :=
  bIf (bnot (Nat.ble (llen args) fn.ntmps)) (.err 69) <| resBind (exec cf lf fn.body ⟨startEnv args .z .nil, []⟩ s) fun p s => bIf (isExit p.1) (.err 54) (bIf (isNilL p.2.defers)
    (rbind (results p.2.env s fn.results) fun vs => .ok (oneOrTup vs) s) (.err 62))

def callN (tab : Nat → Option KFunc) (lf : Nat) (n : Nat) : CF :=
  Nat.rec (fun _ _ => .err 57) (fun _ ih r s => Req.rec
    (fun f args => rbind (tab f) fun fn => bIf fn.many (callFnM ih lf args s fn) (callFn ih lf args s fn))
    (fun f args => rbind (tab f) (callDfn ih lf args s))
    (fun l args => rbind (s.get l) (roundV ih lf l args s)) r) n

end Part1
end Go.K

namespace Go.K
noncomputable section Part2

/-! from the program's code to mine -/

/-- what the compiler is told: the types; struct and array types that may be compared; method tables by the place of the call -/
structure Cx where
  T : Tr TypeInfo
  eqs : Tr (List ETy)
  inv : Tr (String × List (TypeId × Nat))

def mkTr {α : Type} (l : List α) : Pa → Tr α → Tr α :=
  List.rec (fun _ t => t) (fun a _ ih i t => ih (Pa.succ i) (Tr.set (some a) t i)) l

def tyTab (P : Program) : Tr TypeInfo := mkTr P.types.toList .z .nil

def Cx.info (x : Cx) (t : TypeId) : Option TypeInfo := Tr.get x.T (pa t)

def Cx.und (x : Cx) (t : TypeId) : Option TypeDesc := obind (x.info t) fun i => match i.desc with
  | .named _ u => obind (x.info u) fun j => some j.desc
  | d => some d

def omap {α β : Type} (f : α → Option β) (l : List α) : Option (List β) :=
  List.rec (some []) (fun a _ ih => obind (f a) fun b => obind ih fun bs => some (b :: bs)) l

def cvInt (i : Int) : Int := Int.rec (fun n => .ofNat n) (fun n => .negSucc n) i

def cv1 (rec : Value → Option V) (v : Value) : Option V := match v with
    | .bool b => some (.bool b)
    | .int k i => some (.int k (cvInt i))
    | .string s => some (.str (lmap (fun b => b.toNat) s.data.toList))
    | .pointer none => some .nilptr
    | .slice none 0 0 => some .nilslice
    | .map none => some .nilmap
    | .nilFunc => some .nilfunc
    | .nilIface => some .niliface
    | .func (.func f) first captured => obind (omap rec first.toList) fun a => obind (omap rec captured.toList) fun b => some (.func f a b)
    | .iface t v => obind (rec v) fun v => some (.iface t v)
    | .agg cs => obind (omap rec cs.toList) fun l => bIf (lall V.one l) (some (.agg l)) none
    | .tuple vs => obind (omap rec vs.toList) fun l => some (.tup l)
    | _ => none

def cv (n : Nat) : Value → Option V := Nat.rec (fun _ => none) (fun _ ih => cv1 ih) n

def cOpd (x : Operand) : Option Opd := match x with
  | .tmp t => some (.t (pa t))
  | .const v => obind (cv 10 v) fun v => some (.c v)
  | .func f => some (.c (.func f [] []))
  | .global _ => none

def cOpds (l : Array Operand) : Option (List Opd) := omap cOpd l.toList

def cOO (x : Option Operand) : Option (Option Opd) := match x with
  | none => some none
  | some x => obind (cOpd x) fun y => some (some y)

def Cx.zero (x : Cx) (t : TypeId) : Option V := obind (x.info t) fun i => obind i.zero fun v => cv 10 v
def Cx.zeros (x : Cx) (t : TypeId) : Option (List V) := obind (x.zero t) fun v => bIf (band (lall V.one v.cells) v.fits) (some v.cells) none
/-- the zero cells, as many as the type has -/
def Cx.zerosN (x : Cx) (t : TypeId) (n : Nat) : Option (List V) := obind (x.zeros t) fun z => bIf (Nat.beq (llen z) n) (some z) none
def Cx.size (x : Cx) (t : TypeId) : Option Nat := obind (x.info t) fun i => some i.size
def Cx.bytes (x : Cx) (t : TypeId) : Option Nat := obind (x.info t) fun i => some i.bytes
def Cx.agg (x : Cx) (t : TypeId) : Option Bool := obind (x.und t) fun d => some (match d with
  | .struct _ => true
  | .array _ _ => true
  | _ => false)

def Cx.eTy (x : Cx) (t : TypeId) : Option ETy := obind (x.und t) fun d => match d with
  | .bool => some .bool
  | .int _ => some .int
  | .string => some .str
  | .pointer e => obind (x.size e) fun n => Nat.rec none (fun _ _ => some .ptr) n
  | .slice _ => some .slice
  | .map _ _ => some .map
  | .func _ _ _ => some .func
  | .interface _ => some .iface
  | .struct _ => obind (Tr.get x.eqs (pa t)) fun l => some (.cells l)
  | .array _ _ => obind (Tr.get x.eqs (pa t)) fun l => some (.cells l)
  | _ => none

def keyLeaf (e : ETy) : Bool := match e with
  | .bool => true
  | .int => true
  | .str => true
  | .ptr => true
  | _ => false
/-- how a map's keys are compared -/
def Cx.kTy (x : Cx) (t : TypeId) : Option ETy := obind (x.eTy t) fun e => match e with
  | .cells l => bIf (lall keyLeaf l) (some e) none
  | e => bIf (keyLeaf e) (some e) none

def cParts (place : Nat → Option (Nat × Nat)) (l : List (Nat × Operand)) : Option (List (Nat × Nat × Opd)) :=
  omap (fun p => obind (place p.1) fun q => obind (cOpd p.2) fun y => some (q.1, q.2, y)) l

def isConstO (x : Operand) : Bool := match x with
  | .const _ => true
  | _ => false

def oFields (d : Option TypeDesc) : Option (Array Field) := obind d fun d => match d with | .struct fs => some fs | _ => none
def oSlice (d : Option TypeDesc) : Option TypeId := obind d fun d => match d with | .slice e => some e | _ => none
def oMap (d : Option TypeDesc) : Option (TypeId × TypeId) := obind d fun d => match d with | .map k e => some (k, e) | _ => none
def oArr (d : Option TypeDesc) : Option (Nat × TypeId) := obind d fun d => match d with | .array n e => some (n, e) | _ => none

def cAlloc (x : Cx) (t : TypeId) : Option KOp := obind (x.und t) fun d => match d with
  | .array n e => bIf (Nat.ble n 64) (obind (x.zeros t) fun z => some (.new z)) (obind (x.zeros t) fun zs => obind (x.zeros e) fun z => match z with | [z] => bIf (lall (V.beq 10 z) zs) (bIf (Nat.beq (llen zs) n) (some (.newBig n z)) none) none | _ => none)
  | _ => obind (x.zeros t) fun z => some (.new z)

def cBuild (x : Cx) (t : TypeId) (parts : List (Nat × Operand)) : Option KOp := obind (x.zeros t) fun z => obind (x.und t) fun d => match d with
  | .struct fs => obind (omap (fun f => obind (x.size f.type) fun s => some (f.offset, s)) fs.toList) fun pl => obind (cParts (fun i => lget pl i) parts) fun ps => some (.build z ps)
  | .array _ e => obind (x.size e) fun s => obind (cParts (fun i => some (Nat.mul i s, s)) parts) fun ps => some (.build z ps)
  | _ => none

def cBuildSlice (x : Cx) (t : TypeId) (len : Nat) (parts : List (Nat × Operand)) : Option KOp :=
  obind (oSlice (x.und t)) fun e => obind (x.size e) fun s => obind (x.zerosN e s) fun z =>
    obind (cParts (fun i => some (Nat.mul i s, s)) parts) fun ps => bIf (Nat.ble (Nat.mul len s) 65536) (some (.buildSlice len (Nat.mul len s) (repl z len) ps)) none

def cBin (x : Cx) (op : BinOp) (t : TypeId) (a b : Operand) : Option KOp := obind (cOpd a) fun u => obind (cOpd b) fun v => match op with
  | .eql => obind (x.eTy t) fun e => some (.eq false e (Bool.rec (isConstO b) true (isConstO a)) u v)
  | .neq => obind (x.eTy t) fun e => some (.eq true e (Bool.rec (isConstO b) true (isConstO a)) u v)
  | _ => some (.bin op u v)

def cConv (x : Cx) (src dst : TypeId) (a : Operand) : Option KOp := obind (cOpd a) fun y => obind (x.und src) fun d => match d with
  | .int _ => obind (x.und dst) fun d => match d with | .int k => some (.conv k y) | _ => none
  | .slice e => obind (x.und dst) fun d => match d with
    | .string => obind (x.und e) fun d => match d with | .int .u8 => some (.toStr y) | _ => none
    | _ => none
  | .string => obind (x.und dst) fun d => match d with | .string => some (.strStr y) | _ => none
  | _ => none

def cMkIface (x : Cx) (t : TypeId) (a : Operand) : Option KOp := obind (x.und t) fun d => match d with
  | .interface _ => none
  | _ => obind (cOpd a) fun y => some (.mkIface t y)

def okMax (hi mx : Option Operand) : Bool := match mx with
  | none => true
  | some _ => match hi with | none => false | some _ => true

def cSlice (x : Cx) (t : TypeId) (a : Operand) (lo hi mx : Option Operand) : Option KOp :=
  obind (bIf (okMax hi mx) (cOpd a) none) fun y => obind (cOO lo) fun l => obind (cOO hi) fun h => obind (cOO mx) fun m => obind (x.und t) fun d => match d with
  | .slice e => obind (x.size e) fun s => some (.sliceS s y l h m)
  | .string => match m with | none => some (.sliceStr y l h) | some _ => none
  | .array n e => obind (x.size e) fun s => some (.sliceA n s y l h m)
  | _ => none

def cFieldAddr (x : Cx) (t : TypeId) (a : Operand) (i : Nat) : Option KOp :=
  obind (oFields (x.und t)) fun fs => obind fs[i]? fun f => obind (x.size f.type) fun s => Nat.rec none (fun _ _ => obind (cOpd a) fun y => some (.fieldAddr f.offset y)) s

def cField (x : Cx) (t : TypeId) (a : Operand) (i : Nat) : Option KOp :=
  obind (oFields (x.und t)) fun fs => obind fs[i]? fun f => obind (x.size f.type) fun s => obind (x.agg f.type) fun g => obind (cOpd a) fun y => some (.field f.offset s g y)

def cIndexAddr (x : Cx) (t : TypeId) (a i : Operand) : Option KOp := obind (cOpd a) fun y => obind (cOpd i) fun j => obind (x.und t) fun d => match d with
  | .array n e => obind (x.size e) fun s => some (.idxArr n s y j)
  | .slice e => obind (x.size e) fun s => some (.idxSl s y j)
  | _ => none

def cIndex (x : Cx) (t : TypeId) (a i : Operand) : Option KOp := obind (cOpd a) fun y => obind (cOpd i) fun j => obind (x.und t) fun d => match d with
  | .array n e => obind (x.size e) fun s => obind (x.agg e) fun g => some (.index n s g y j)
  | .string => some (.indexStr y j)
  | _ => none

def cTassert (x : Cx) (a : Operand) (t : TypeId) (ok : Bool) : Option KOp := obind (x.und t) fun d => match d with
  | .interface _ => none
  | _ => obind (x.zero t) fun z => obind (cOpd a) fun y => some (.tassert t z ok y)

def cLen (x : Cx) (t : TypeId) (y : Opd) : Option KOp := obind (x.und t) fun d => match d with
  | .string => some (.lenStr y)
  | .slice _ => some (.lenSl y)
  | .map _ _ => some (.lenMap y)
  | .array n _ => some (.lenC n)
  | .pointer a => obind (oArr (x.und a)) fun p => some (.lenC p.1)
  | _ => none

def cAppend (x : Cx) (t : TypeId) (u : Option TypeId) (s y : Opd) : Option KOp := obind (oSlice (x.und t)) fun e => obind (x.size e) fun n => obind (x.bytes e) fun b =>
  obind u fun u => obind (x.und u) fun d => match d with
  | .int _ => obind (x.zerosN e n) fun z => some (.appendZ n b z s y)
  | _ => obind (x.zerosN e n) fun _ => some (.append n b s y)

def cClear (x : Cx) (t : TypeId) (y : Opd) : Option KOp := obind (x.und t) fun d => match d with
  | .slice e => obind (x.size e) fun n => obind (x.zerosN e n) fun z => some (.clearS z y)
  | .map _ _ => some (.clearM y)
  | _ => none

def cBuiltin (x : Cx) (b : Builtin) (tys : Array TypeId) (l : List Opd) : Option KOp := match b with
  | .len => match l with | [y] => obind tys[0]? fun t => cLen x t y | _ => none
  | .cap => match l with | [y] => obind tys[0]? fun t => obind (oSlice (x.und t)) fun _ => some (.cap y) | _ => none
  | .min => some (.minmax false l)
  | .max => some (.minmax true l)
  | .append => match l with | [s, y] => obind tys[0]? fun t => cAppend x t tys[1]? s y | _ => none
  | .copy => match l with | [d, y] => obind tys[0]? fun t => obind (oSlice (x.und t)) fun e => obind (x.size e) fun n => some (.copy n d y) | _ => none
  | .delete => match l with | [m, k] => obind tys[0]? fun t => obind (oMap (x.und t)) fun p => obind (x.kTy p.1) fun e => some (.delete e m k) | _ => none
  | .clear => match l with | [y] => obind tys[0]? fun t => cClear x t y | _ => none
  | _ => none

def cMap (x : Cx) (t : TypeId) (m k v : Operand) : Option KOp := obind (oMap (x.und t)) fun p => obind (x.kTy p.1) fun e => obind (cOpd m) fun m => obind (cOpd k) fun k => obind (cOpd v) fun v => some (.mapUpdate e m k v)

/-- an operation that is no call of Go code, no defer -/
def cOp (x : Cx) (op : Op) : Option KOp := match op with
  | .move a => obind (cOpd a) fun y => some (.mov y)
  | .assign a => obind (cOpd a) fun y => some (.mov y)
  | .pick c a b => obind (cOpd c) fun c => obind (cOpd a) fun a => obind (cOpd b) fun b => some (.pick c a b)
  | .alloc t => cAlloc x t
  | .box _ a => obind (cOpd a) fun y => some (.box y)
  | .build t parts => cBuild x t parts.toList
  | .buildSlice t len parts => cBuildSlice x t len parts.toList
  | .load t a => obind (x.agg t) fun g => obind (x.size t) fun n => obind (cOpd a) fun y => some (.load g n y)
  | .store t a v => obind (x.size t) fun n => obind (cOpd a) fun y => obind (cOpd v) fun v => some (.store n y v)
  | .nilCheck a => obind (cOpd a) fun y => some (.nilCheck y)
  | .binOp op t a b _ => cBin x op t a b
  | .unOp op _ a => obind (cOpd a) fun y => some (.un op y)
  | .convert src dst a => cConv x src dst a
  | .makeInterface t a => cMkIface x t a
  | .makeFunc (.func f) first captured => obind (cOpds first) fun a => obind (cOpds captured) fun b => some (.mkFunc f a b)
  | .makeMap _ none => some .mkMap
  | .makeMap t (some (.const (.int _ _))) => obind (oMap (x.und t)) fun _ => some .mkMap
  | .makeSlice t l c => obind (oSlice (x.und t)) fun e => obind (x.size e) fun n => obind (x.bytes e) fun b => obind (x.zerosN e n) fun z => obind (cOpd l) fun l => obind (cOpd c) fun c => some (.mkSlice n b z l c)
  | .slice t a lo hi mx => cSlice x t a lo hi mx
  | .fieldAddr t a i => cFieldAddr x t a i
  | .field t a i => cField x t a i
  | .indexAddr t a i => cIndexAddr x t a i
  | .index t a i => cIndex x t a i
  | .lookup t a i ok => obind (oMap (x.und t)) fun p => obind (x.kTy p.1) fun e => obind (x.zero p.2) fun z => obind (cOpd a) fun a => obind (cOpd i) fun i => some (.lookup e z ok a i)
  | .mapUpdate t m k v => cMap x t m k v
  | .insert t m k v => cMap x t m k v
  | .mapEntry t m k => obind (oMap (x.und t)) fun p => obind (x.kTy p.1) fun e => obind (x.zero p.2) fun z => obind (cOpd m) fun m => obind (cOpd k) fun k => some (.mapEntry e z m k)
  | .entryStore _ m s v => obind (cOpd m) fun m => obind (cOpd s) fun s => obind (cOpd v) fun v => some (.entryStore m s v)
  | .range t a => obind (oMap (x.und t)) fun _ => obind (cOpd a) fun y => some (.rangeMap y)
  | .next it false => obind (cOpd it) fun y => some (.nextMap y)
  | .entry it => obind (cOpd it) fun y => some (.entry y)
  | .extract t i => obind (cOpd t) fun y => some (.extract y i)
  | .typeAssert a _ t ok => cTassert x a t ok
  | .call c => match c.callee with
    | .builtin b => obind (cOpds c.args) fun l => cBuiltin x b c.argTypes l
    | _ => none
  | .sliceToArrayPointer t a => obind (oArr (x.und t)) fun p => obind (cOpd a) fun y => some (.s2a p.1 y)
  | .panic _ => some .panic
  | _ => none

def cCallee (x : Cx) (key : Nat) (c : Callee) : Option KCallee := match c with
  | .value (.func f) => some (.fn f)
  | .value a => obind (cOpd a) fun y => some (.val y)
  | .invoke a name => obind (Tr.get x.inv (pa key)) fun p => bIf (p.1 == name) (obind (cOpd a) fun y => some (.inv y p.2)) none
  | .builtin _ => none

def cGuard (ops : List Oper) (g : Option (Nat × Bool)) : Option (Option (Pa × Bool)) := match g with
  | none => some none
  | some (j, want) => obind (lget ops j) fun o => obind o.dst fun d => some (some (pa d, want))

def key (fid : Nat) (dst : Option Nat) : Nat := Nat.add (Nat.mul fid 4096) (optD 0 dst)

/-- N: how many places there are -/
def opa (N : Nat) (d : Option Nat) : Option (Option Pa) := Option.rec (some none) (fun n => bIf (Nat.blt n N) (some (some (pa n))) none) d

def cOper (x : Cx) (fid N : Nat) (ops : List Oper) (cls : Cls) (o : Oper) : Option KOper := obind (cGuard ops o.guard) fun g => obind (opa N o.dst) fun d => match o.op with
  | .call c => match c.callee with
    | .builtin _ => obind (cOp x o.op) fun k => some (.ev cls g d k)
    | callee => obind (cCallee x (key fid o.dst) callee) fun f => obind (cOpds c.args) fun l => some (.call g d f l)
  | .defer c => match c.callee with
    | .value a => obind (cOpd a) fun f => obind (cOpds c.args) fun l => some (.defer g d f l)
    | _ => none
  | op => obind (cOp x op) fun k => some (.ev cls g d k)

def KOper.touches (o : KOper) : Nat := match o with
  | .ev _ _ _ op => op.touches
  | _ => 3

def KOper.withCls (o : KOper) (c : Cls) : KOper := match o with
  | .ev _ g d op => .ev c g d op
  | o => o

/-- which operations must run before each one: bit masks -/
def befores (l : List Oper) : List Nat → List Nat :=
  List.rec (fun acc => acc)
    (fun o _ ih acc => ih (lapp acc [Array.foldl (fun s e => Bool.rec s (Nat.lor (Nat.lor s (Nat.pow 2 e.on)) (optD 0 (lget acc e.on))) (Region.binds .any e)) 0 o.after])) l

def hasBit (m i : Nat) : Bool := Nat.beq (Nat.mod (Nat.div m (Nat.pow 2 i)) 2) 1

def writers (ts : List Nat) : Nat → List Nat := List.rec (fun _ => []) (fun t _ ih i => bIf (Nat.beq t 3) (i :: ih (Nat.succ i)) (ih (Nat.succ i))) ts

def countL (f : Nat → Bool) (l : List Nat) : Nat := List.rec 0 (fun a _ ih => bIf (f a) (Nat.succ ih) ih) l

def chainOk (bef : List Nat) (ws : List Nat) : Bool := List.rec true (fun i l ih => List.rec true (fun j _ _ => bIf (hasBit (optD 0 (lget bef j)) i) ih false) l) ws

def clsOf (bef ws : List Nat) (j t : Nat) : Cls :=
  Nat.rec .pure (fun t _ => Nat.rec
      (.read (countL (fun i => hasBit (optD 0 (lget bef j)) i) ws) (countL (fun i => bnot (hasBit (optD 0 (lget bef i)) j)) ws))
      (fun t _ => Nat.rec (.alloc (countL (fun i => hasBit (optD 0 (lget bef j)) i) ws) (countL (fun i => bnot (hasBit (optD 0 (lget bef i)) j)) ws)) (fun _ _ => .write) t) t) t

def withClasses (bef ws : List Nat) (l : List KOper) : Nat → List KOper :=
  List.rec (fun _ => []) (fun o _ ih j => o.withCls (clsOf bef ws j o.touches) :: ih (Nat.succ j)) l

def optL (x : Option Opd) : List Opd := Option.rec [] (fun x => [x]) x
/-- what an operation looks at -/
def KOp.opds (op : KOp) : List Opd :=
  KOp.rec (motive := fun _ => List Opd)
    (fun x => [x])
    (fun c a b => [c, a, b])
    (fun _ => [])
    (fun _ _ => [])
    (fun x => [x])
    (fun _ parts => lmap (fun p => p.2.2) parts)
    (fun _ _ _ parts => lmap (fun p => p.2.2) parts)
    (fun _ _ a => [a])
    (fun _ a v => [a, v])
    (fun x => [x])
    (fun _ x y => [x, y])
    (fun _ _ _ x y => [x, y])
    (fun _ x => [x])
    (fun _ x => [x])
    (fun x => [x])
    (fun x => [x])
    (fun _ x => [x])
    (fun _ first captured => lapp (first) (captured))
    ([])
    (fun _ _ _ l c => [l, c])
    (fun _ x lo hi mx => lapp [x] (lapp (optL lo) (lapp (optL hi) (optL mx))))
    (fun _ _ x lo hi mx => lapp [x] (lapp (optL lo) (lapp (optL hi) (optL mx))))
    (fun x lo hi => lapp [x] (lapp (optL lo) (optL hi)))
    (fun _ x => [x])
    (fun _ _ _ x => [x])
    (fun _ _ x i => [x, i])
    (fun _ x i => [x, i])
    (fun _ _ _ x i => [x, i])
    (fun x i => [x, i])
    (fun _ _ _ m k => [m, k])
    (fun _ m k v => [m, k, v])
    (fun _ _ m k => [m, k])
    (fun m s v => [m, s, v])
    (fun m => [m])
    (fun it => [it])
    (fun it => [it])
    (fun x _ => [x])
    (fun _ _ _ x => [x])
    (fun x => [x])
    (fun x => [x])
    (fun x => [x])
    (fun _ => [])
    (fun x => [x])
    (fun _ l => l)
    (fun _ _ s x => [s, x])
    (fun _ _ _ s n => [s, n])
    ([])
    (fun _ d s => [d, s])
    (fun _ m k => [m, k])
    (fun _ s => [s])
    (fun m => [m])
    (fun _ x => [x]) op

def tempsOf (l : List Opd) : List Pa := List.rec [] (fun x _ ih => Opd.rec (fun i => i :: ih) (fun _ => ih) x) l
def KCallee.opds (c : KCallee) : List Opd := KCallee.rec (motive := fun _ => List Opd) (fun _ => []) (fun x => [x]) (fun x _ => [x]) c
def guardT (g : Option (Pa × Bool)) : List Pa := Option.rec [] (fun p => [p.1]) g
def KOper.guard (o : KOper) : Option (Pa × Bool) := KOper.rec (fun _ g _ _ => g) (fun g _ _ _ => g) (fun g _ _ _ => g) o
def KOper.dst (o : KOper) : Option Pa := KOper.rec (fun _ _ d _ => d) (fun _ d _ _ => d) (fun _ d _ _ => d) o
def KOper.opds (o : KOper) : List Opd := KOper.rec (fun _ _ _ op => op.opds) (fun _ _ f l => lapp f.opds l) (fun _ _ f l => f :: l) o
/-- the temporaries that an operation looks at -/
def KOper.reads (o : KOper) : List Pa := lapp (guardT o.guard) (tempsOf o.opds)

def optP (d : Option Pa) : List Pa := Option.rec [] (fun d => [d]) d
def memP (p : Pa) (l : List Pa) : Bool := List.rec false (fun q _ ih => bIf (Pa.beq p q) true ih) l
def dstIn (d : Option Pa) (l : List Pa) : Bool := Option.rec false (fun d => memP d l) d
/-- an earlier operation and a later one that must stand in this order for their temporaries' sake -/
def clash (a b : KOper) : Bool := bor (dstIn a.dst (lapp (optP b.dst) b.reads)) (dstIn b.dst a.reads)

/-- the operations before (with their places), against one -/
def clashOk (m : Nat) (b : KOper) (prev : List (Nat × KOper)) : Bool := lall (fun p => bIf (clash p.2 b) (hasBit m p.1) true) prev

def tmpsOk (bef : List Nat) (l : List KOper) : Nat → List (Nat × KOper) → Bool :=
  List.rec (fun _ _ => true) (fun b _ ih j prev => bIf (clashOk (optD 0 (lget bef j)) b prev) (ih (Nat.succ j) ((j, b) :: prev)) false) l

def edgeOk (j : Nat) (e : Edge) : Bool := bIf (Region.binds .any e) (Nat.blt e.on j) true
def edgesOk (l : List Oper) : Nat → Bool := List.rec (fun _ => true) (fun o _ ih j => bIf (lall (edgeOk j) o.after.toList) (ih (Nat.succ j)) false) l

def cRegionD (ops : List Oper) (bef : List Nat) (l : List KOper) : Option KCode :=
  bIf (band (edgesOk ops 0) (band (tmpsOk bef l 0 []) (chainOk bef (writers (lmap KOper.touches l) 0)))) (some (.regionD (withClasses bef (writers (lmap KOper.touches l) 0) l 0))) none

/-! a map's literal -/
def constV (x : Opd) : Option V := Opd.rec (fun _ => none) (fun v => some v) x
def resV (r : Res V) : Option V := Res.rec (fun v _ => some v) (fun _ => none) r
def S00 : St := ⟨.nil, .z⟩

def litPair (m : Pa) (a b : KOper) : Option (ETy × Pa × V × V) := match a, b with
  | .ev _ none (some d) (.build z ps), .ev _ none none (.mapUpdate e (.t m') (.t d') v) =>
    bIf (band (Pa.beq m' m) (band (Pa.beq d' d) (isNilL (tempsOf (KOp.build z ps).opds))))
      (obind (resV (evalOp (.build z ps) .nil S00)) fun k => obind (constV v) fun v => some (e, d, k, v)) none
  | _, _ => none

/-- the entries, and what is left -/
def litPairs (m : Pa) : List KOper → List (ETy × Pa × V × V) × List KOper
  | a :: b :: l => match litPair m a b with
    | some p => (p :: (litPairs m l).1, (litPairs m l).2)
    | none => ([], a :: b :: l)
  | l => ([], l)

/-- behind all -/
def tailOk (bef : List Nat) (l : List KOper) : Nat → Bool := List.rec (fun _ => true) (fun _ _ ih j => bIf (Nat.beq (optD 0 (lget bef j)) (Nat.sub (Nat.pow 2 j) 1)) (ih (Nat.succ j)) false) l

def isNo (x : Option Bool) : Bool := Option.rec false (fun b => bnot b) x

def litUnlike (p q : ETy × Pa × V × V) : Bool := band (bnot (Pa.beq p.2.1 q.2.1)) (band (isNo (eqV S00 p.1 p.2.2.1 q.2.2.1)) (isNo (eqV S00 q.1 q.2.2.1 p.2.2.1)))

def litOk (bef : List Nat) (m : Pa) : List (ETy × Pa × V × V) → Nat → List (ETy × Pa × V × V) → Bool
  | [], _, _ => true
  | p :: r, j, prev => band (band (hasBit (optD 0 (lget bef (Nat.succ j))) 0) (hasBit (optD 0 (lget bef (Nat.succ j))) j))
      (band (keyFits p.1 p.2.2.1) (band (bnot (Pa.beq p.2.1 m)) (band (lall (litUnlike p) prev) (litOk bef m r (Nat.add j 2) (p :: prev)))))

def cMapLit (ops : List Oper) (bef : List Nat) (l : List KOper) : Option KCode := match l with
  | .ev _ none (some m) .mkMap :: rest => bIf (band (edgesOk ops 0) (band (litOk bef m (litPairs m rest).1 1 []) (tailOk bef (litPairs m rest).2 (Nat.succ (Nat.mul 2 (llen (litPairs m rest).1))))))
    (some (.seq (.mapLit m (lmap (fun p => p.2) (litPairs m rest).1)) (.region (litPairs m rest).2))) none
  | _ => none

def orElse {α : Type} (a b : Option α) : Option α := Option.rec b (fun x => some x) a

def cRegion (x : Cx) (fid N : Nat) (ops : List Oper) (draw : Bool) : Option KCode :=
  obind (omap (cOper x fid N ops .pure) ops) fun l => bIf draw (orElse (cMapLit ops (befores ops []) l) (cRegionD ops (befores ops []) l)) (some (.region l))

def notDefer (o : KOper) : Bool := KOper.rec (fun _ _ _ _ => true) (fun _ _ _ _ => true) (fun _ _ _ _ => false) o
/-- no deferred call is made here (but in rounds of a loop within) -/
def nd (c : KCode) : Bool :=
  KCode.rec true (fun ops => lall notDefer ops) (fun ops => lall notDefer ops) (fun _ _ a b => band a b) (fun _ _ _ a b => band a b) (fun _ _ a => a) (fun _ a => a) (fun _ _ _ _ _ _ => true) (fun _ => true) true (fun _ _ => true) (fun _ _ ops _ a => band (lall notDefer ops) a) c

/-- does a loop's body begin with a map's next entry? -/
def nextFirst (c : Code) : Bool := match c with
  | .seq (.region _ ops false) _ => (match ops[0]? with
    | some o => (match o.op with
      | .next _ false => true
      | _ => false)
    | none => false)
  | _ => false

/-- a loop; one over a map is marked -/
def mkLoop (ok : Bool) (k : KCode) : KCode := match k with
  | .seq (.region (.ev .pure none (some d) (.nextMap it) :: ops)) rest => bIf ok (.loopM d it ops rest) (.loop k)
  | k => .loop k

def hasM (c : KCode) : Bool :=
  KCode.rec false (fun _ => false) (fun _ => false) (fun _ _ a b => bor a b) (fun _ _ _ _ _ => false) (fun _ _ a => a) (fun _ _ => false) (fun _ _ _ _ _ _ => false) (fun _ => false) false (fun _ _ => false) (fun _ _ ops rest _ => band (lall quietOp ops) (quietC rest)) c

def cCode (x : Cx) (fid N : Nat) (c : Code) : Option KCode :=
  Code.rec (some .skip)
    (fun _ ops draw => cRegion x fid N ops.toList draw)
    (fun _ _ a b => obind a fun a => obind b fun b => some (.seq a b))
    (fun c _ _ a b => obind (cOpd c) fun c => obind a fun a => obind b fun b => some (.cond c a b))
    (fun id _ c => obind c fun c => some (.block id c))
    (fun c ih => obind ih fun k => some (mkLoop (nextFirst c) k))
    (fun f ps _ _ a b => obind (cOpd f) fun f => obind a fun a => obind b fun b => bIf (band (lall (fun t => Nat.blt t N) ps.toList) (band (nd a) (nd b))) (some (.rangeFunc f (lmap pa ps.toList) a b)) none)
    (fun id => some (.exit id))
    (fun _ _ => none) (fun _ => none) (fun _ => none)
    (some .ret)
    (fun _ => none) c

def cRes (x : Cx) (r : ResultVar) : Option KRes := match r with
  | .tmp t => some (.tmp (pa t))
  | .cell a t => obind (x.agg t) fun g => obind (x.size t) fun n => some (.cell (pa a) g n)

def cFunc (x : Cx) (fid : Nat) (f : Func) : Option KFunc :=
  obind f.body fun b => obind (omap (cRes x) f.results.toList) fun r => obind (cCode x fid f.ntmps b) fun c => some ⟨f.ntmps, r, c, hasM c⟩

/-- the table of all functions -/
def fnTab (x : Cx) (T : Tr Func) (f : Nat) : Option KFunc := obind (Tr.get T (pa f)) fun g => cFunc x f g

end Part2
end Go.K
