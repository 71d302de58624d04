/- A deterministic machine for the code of a program: abstract values, an abstract heap, and what each operation does. What is used most is written with recursors whose branches are closed, since the kernel runs it. -/
import GoSem.Step
namespace Go.Sx
noncomputable section

/-- The names of the objects of the abstract heap: numbers, four ways a digit. -/
inductive K where
  | e
  | a (k : K)
  | b (k : K)
  | c (k : K)
  | d (k : K)
  deriving DecidableEq, Inhabited

def K.succ : K → K := @K.rec (fun _ => K) (.a .e) (fun k _ => .b k) (fun k _ => .c k) (fun k _ => .d k) (fun _ ih => .a ih)
def K.eq : K → K → Bool :=
  @K.rec (fun _ => K → Bool)
    (@K.rec (fun _ => Bool) true (fun _ _ => false) (fun _ _ => false) (fun _ _ => false) (fun _ _ => false))
    (fun _ ih j => @K.rec (fun _ => Bool) false (fun k _ => ih k) (fun _ _ => false) (fun _ _ => false) (fun _ _ => false) j)
    (fun _ ih j => @K.rec (fun _ => Bool) false (fun _ _ => false) (fun k _ => ih k) (fun _ _ => false) (fun _ _ => false) j)
    (fun _ ih j => @K.rec (fun _ => Bool) false (fun _ _ => false) (fun _ _ => false) (fun k _ => ih k) (fun _ _ => false) j)
    (fun _ ih j => @K.rec (fun _ => Bool) false (fun _ _ => false) (fun _ _ => false) (fun _ _ => false) (fun k _ => ih k) j)
def kOfN : Nat → Nat → K
  | 0, _ => .e
  | _ + 1, 0 => .e
  | f + 1, m + 1 => match m % 4 with
    | 0 => .a (kOfN f (m / 4))
    | 1 => .b (kOfN f (m / 4))
    | 2 => .c (kOfN f (m / 4))
    | _ => .d (kOfN f (m / 4))
def kOf (n : Nat) : K := kOfN n n

/-- Abstract values. undef: any value at all; any: any value of one cell; rng: a number of a kind from lo to hi whose rest by m is r; anyb: true or false. -/
inductive AV where
  | undef
  | any
  | bool (b : Bool)
  | int (k : IntKind) (n : Int)
  | float (k : FloatKind) (bits : Nat)
  | complex (k : FloatKind) (re im : Nat)
  | str (s : List Nat)
  | nilp
  | ptr (x : K) (off : Nat)
  | nilsl
  | sl (x : K) (off len cap es : Nat) (opn : Bool)
  | esl
  | nilm
  | mapv (x : K)
  | func (fn : Fn) (first captured : List AV)
  | yieldf (x : K)
  | nilf
  | iface (t : TypeId) (v : AV)
  | nili
  | agg (cs : List AV)
  | tup (vs : List AV)
  | rng (k : IntKind) (lo hi m r : Nat)
  | anyb
  deriving Inhabited

structure Sl where
  x : K
  off : Nat
  len : Nat
  cap : Nat
  es : Nat
  opn : Bool

inductive Tr (α : Type) where
  | leaf
  | node (v : Option α) (p q r s : Tr α)
  deriving Inhabited

namespace Tr
variable {α : Type}
def here : Tr α → Option α := @Tr.rec α (fun _ => Option α) none (fun v _ _ _ _ _ _ _ _ => v)
def tp : Tr α → Tr α := @Tr.rec α (fun _ => Tr α) leaf (fun _ p _ _ _ _ _ _ _ => p)
def tq : Tr α → Tr α := @Tr.rec α (fun _ => Tr α) leaf (fun _ _ q _ _ _ _ _ _ => q)
def tr : Tr α → Tr α := @Tr.rec α (fun _ => Tr α) leaf (fun _ _ _ r _ _ _ _ _ => r)
def ts : Tr α → Tr α := @Tr.rec α (fun _ => Tr α) leaf (fun _ _ _ _ s _ _ _ _ => s)
def get : K → Tr α → Option α :=
  @K.rec (fun _ => Tr α → Option α) here (fun _ ih t => ih (tp t)) (fun _ ih t => ih (tq t)) (fun _ ih t => ih (tr t)) (fun _ ih t => ih (ts t))
def setE : Tr α → Option α → Tr α := @Tr.rec α (fun _ => Option α → Tr α) (fun x => node x leaf leaf leaf leaf) (fun _ p q r s _ _ _ _ x => node x p q r s)
def setP : Tr α → (Option α → Tr α → Tr α) → Option α → Tr α :=
  @Tr.rec α (fun _ => (Option α → Tr α → Tr α) → Option α → Tr α) (fun f x => node none (f x leaf) leaf leaf leaf) (fun v p q r s _ _ _ _ f x => node v (f x p) q r s)
def setQ : Tr α → (Option α → Tr α → Tr α) → Option α → Tr α :=
  @Tr.rec α (fun _ => (Option α → Tr α → Tr α) → Option α → Tr α) (fun f x => node none leaf (f x leaf) leaf leaf) (fun v p q r s _ _ _ _ f x => node v p (f x q) r s)
def setR : Tr α → (Option α → Tr α → Tr α) → Option α → Tr α :=
  @Tr.rec α (fun _ => (Option α → Tr α → Tr α) → Option α → Tr α) (fun f x => node none leaf leaf (f x leaf) leaf) (fun v p q r s _ _ _ _ f x => node v p q (f x r) s)
def setS : Tr α → (Option α → Tr α → Tr α) → Option α → Tr α :=
  @Tr.rec α (fun _ => (Option α → Tr α → Tr α) → Option α → Tr α) (fun f x => node none leaf leaf leaf (f x leaf)) (fun v p q r s _ _ _ _ f x => node v p q r (f x s))
def set : K → Option α → Tr α → Tr α :=
  @K.rec (fun _ => Option α → Tr α → Tr α) (fun x t => setE t x) (fun _ ih x t => setP t ih x) (fun _ ih x t => setQ t ih x) (fun _ ih x t => setR t ih x) (fun _ ih x t => setS t ih x)
end Tr

/-- Of a frame: the first slot that is kept in the list, and how many slots there are, is it a round of a loop over a function. -/
structure FrP where
  thr : Nat
  n : Nat
  rnd : Bool := false
  deriving Inhabited

inductive AObj where
  | cells (l : List AV) (str : Bool)
  | map (es : List (AV × AV × Nat)) (clock : Nat)
  | tab (k : IntKind) (l : List (Nat × AV))
  | loop (st : LoopState) (pend : Option Code) (fn : FuncId) (T : FrP) (t : Tr AV) (params : List Tmp) (assign body : Code)
  deriving Inhabited

structure Hp where
  objs : Tr AObj
  next : K
  deriving Inhabited

def Hp.get (H : Hp) (x : K) : Option AObj := Tr.get x H.objs
def Hp.put (H : Hp) (x : K) (o : AObj) : Hp := ⟨Tr.set x (some o) H.objs, H.next⟩
def Hp.kill (H : Hp) (x : K) : Hp := ⟨Tr.set x none H.objs, H.next⟩
def Hp.new (H : Hp) (o : AObj) : Hp := ⟨Tr.set H.next (some o) H.objs, K.succ H.next⟩

def bytesOf (s : ByteArray) : List Nat := s.data.toList.map UInt8.toNat

def ofFlat : Value → AV
  | .bool b => .bool b
  | .int k n => .int k n
  | .float k b => .float k b
  | .complex k a b => .complex k a b
  | .string s => .str (bytesOf s)
  | .pointer none => .nilp
  | .slice none 0 0 => .nilsl
  | .map none => .nilm
  | .nilFunc => .nilf
  | .nilIface => .nili
  | _ => .undef
def ofConst : Value → AV
  | .agg cs => .agg (cs.toList.map ofFlat)
  | .tuple cs => .tup (cs.toList.map ofFlat)
  | .iface t v => .iface t (ofFlat v)
  | v => ofFlat v

inductive Loc where
  | nil
  | cons (i : Nat) (v : AV) (r : Loc)
def Loc.find : Loc → Nat → AV := @Loc.rec (fun _ => Nat → AV) (fun _ => .undef) (fun j v _ ih i => @Bool.rec (fun _ => AV) (ih i) v (Nat.beq j i))

inductive Opd where
  | l (i : Nat)
  | v (k : K)
  | c (a : AV)
def orUndef : Option AV → AV := @Option.rec AV (fun _ => AV) .undef (fun v => v)
def evo : Opd → Loc → Tr AV → AV :=
  @Opd.rec (fun _ => Loc → Tr AV → AV) (fun i L _ => Loc.find L i) (fun k _ t => orUndef (Tr.get k t)) (fun a _ _ => a)

/-- An operand, where the slots below T are in the tree and the others in the list. -/
def opd (P : Program) (T : FrP) : Operand → Opd
  | .tmp i => match Nat.ble T.thr i with | true => .l i | false => .v (kOf i)
  | .const v => .c (ofConst v)
  | .global g => match Nat.ble (g + 1) P.globals.size with | true => .c (.ptr (kOf g) 0) | false => .c .undef
  | .func f => .c (.func (.func f) [] [])

def asBool : AV → Option Bool := @AV.rec (fun _ => Option Bool) (fun _ => Unit)
  (none)
  (none)
  (fun b => some b)  -- bool
  (fun _ _ => none)
  (fun _ _ => none)
  (fun _ _ _ => none)
  (fun _ => none)
  (none)
  (fun _ _ => none)
  (none)
  (fun _ _ _ _ _ _ => none)
  (none)
  (none)
  (fun _ => none)
  (fun _ _ _ _ _ => none)
  (fun _ => none)
  (none)
  (fun _ _ _ => none)
  (none)
  (fun _ _ => none)
  (fun _ _ => none)
  (fun _ _ _ _ _ => none)
  (none)
  () (fun _ _ _ _ => ())
def asInt : AV → Option (IntKind × Int) := @AV.rec (fun _ => Option (IntKind × Int)) (fun _ => Unit)
  (none)
  (none)
  (fun _ => none)
  (fun k n => some (k, n))  -- int
  (fun _ _ => none)
  (fun _ _ _ => none)
  (fun _ => none)
  (none)
  (fun _ _ => none)
  (none)
  (fun _ _ _ _ _ _ => none)
  (none)
  (none)
  (fun _ => none)
  (fun _ _ _ _ _ => none)
  (fun _ => none)
  (none)
  (fun _ _ _ => none)
  (none)
  (fun _ _ => none)
  (fun _ _ => none)
  (fun _ _ _ _ _ => none)
  (none)
  () (fun _ _ _ _ => ())
def asStr : AV → Option (List Nat) := @AV.rec (fun _ => Option (List Nat)) (fun _ => Unit)
  (none)
  (none)
  (fun _ => none)
  (fun _ _ => none)
  (fun _ _ => none)
  (fun _ _ _ => none)
  (fun s => some s)  -- str
  (none)
  (fun _ _ => none)
  (none)
  (fun _ _ _ _ _ _ => none)
  (none)
  (none)
  (fun _ => none)
  (fun _ _ _ _ _ => none)
  (fun _ => none)
  (none)
  (fun _ _ _ => none)
  (none)
  (fun _ _ => none)
  (fun _ _ => none)
  (fun _ _ _ _ _ => none)
  (none)
  () (fun _ _ _ _ => ())
def asPtr : AV → Option (K × Nat) := @AV.rec (fun _ => Option (K × Nat)) (fun _ => Unit)
  (none)
  (none)
  (fun _ => none)
  (fun _ _ => none)
  (fun _ _ => none)
  (fun _ _ _ => none)
  (fun _ => none)
  (none)
  (fun x o => some (x, o))  -- ptr
  (none)
  (fun _ _ _ _ _ _ => none)
  (none)
  (none)
  (fun _ => none)
  (fun _ _ _ _ _ => none)
  (fun _ => none)
  (none)
  (fun _ _ _ => none)
  (none)
  (fun _ _ => none)
  (fun _ _ => none)
  (fun _ _ _ _ _ => none)
  (none)
  () (fun _ _ _ _ => ())
def asSl : AV → Option Sl := @AV.rec (fun _ => Option Sl) (fun _ => Unit)
  (none)
  (none)
  (fun _ => none)
  (fun _ _ => none)
  (fun _ _ => none)
  (fun _ _ _ => none)
  (fun _ => none)
  (none)
  (fun _ _ => none)
  (none)
  (fun x o n c s p => some ⟨x, o, n, c, s, p⟩)  -- sl
  (none)
  (none)
  (fun _ => none)
  (fun _ _ _ _ _ => none)
  (fun _ => none)
  (none)
  (fun _ _ _ => none)
  (none)
  (fun _ _ => none)
  (fun _ _ => none)
  (fun _ _ _ _ _ => none)
  (none)
  () (fun _ _ _ _ => ())
def asAgg : AV → Option (List AV) := @AV.rec (fun _ => Option (List AV)) (fun _ => Unit)
  (none)
  (none)
  (fun _ => none)
  (fun _ _ => none)
  (fun _ _ => none)
  (fun _ _ _ => none)
  (fun _ => none)
  (none)
  (fun _ _ => none)
  (none)
  (fun _ _ _ _ _ _ => none)
  (none)
  (none)
  (fun _ => none)
  (fun _ _ _ _ _ => none)
  (fun _ => none)
  (none)
  (fun _ _ _ => none)
  (none)
  (fun l _ => some l)  -- agg
  (fun _ _ => none)
  (fun _ _ _ _ _ => none)
  (none)
  () (fun _ _ _ _ => ())
def asTup : AV → Option (List AV) := @AV.rec (fun _ => Option (List AV)) (fun _ => Unit)
  (none)
  (none)
  (fun _ => none)
  (fun _ _ => none)
  (fun _ _ => none)
  (fun _ _ _ => none)
  (fun _ => none)
  (none)
  (fun _ _ => none)
  (none)
  (fun _ _ _ _ _ _ => none)
  (none)
  (none)
  (fun _ => none)
  (fun _ _ _ _ _ => none)
  (fun _ => none)
  (none)
  (fun _ _ _ => none)
  (none)
  (fun _ _ => none)
  (fun l _ => some l)  -- tup
  (fun _ _ _ _ _ => none)
  (none)
  () (fun _ _ _ _ => ())
def storable : AV → Bool := @AV.rec (fun _ => Bool) (fun _ => Unit)
  (false)
  (true)
  (fun _ => true)
  (fun _ _ => true)
  (fun _ _ => true)
  (fun _ _ _ => true)
  (fun _ => true)
  (true)
  (fun _ _ => true)
  (true)
  (fun _ _ _ _ _ _ => true)
  (true)
  (true)
  (fun _ => true)
  (fun _ _ _ _ _ => true)
  (fun _ => true)
  (true)
  (fun _ _ _ => true)
  (true)
  (fun _ _ => false)
  (fun _ _ => false)
  (fun _ _ _ _ _ => true)
  (true)
  () (fun _ _ _ _ => ())


def maxN : IntKind → Nat
  | .i8 => 127 | .u8 => 255 | .i16 => 32767 | .u16 => 65535 | .i32 => 2147483647 | .u32 => 4294967295 | .i64 => 9223372036854775807 | .u64 => 18446744073709551615
def kNat : IntKind → Nat
  | .i8 => 0 | .u8 => 1 | .i16 => 2 | .u16 => 3 | .i32 => 4 | .u32 => 5 | .i64 => 6 | .u64 => 7
def wrap (k : IntKind) (n : Int) : Int :=
  @Int.rec (fun _ => Int) (fun m => @Bool.rec (fun _ => Int) (k.wrap (.ofNat m)) (.ofNat m) (Nat.ble m (maxN k))) (fun m => k.wrap (.negSucc m)) n
def eqI : Int → Int → Bool :=
  @Int.rec (fun _ => Int → Bool) (fun m j => @Int.rec (fun _ => Bool) (fun n => Nat.beq m n) (fun _ => false) j) (fun m j => @Int.rec (fun _ => Bool) (fun _ => false) (fun n => Nat.beq m n) j)
def ltI : Int → Int → Bool :=
  @Int.rec (fun _ => Int → Bool) (fun m j => @Int.rec (fun _ => Bool) (fun n => Nat.ble (Nat.succ m) n) (fun _ => false) j) (fun m j => @Int.rec (fun _ => Bool) (fun _ => true) (fun n => Nat.ble (Nat.succ n) m) j)
def notB : Bool → Bool := @Bool.rec (fun _ => Bool) true false

def cellsOf (v : AV) : List AV := @Option.rec (List AV) (fun _ => List AV) [v] (fun l => l) (asAgg v)
def allB (p : AV → Bool) : List AV → Bool := @List.rec AV (fun _ => Bool) true (fun x _ ih => @Bool.rec (fun _ => Bool) false ih (p x))

def nth : List AV → Nat → Option AV := @List.rec AV (fun _ => Nat → Option AV) (fun _ => none) (fun x _ ih n => @Nat.rec (fun _ => Option AV) (some x) (fun m _ => ih m) n)
def consO (y : AV) (o : Option (List AV)) : Option (List AV) := @Option.rec (List AV) (fun _ => Option (List AV)) none (fun z => some (y :: z)) o
/-- so many from the head on; none: there are fewer. -/
def takeN : Nat → List AV → Option (List AV) :=
  @Nat.rec (fun _ => List AV → Option (List AV)) (fun _ => some []) (fun _ ih l => @List.rec AV (fun _ => Option (List AV)) none (fun x r _ => consO x (ih r)) l)
def dropN : Nat → List AV → Option (List AV) :=
  @Nat.rec (fun _ => List AV → Option (List AV)) (fun l => some l) (fun _ ih l => @List.rec AV (fun _ => Option (List AV)) none (fun _ r _ => ih r) l)
def part (l : List AV) (off n : Nat) : Option (List AV) := @Option.rec (List AV) (fun _ => Option (List AV)) none (takeN n) (dropN off l)
/-- others written over a row. -/
def over : List AV → List AV → Option (List AV) :=
  @List.rec AV (fun _ => List AV → Option (List AV)) (fun l => some l) (fun y _ ih l => @List.rec AV (fun _ => Option (List AV)) none (fun _ r _ => consO y (ih r)) l)
def splice (l : List AV) (off : Nat) (q : List AV) : Option (List AV) :=
  @Nat.rec (fun _ => List AV → Option (List AV)) (over q) (fun _ ih l => @List.rec AV (fun _ => Option (List AV)) none (fun x r _ => consO x (ih r)) l) off l
def len (l : List AV) : Nat := @List.rec AV (fun _ => Nat) 0 (fun _ _ ih => Nat.succ ih) l

def cellsIn : Option AObj → Option (List AV × Bool) :=
  @Option.rec AObj (fun _ => Option (List AV × Bool)) none (@AObj.rec (fun _ => Option (List AV × Bool)) (fun l s => some (l, s)) (fun _ _ => none) (fun _ _ => none) (fun _ _ _ _ _ _ _ _ => none))

section
variable (P : Program)

def isAgg (t : TypeId) : Option Bool :=
  match P.underlying t with
  | some (.struct _) | some (.array _ _) => some true
  | some _ => some false
  | none => none
def sizeOf (t : TypeId) : Option Nat := match P.info? t with | some i => some i.size | none => none
def zeroOf (t : TypeId) : Option AV :=
  match P.info? t with
  | some i => (match i.zero with | some v => some (ofConst v) | none => none)
  | none => none

/-- a cell, or so many as one value. -/
def load1 (H : Hp) (a : AV) : Option AV :=
  match asPtr a with
  | some (x, off) => (match cellsIn (H.get x) with
    | some (l, _) => nth l off
    | none => none)
  | none => none
def loadN (n : Nat) (H : Hp) (a : AV) : Option AV :=
  match asPtr a with
  | some (x, off) => (match cellsIn (H.get x) with
    | some (l, _) => (match part l off n with | some q => some (.agg q) | none => none)
    | none => none)
  | none => none
def xload (H : Hp) (t : TypeId) (a : AV) : Option AV :=
  match isAgg P t with
  | some true => (match sizeOf P t with | some n => loadN n H a | none => none)
  | some false => load1 H a
  | none => none

def storeN (n : Nat) (H : Hp) (a v : AV) : Option Hp :=
  match asPtr a with
  | some (x, off) => (match cellsIn (H.get x) with
    | some (l, s) => (match allB storable (cellsOf v) with
      | true => (match Nat.beq (len (cellsOf v)) n with
        | true => (match splice l off (cellsOf v) with
          | some q => some (H.put x (.cells q s))
          | none => none)
        | false => none)
      | false => none)
    | none => none)
  | none => none
def xstore (H : Hp) (t : TypeId) (a v : AV) : Option Hp := match sizeOf P t with | some n => storeN n H a v | none => none

def fieldOf (s : TypeId) (f : Nat) : Option Field :=
  match P.underlying s with
  | some (.struct fs) => fs.toList[f]?
  | _ => none

def addOff (n : Nat) (a : AV) : Option AV :=
  match asPtr a with
  | some (x, off) => some (.ptr x (off + n))
  | none => none
def xfieldAddr (s : TypeId) (a : AV) (f : Nat) : Option AV :=
  match fieldOf P s f with
  | some fd => (match sizeOf P fd.type with
    | some (_ + 1) => addOff fd.offset a
    | _ => none)
  | none => none

def xpart (t : TypeId) (cs : List AV) (off : Nat) : Option AV :=
  match isAgg P t with
  | some true => (match sizeOf P t with
    | some n => (match part cs off n with | some q => some (.agg q) | none => none)
    | none => none)
  | some false => nth cs off
  | none => none

def xfield (s : TypeId) (v : AV) (f : Nat) : Option AV :=
  match fieldOf P s f, asAgg v with
  | some fd, some cs => xpart P fd.type cs fd.offset
  | _, _ => none

def natOf (v : AV) : Option Nat :=
  match asInt v with
  | some (_, .ofNat n) => some n
  | _ => none

/-- the place of an element of an array, or of a slice. -/
def idxA (len es : Nat) (x ix : AV) : Option AV :=
  match natOf ix with
  | some i => (match asPtr x with
    | some (b, off) => (match Nat.ble (Nat.succ i) len with | true => some (.ptr b (off + i * es)) | false => none)
    | none => none)
  | none => none
def idxS (es : Nat) (x ix : AV) : Option AV :=
  match natOf ix with
  | some i => (match asSl x with
    | some s => (match Nat.ble (Nat.succ i) s.len with | true => some (.ptr s.x (s.off + i * es)) | false => none)
    | none => none)
  | none => none
def xindexAddr (t : TypeId) (x ix : AV) : Option AV :=
  match P.underlying t with
  | some (.array n e) => (match sizeOf P e with | some es => idxA n es x ix | none => none)
  | some (.slice e) => (match sizeOf P e with | some es => idxS es x ix | none => none)
  | _ => none

def xindex (t : TypeId) (x ix : AV) : Option AV :=
  match natOf ix with
  | some i => (match P.underlying t, x with
    | some (.array n e), .agg cs => (match Nat.ble (i + 1) n, sizeOf P e with
      | true, some es => xpart P e cs (i * es)
      | _, _ => none)
    | some .string, .str s => (match s[i]? with | some b => some (.int .u8 (.ofNat b)) | none => none)
    | _, _ => none)
  | none => none

/-- parts laid over cells. -/
def fill : List (Nat × Nat × AV) → List AV → Option (List AV)
  | [], cells => some cells
  | (off, size, v) :: rest, cells =>
    match Nat.beq (len (cellsOf v)) size, allB storable (cellsOf v), splice cells off (cellsOf v) with
      | true, true, some q => fill rest q
      | _, _, _ => none

/-- the parts of a value that is built, with their places. -/
def places {α : Type} (place : Nat → Option (Nat × Nat)) : List (Nat × α) → Option (List (Nat × Nat × α))
  | [] => some []
  | (i, v) :: r => match place i, places place r with
    | some (off, size), some q => some ((off, size, v) :: q)
    | _, _ => none

def fieldPlaces : List Field → Option (List (Nat × Nat))
  | [] => some []
  | f :: r => match sizeOf P f.type, fieldPlaces r with
    | some n, some q => some ((f.offset, n) :: q)
    | _, _ => none

def placeIn (t : TypeId) : Option (Nat → Option (Nat × Nat)) :=
  match P.underlying t with
  | some (.struct fs) => (match fieldPlaces P fs.toList with | some l => some (fun i => l[i]?) | none => none)
  | some (.array _ e) => (match sizeOf P e with | some n => some (fun i => some (i * n, n)) | none => none)
  | _ => none

def xbuild (t : TypeId) (parts : List (Nat × AV)) : Option AV :=
  match zeroOf P t, placeIn P t with
  | some z, some pl => (match places pl parts with
    | some ps => (match fill ps (cellsOf z) with | some q => some (.agg q) | none => none)
    | none => none)
  | _, _ => none

def rep : Nat → List AV → List AV
  | 0, _ => []
  | n + 1, z => z ++ rep n z

/-- so many zero values of a type, in a row. -/
def zeros (e : TypeId) (n : Nat) : Option (List AV) :=
  match zeroOf P e, sizeOf P e with
  | some z, some s => (match Nat.beq (len (cellsOf z)) s, allB storable (cellsOf z) with | true, true => some (rep n (cellsOf z)) | _, _ => none)
  | _, _ => none

def xbuildSlice (x : K) (t : TypeId) (n : Nat) (parts : List (Nat × AV)) : Option (AV × AObj) :=
  match P.underlying t with
  | some (.slice e) => (match sizeOf P e, zeros P e n with
    | some es, some z => (match Nat.ble (n * es) (2 ^ 24), places (fun i => some (i * es, es)) parts with
      | true, some ps => (match fill ps z with
        | some q => some (.sl x 0 n n es false, .cells q false)
        | none => none)
      | _, _ => none)
    | _, _ => none)
  | _ => none

def optNat (d : Nat) : Option AV → Option Nat
  | none => some d
  | some v => natOf v

def xsliceIn (t : TypeId) (x : AV) (lo hi mx : Option AV) : Option AV :=
  match P.underlying t, x with
  | some .string, .str s =>
    (match optNat 0 lo, optNat s.length hi, mx with
    | some l, some h, none => (match Nat.ble h s.length, Nat.ble l h with
      | true, true => some (.str ((s.take h).drop l))
      | _, _ => none)
    | _, _, _ => none)
  | some (.slice e), .nilsl =>
    (match optNat 0 lo, optNat 0 hi, optNat 0 mx, sizeOf P e with
    | some 0, some 0, some 0, some _ => some .nilsl
    | _, _, _, _ => none)
  | some (.slice e), .sl b off len cap es opn =>
    (match optNat 0 lo, optNat len hi, optNat cap mx, sizeOf P e with
    | some l, some h, some m, some n =>
      (match Nat.ble m cap, Nat.ble h m, Nat.ble l h, Nat.beq n es with
      | true, true, true, true =>
        (match opn, mx with
        | true, none => (match Nat.beq l cap with
          | true => some .esl
          | false => some (.sl b (off + l * n) (h - l) (cap - l) es true))
        | _, _ => (match Nat.beq m l with
          | true => some (.sl b off (h - l) 0 es false)
          | false => some (.sl b (off + l * n) (h - l) (m - l) es false)))
      | _, _, _, _ => none)
    | _, _, _, _ => none)
  | some (.array n e), .ptr b off =>
    (match optNat 0 lo, optNat n hi, optNat n mx, sizeOf P e with
    | some l, some h, some m, some s => (match Nat.ble m n, Nat.ble h m, Nat.ble l h with
      | true, true, true => (match Nat.beq m l with
        | true => some (.sl b off (h - l) (m - l) s false)
        | false => some (.sl b (off + l * s) (h - l) (m - l) s false))
      | _, _, _ => none)
    | _, _, _, _ => none)
  | _, _ => none

def xslice (t : TypeId) (x : AV) (lo hi mx : Option AV) : Option AV :=
  match hi, mx with
  | none, some _ => none
  | _, _ => xsliceIn P t x lo hi mx

def sameB (a b : Bool) : Bool := @Bool.rec (fun _ => Bool) (notB b) b a
def eqL : List Nat → List Nat → Bool :=
  @List.rec Nat (fun _ => List Nat → Bool) (@List.rec Nat (fun _ => Bool) true (fun _ _ _ => false))
    (fun x _ ih l => @List.rec Nat (fun _ => Bool) false (fun y q _ => @Bool.rec (fun _ => Bool) false (ih q) (Nat.beq x y)) l)
def ltL : List Nat → List Nat → Bool
  | _, [] => false
  | [], _ :: _ => true
  | x :: r, y :: q => match Nat.ble (x + 1) y with
    | true => true
    | false => match Nat.beq x y with | true => ltL r q | false => false

/-- two pointers: the same? -/
def eqPtr (H : Hp) (a b : AV) : Option Bool :=
  match a, b with
  | .nilp, .nilp => some true
  | .nilp, .ptr _ _ => some false
  | .ptr _ _, .nilp => some false
  | .ptr x o, .ptr y p => (match K.eq x y with
    | true => some (Nat.beq o p)
    | false => (match H.get x, H.get y with
      | some (.cells _ false), some (.cells _ false) => some false
      | _, _ => none))
  | _, _ => none

/-- equal? of values of a type; fuel: how deep. -/
def xeq (H : Hp) : Nat → TypeId → AV → AV → Option Bool
  | 0, _, _, _ => none
  | d + 1, t, x, y =>
    match P.underlying t with
    | some .bool => (match asBool x, asBool y with
      | some a, some b => some (match a with | true => b | false => !b)
      | _, _ => none)
    | some (.int _) => (match asInt x, asInt y with
      | some (k, a), some (k', b) => (match Nat.beq (kNat k) (kNat k') with | true => some (eqI a b) | false => none)
      | _, _ => none)
    | some .string => (match asStr x, asStr y with
      | some a, some b => some (eqL a b)
      | _, _ => none)
    | some (.pointer e) => (match sizeOf P e with
      | some (_ + 1) => eqPtr H x y
      | _ => none)
    | some (.interface _) => (match x, y with
      | .nili, .nili => some true
      | .nili, .iface _ _ => some false
      | .iface _ _, .nili => some false
      | _, _ => none)
    | some (.struct fs) => (match asAgg x, asAgg y, P.stoodInHeld t with
      | some xs, some ys, false => fs.toList.foldr (fun f r =>
          (match decEq f.name "_" with
          | .isTrue _ => none
          | .isFalse _ => (match xpart P f.type xs f.offset, xpart P f.type ys f.offset with
            | some a, some b => (match xeq H d f.type a b with
              | some true => r
              | z => z)
            | _, _ => none))) (some true)
      | _, _, _ => none)
    | some (.array n e) => (match asAgg x, asAgg y, sizeOf P e with
      | some xs, some ys, some s => (List.range n).foldr (fun i r =>
          (match xpart P e xs (i * s), xpart P e ys (i * s) with
            | some a, some b => (match xeq H d e a b with
              | some true => r
              | z => z)
            | _, _ => none)) (some true)
      | _, _, _ => none)
    | some (.slice _) => (match x, y with
      | .nilsl, .nilsl => some true
      | .nilsl, .sl .. => some false
      | .nilsl, .esl => some false
      | .sl .., .nilsl => some false
      | .esl, .nilsl => some false
      | _, _ => none)
    | some (.map _ _) => (match x, y with
      | .nilm, .nilm => some true
      | .nilm, .mapv _ => some false
      | .mapv _, .nilm => some false
      | _, _ => none)
    | some (.func _ _ _) => (match x, y with
      | .nilf, .nilf => some true
      | .nilf, .func _ _ _ => some false
      | .func _ _ _, .nilf => some false
      | _, _ => none)
    | _ => none

def isConst : Operand → Bool
  | .const _ => true
  | _ => false

/-- 0: of what sort it is is not known; 1: no interface value; 2: cells; 3: anything else. -/
def sortOf : AV → Nat
  | .undef => 0
  | .any => 0
  | .complex .. => 0
  | .rng .. => 0
  | .nili => 1
  | .agg _ => 2
  | _ => 3
/-- does nothing bar that two such values are compared? -/
def guardEq (x y : Operand) (t : TypeId) (a b : AV) : Bool :=
  match sortOf a, sortOf b with
  | 0, _ => false
  | _, 0 => false
  | 1, 1 => isConst x || isConst y
  | 2, 2 => !(P.eqGuardType P.depth t)
  | _, _ => true

def intFn : BinOp → IntKind → Int → Int → Option AV
  | .add => fun k a b => some (.int k (wrap k (a + b)))
  | .sub => fun k a b => some (.int k (wrap k (a - b)))
  | .mul => fun k a b => some (.int k (wrap k (a * b)))
  | .quo => fun k a b => (match eqI b 0 with | true => none | false => some (.int k (wrap k (a.tdiv b))))
  | .rem => fun k a b => (match eqI b 0 with | true => none | false => some (.int k (a.tmod b)))
  | .and => fun k a b => some (.int k (k.wrap (BitVec.ofInt k.bits a &&& BitVec.ofInt k.bits b).toNat))
  | .or => fun k a b => some (.int k (k.wrap (BitVec.ofInt k.bits a ||| BitVec.ofInt k.bits b).toNat))
  | .xor => fun k a b => some (.int k (k.wrap (BitVec.ofInt k.bits a ^^^ BitVec.ofInt k.bits b).toNat))
  | .andNot => fun k a b => some (.int k (k.wrap (BitVec.ofInt k.bits a &&& ~~~ BitVec.ofInt k.bits b).toNat))
  | .eql => fun _ a b => some (.bool (eqI a b))
  | .neq => fun _ a b => some (.bool (notB (eqI a b)))
  | .lss => fun _ a b => some (.bool (ltI a b))
  | .leq => fun _ a b => some (.bool (notB (ltI b a)))
  | .gtr => fun _ a b => some (.bool (ltI b a))
  | .geq => fun _ a b => some (.bool (notB (ltI a b)))
  | _ => fun _ _ _ => none

def shiftOp (op : BinOp) (k : IntKind) (a b : Int) : Option AV :=
  match b with
  | .negSucc _ => none
  | .ofNat n =>
    let m := Nat.min n k.bits
    match op with
    | .shl => some (.int k (wrap k (a * ((2 ^ m : Nat) : Int))))
    | .shr => some (.int k (a.fdiv ((2 : Int) ^ m)))
    | _ => none

def strOp (op : BinOp) (a b : List Nat) : Option AV :=
  match op with
  | .add => (match Nat.ble (a.length + b.length) 9223372036854775807 with | true => some (.str (a ++ b)) | false => none)
  | .eql => some (.bool (eqL a b))
  | .neq => some (.bool (notB (eqL a b)))
  | .lss => some (.bool (ltL a b))
  | .leq => some (.bool (ltL a b || eqL a b))
  | .gtr => some (.bool !(ltL a b || eqL a b))
  | .geq => some (.bool (!ltL a b))
  | _ => none

def floatOp (op : BinOp) (k : FloatKind) (a b : Nat) : Option AV :=
  let c := k.format.order a b
  match op with
  | .leq => some (.bool (c == some .lt || c == some .eq))
  | .lss => some (.bool (c == some .lt))
  | .gtr => some (.bool (c == some .gt))
  | .geq => some (.bool (c == some .gt || c == some .eq))
  | _ => none

def isShift : BinOp → Bool
  | .shl | .shr => true
  | _ => false

/-- numbers from lo to hi whose rest by m is r. -/
structure Rg where
  lo : Nat
  hi : Nat
  m : Nat
  r : Nat
def asRng : AV → Option (IntKind × Rg)
  | .int k (.ofNat n) => some (k, ⟨n, n, 1, 0⟩)
  | .rng k lo hi m r => some (k, ⟨lo, hi, m, r⟩)
  | _ => none
def mkR (k : IntKind) (lo hi : Nat) : AV := match Nat.beq lo hi with | true => .int k (.ofNat lo) | false => .rng k lo hi 1 0
/-- less? -/
def rngLt (a b : Rg) : AV := match Nat.ble (a.hi + 1) b.lo with
  | true => .bool true
  | false => match Nat.ble b.hi a.lo with | true => .bool false | false => .anyb
def rngLe (a b : Rg) : AV := match Nat.ble a.hi b.lo with
  | true => .bool true
  | false => match Nat.ble (b.hi + 1) a.lo with | true => .bool false | false => .anyb
def rngEq (neg : Bool) (a b : Rg) : AV := match Nat.ble (a.hi + 1) b.lo || Nat.ble (b.hi + 1) a.lo with
  | true => .bool neg
  | false => .anyb
def rngOp (op : BinOp) (k : IntKind) (a b : Rg) : Option AV :=
  match op with
  | .add => (match Nat.ble (a.hi + b.hi) (maxN k) with | true => some (mkR k (a.lo + b.lo) (a.hi + b.hi)) | false => none)
  | .sub => (match Nat.ble b.hi a.lo && Nat.ble a.hi (maxN k) with | true => some (mkR k (a.lo - b.hi) (a.hi - b.lo)) | false => none)
  | .quo => (match Nat.beq b.lo b.hi && Nat.ble 1 b.lo && Nat.ble a.hi (maxN k) with | true => some (mkR k (a.lo / b.lo) (a.hi / b.lo)) | false => none)
  | .rem => (match Nat.beq b.lo b.hi && Nat.ble 1 b.lo with
    | true => (match Nat.beq a.m b.lo with | true => some (.int k (.ofNat a.r)) | false => some (mkR k 0 (b.lo - 1)))
    | false => none)
  | .eql => some (rngEq false a b)
  | .neq => some (rngEq true a b)
  | .lss => some (rngLt a b)
  | .leq => some (rngLe a b)
  | .gtr => some (rngLt b a)
  | .geq => some (rngLe b a)
  | _ => none
def rngBin (op : BinOp) (a b : AV) : Option AV :=
  match asRng a, asRng b with
  | some (k, p), some (k', q) => (match Nat.beq (kNat k) (kNat k') with | true => rngOp op k p q | false => none)
  | _, _ => none
/-- an operation on two whole numbers of one kind. -/
def iBin (g : IntKind → Int → Int → Option AV) (a b : AV) : Option AV :=
  match asInt a with
  | some (k, m) => (match asInt b with
    | some (k', n) => (match Nat.beq (kNat k) (kNat k') with | true => g k m n | false => none)
    | none => none)
  | none => none

def eqAny (H : Hp) (neg : Bool) (t : TypeId) (x y : Operand) (a b : AV) : Option AV :=
  match guardEq P x y t a b with
  | true => (match xeq P H 10000 t a b with | some r => some (.bool (match neg with | true => !r | false => r)) | none => none)
  | false => none

def xbin (H : Hp) (op : BinOp) (t : TypeId) (x y : Operand) (a b : AV) : Option AV :=
  match a, b with
  | .int k m, .int k' n => (match isShift op with
    | true => shiftOp op k m n
    | false => iBin (intFn op) (.int k m) (.int k' n))
  | .str m, .str n => strOp op m n
  | .float k m, .float k' n => (match decEq k k' with | .isTrue _ => floatOp op k m n | .isFalse _ => none)
  | a, b => match rngBin op a b with
    | some c => some c
    | none => match op with
      | .eql => eqAny P H false t x y a b
      | .neq => eqAny P H true t x y a b
      | _ => none

def iBinR (op : BinOp) (g : IntKind → Int → Int → Option AV) (a b : AV) : Option AV :=
  match asInt a with
  | some (k, m) => (match asInt b with
    | some (k', n) => (match Nat.beq (kNat k) (kNat k') with | true => g k m n | false => none)
    | none => rngBin op a b)
  | none => rngBin op a b

def xun (op : UnOp) (a : AV) : Option AV :=
  match op, a with
  | .not, .bool b => some (.bool (notB b))
  | .neg, .int k n => some (.int k (wrap k (0 - n)))
  | .xor, .int k n => (match k.signed with
    | true => some (.int k (k.wrap (BitVec.ofInt k.bits (-1) ^^^ BitVec.ofInt k.bits n).toNat))
    | false => some (.int k (k.wrap (BitVec.ofInt k.bits k.max ^^^ BitVec.ofInt k.bits n).toNat)))
  | _, _ => none

def bytesIn : List AV → Option (List Nat)
  | [] => some []
  | v :: r => match natOf8 v, bytesIn r with
    | some b, some q => some (b :: q)
    | _, _ => none
  where natOf8 (v : AV) : Option Nat :=
  match v with
  | .int .u8 (.ofNat b) => (match Nat.ble b 255 with | true => some b | false => none)
  | _ => none

def u8s : List Nat → List AV
  | [] => []
  | b :: r => .int .u8 (.ofNat b) :: u8s r

/-- the cells of so many elements of a slice. -/
def readSl (H : Hp) (v : AV) : Option (List AV) :=
  match v with
  | .nilsl => some []
  | .esl => some []
  | .sl x off n _ es _ => (match cellsIn (H.get x) with
    | some (l, _) => part l off (n * es)
    | none => none)
  | _ => none

inductive XR where
  | val (v : AV)
  | heap (v : AV) (H : Hp)
  | fresh (v : AV) (o : AObj)
  | call (f : FuncId) (args : List AV)
  | yield (x : K) (args : List AV)

def okV : Option AV → Option XR := @Option.rec AV (fun _ => Option XR) none (fun v => some (.val v))
def okH : Option Hp → Option XR := @Option.rec Hp (fun _ => Option XR) none (fun H => some (.heap .undef H))

def convR (k : IntKind) (a : AV) : Option AV :=
  match a with
  | .rng _ lo hi m r => (match Nat.ble hi (maxN k) with | true => some (.rng k lo hi m r) | false => none)
  | _ => none
def convI (k : IntKind) (a : AV) : Option AV :=
  match asInt a with
  | some (_, n) => some (.int k (wrap k n))
  | none => convR k a

def sliceLen : AV → Nat
  | .sl _ _ n _ _ _ => n
  | _ => 0

def xconvert (H : Hp) (src dst : TypeId) (a : AV) : Option XR :=
  match P.underlying src, P.underlying dst, a with
  | some _, some (.int k), .int _ n => some (.val (.int k (wrap k n)))
  | some _, some (.int k), .rng s lo hi m r => (match convR k (.rng s lo hi m r) with | some v => some (.val v) | none => none)
  | some _, some (.float k), .int _ n => some (.val (.float k (k.nearest n)))
  | some _, some (.complex k), .complex s p q => (match decEq k s with | .isTrue _ => some (.val (.complex k p q)) | .isFalse _ => none)
  | some _, some .string, .str s => some (.val (.str s))
  | some _, some (.slice e), .str s => (match P.underlying e with
    | some (.int .u8) => some (.fresh (.sl H.next 0 s.length s.length 1 true) (.cells (u8s s) true))
    | _ => none)
  | some (.slice _), some (.slice e), .sl y off n cap es opn => (match Nat.beq src dst, P.underlying e, H.get y with
    | true, some (.int .u8), some (.cells l _) => some (.heap (.sl y off n cap es opn) (H.put y (.cells l true)))
    | _, _, _ => none)
  | some (.slice e), some .string, v => (match P.underlying e with
    | some (.int .u8) => (match readSl H v with
      | some l => (match bytesIn l, Nat.beq (len l) (sliceLen v) with | some s, true => some (.val (.str s)) | _, _ => none)
      | none => none)
    | _ => none)
  | _, _, _ => none

/-- the length of a slice. -/
def lenS (a : AV) : Option AV :=
  match a with
  | .nilsl => some (.int .i64 (.ofNat 0))
  | .esl => some (.int .i64 (.ofNat 0))
  | .sl _ _ n _ _ _ => some (.int .i64 (.ofNat n))
  | _ => none

def xlen (H : Hp) (t : TypeId) (a : AV) : Option AV :=
  match P.underlying t with
  | some (.array n _) => some (.int .i64 (.ofNat n))
  | some (.pointer e) => (match P.underlying e with | some (.array n _) => some (.int .i64 (.ofNat n)) | _ => none)
  | some .string => (match a with | .str s => some (.int .i64 (.ofNat s.length)) | _ => none)
  | some (.slice _) => lenS a
  | some (.map _ _) => (match a with
    | .nilm => some (.int .i64 (.ofNat 0))
    | .mapv x => (match H.get x with | some (.map es _) => some (.int .i64 (.ofNat es.length)) | _ => none)
    | _ => none)
  | _ => none

def xcap (t : TypeId) (a : AV) : Option AV :=
  match P.underlying t with
  | some (.slice _) => (match a with
    | .nilsl => some (.int .i64 (.ofNat 0))
    | .sl _ _ _ c _ false => some (.int .i64 (.ofNat c))
    | _ => none)
  | _ => none

def srcCells (H : Hp) : AV → Option (Nat × List AV)
  | .str s => some (s.length, u8s s)
  | .nilsl => some (0, [])
  | .esl => some (0, [])
  | .sl x off n cap es opn => (match readSl H (.sl x off n cap es opn) with | some l => some (n, l) | none => none)
  | _ => none

def roomy (e : TypeId) (need : Nat) : Bool :=
  match P.info? e with
  | some i => Nat.ble ((2 * need + 768) * i.bytes) (2 ^ 48) && Nat.ble 1 i.bytes
  | none => false

/-- what is appended: how many elements, their cells. -/
def appended (H : Hp) (e : TypeId) (ut : TypeDesc) (a : AV) : Option (Nat × List AV) :=
  match ut, a with
  | .int _, .int .i64 (.ofNat n) => (match zeros P e n, P.info? e, Nat.ble n 9223372036854775807 with
    | some z, some i, true => (match Nat.ble (n * i.bytes) (2 ^ 48) with | true => some (n, z) | false => none)
    | _, _, _ => none)
  | .int _, _ => none
  | _, a => srcCells H a

/-- an append, behind what is appended: so many elements, their cells. -/
def appendTo (H : Hp) (e : TypeId) (es : Nat) (s : AV) (n : Nat) (new : List AV) : Option XR :=
  match s with
  | .nilsl => (match n with
    | 0 => some (.val .nilsl)
    | n + 1 => (match roomy P e (n + 1) with
      | true => some (.fresh (.sl H.next 0 (n + 1) (n + 1) es true) (.cells new false))
      | false => none))
  | .esl => (match n with | 0 => some (.val .esl) | _ + 1 => none)
  | .sl y off m cap es' opn => (match Nat.beq es es', H.get y with
    | true, some (.cells l st) =>
      (match Nat.ble (m + n) cap with
      | true => (match splice l (off + m * es) new with
        | some q => some (.heap (.sl y off (m + n) cap es opn) (H.put y (.cells q st)))
        | none => none)
      | false => (match roomy P e (m + n), part l off (m * es) with
        | true, some old => (match opn with
          | false => some (.fresh (.sl H.next 0 (m + n) (m + n) es true) (.cells (old ++ new) false))
          | true => some (.heap (.sl H.next 0 (m + n) (m + n) es true) ((H.kill y).new (.cells (old ++ new) st))))
        | _, _ => none))
    | _, _ => none)
  | _ => none

def xappend (H : Hp) (sType xType : TypeId) (s a : AV) : Option XR :=
  match P.underlying sType with
  | some (.slice e) => (match sizeOf P e, zeros P e 0, P.underlying xType with
    | some es, some _, some ut => (match appended P H e ut a with
      | some (n, new) => (match Nat.beq (len new) (n * es), allB storable new with
        | true, true => appendTo P H e es s n new
        | _, _ => none)
      | none => none)
    | _, _, _ => none)
  | _ => none

def copyTo (H : Hp) (es : Nat) (d : AV) (n : Nat) (new : List AV) : Option XR :=
  match d with
  | .nilsl => some (.val (.int .i64 (.ofNat 0)))
  | .esl => some (.val (.int .i64 (.ofNat 0)))
  | .sl y off m _ es' _ => (match Nat.beq es es', H.get y, takeN (Nat.min n m * es) new with
    | true, some (.cells l st), some q => (match splice l off q with
      | some l' => some (.heap (.int .i64 (.ofNat (Nat.min n m))) (H.put y (.cells l' st)))
      | none => none)
    | _, _, _ => none)
  | _ => none

def xcopy (H : Hp) (t : TypeId) (d s : AV) : Option XR :=
  match P.underlying t with
  | some (.slice e) => (match sizeOf P e, srcCells H s with
    | some es, some (n, new) => (match Nat.beq (len new) (n * es), allB storable new with
      | true, true => copyTo H es d n new
      | _, _ => none)
    | _, _ => none)
  | _ => none

def xclear (H : Hp) (t : TypeId) (d : AV) : Option XR :=
  match P.underlying t, d with
  | some (.slice _), .nilsl => some (.val (.tup []))
  | some (.slice _), .esl => some (.val (.tup []))
  | some (.slice e), .sl y off n _ es _ => (match zeros P e n, sizeOf P e, H.get y with
    | some z, some es', some (.cells l st) => (match Nat.beq es es', splice l off z with
      | true, some q => some (.heap (.tup []) (H.put y (.cells q st)))
      | _, _ => none)
    | _, _, _ => none)
  | _, _ => none

def rngMin (lt : Bool) (a b : AV) : Option AV :=
  match asRng a, asRng b with
  | some (k, p), some (k', q) => (match Nat.beq (kNat k) (kNat k') with
    | true => (match lt with
      | true => some (mkR k (Nat.min p.lo q.lo) (Nat.min p.hi q.hi))
      | false => some (mkR k (Nat.max p.lo q.lo) (Nat.max p.hi q.hi)))
    | false => none)
  | _, _ => none
def xmin2 (lt : Bool) (a b : AV) : Option AV :=
  match a, b with
  | .int k x, .int _ y => (match (match lt with | true => ltI y x | false => ltI x y) with | true => some (.int k y) | false => some (.int k x))
  | a, b => rngMin lt a b
def xfold (lt : Bool) : AV → List AV → Option AV
  | a, [] => some a
  | a, b :: r => match xmin2 lt a b with | some c => xfold lt c r | none => none

def findM (H : Hp) (t : TypeId) (k : AV) : List (AV × AV × Nat) → Nat → Option (Option (Nat × AV))
  | [], _ => some none
  | (x, v, _) :: r, i => match xeq P H 10000 t k x with
    | some true => some (some (i, v))
    | some false => findM H t k r (i + 1)
    | none => none

def plainT (t : TypeId) : Bool :=
  match P.underlying t with
  | some (.int _) => true
  | some .string => true
  | some .bool => true
  | _ => false
def fieldFits (l : List AV) (f : Field) : Bool :=
  match decEq f.name "_", xpart P f.type l f.offset with
  | .isFalse _, some _ => plainT P f.type
  | _, _ => false
/-- may a key be asked for? -/
def keyFits (t : TypeId) (k : AV) : Bool :=
  match P.underlying t with
  | some (.int _) => true
  | some .string => true
  | some .bool => true
  | some (.struct fs) => (match asAgg k with
    | some l => fs.toList.all (fieldFits P l)
    | none => false)
  | _ => false

def entriesOf (H : Hp) (m : AV) : Option (List (AV × AV × Nat)) :=
  match m with
  | .nilm => some []
  | .mapv x => (match H.get x with | some (.map es _) => some es | _ => none)
  | _ => none

/-- a table: a map that stays as it is, its keys whole numbers of one kind. -/
def tabIn (H : Hp) (m : AV) : Option (IntKind × List (Nat × AV)) :=
  match m with
  | .mapv x => (match H.get x with | some (.tab k l) => some (k, l) | _ => none)
  | _ => none
def tabAt (n : Nat) : List (Nat × AV) → Option AV
  | [] => none
  | (k, v) :: r => match Nat.beq k n with | true => some v | false => tabAt n r
def tabKey (t : TypeId) (k : AV) (kd : IntKind) : Option Nat :=
  match P.underlying t, k with
  | some (.int _), .int k (.ofNat n) => (match Nat.beq (kNat k) (kNat kd) with | true => some n | false => none)
  | _, _ => none
def lookAns (et : TypeId) (commaOk : Bool) (o : Option AV) : Option AV :=
  match o with
  | some v => some (match commaOk with | true => .tup [v, .bool true] | false => v)
  | none => (match zeroOf P et with
    | some z => some (match commaOk with | true => .tup [z, .bool false] | false => z)
    | none => none)
def xlookup (H : Hp) (t : TypeId) (m k : AV) (commaOk : Bool) : Option AV :=
  match P.underlying t with
  | some (.map kt et) => (match tabIn H m with
    | some (kd, l) => (match tabKey P kt k kd with
      | some n => lookAns P et commaOk (tabAt n l)
      | none => none)
    | none => (match keyFits P kt k, entriesOf H m with
      | true, some es => (match findM P H kt k es 0 with
        | some (some (_, v)) => lookAns P et commaOk (some v)
        | some none => lookAns P et commaOk none
        | none => none)
      | _, _ => none))
  | _ => none

def setVal (k v : AV) : List (AV × AV × Nat) → Nat → List (AV × AV × Nat)
  | [], _ => []
  | (x, u, b) :: r, i => match i with | 0 => (k, v, b) :: r | j + 1 => (x, u, b) :: setVal k v r j

def sameKey1 (a b : AV) : Bool :=
  match a, b with
  | .bool x, .bool y => sameB x y
  | .int k m, .int k' n => Nat.beq (kNat k) (kNat k') && eqI m n
  | .str x, .str y => eqL x y
  | _, _ => false
def sameKeys : List AV → List AV → Bool
  | [], [] => true
  | x :: r, y :: q => sameKey1 x y && sameKeys r q
  | _, _ => false
def sameKey (a b : AV) : Bool :=
  match a, b with
  | .agg l, .agg m => sameKeys l m
  | a, b => sameKey1 a b
def keyAt : List (AV × AV × Nat) → Nat → AV
  | [], _ => .undef
  | (k, _, _) :: r, i => match i with | 0 => k | j + 1 => keyAt r j

def xmapUpdate (H : Hp) (t : TypeId) (m k v : AV) : Option Hp :=
  match P.underlying t, m with
  | some (.map kt _), .mapv x => (match keyFits P kt k, H.get x with
    | true, some (.map es c) => (match findM P H kt k es 0 with
      | some (some (i, _)) => (match sameKey (keyAt es i) k with
        | true => some (H.put x (.map (setVal k v es i) c))
        | false => none)
      | some none => some (H.put x (.map (es ++ [(k, v, c)]) (c + 1)))
      | none => none)
    | _, _ => none)
  | _, _ => none

def dropAt : List (AV × AV × Nat) → Nat → List (AV × AV × Nat)
  | [], _ => []
  | e :: r, i => match i with | 0 => r | j + 1 => e :: dropAt r j

def xdelete (H : Hp) (t : TypeId) (m k : AV) : Option XR :=
  match P.underlying t, m with
  | some (.map kt _), .mapv x => (match keyFits P kt k, H.get x with
    | true, some (.map es c) => (match findM P H kt k es 0 with
      | some (some (i, _)) => some (.heap (.tup []) (H.put x (.map (dropAt es i) c)))
      | some none => some (.heap (.tup []) (H.put x (.map es c)))
      | none => none)
    | _, _ => none)
  | _, _ => none

def xmake (x : K) (t : TypeId) (l c : AV) : Option XR :=
  match P.underlying t, natOf l, natOf c with
  | some (.slice e), some n, some m => (match Nat.ble n m, Nat.ble m 9223372036854775807, P.info? e, zeros P e m with
    | true, true, some i, some z => (match Nat.ble (i.bytes * m) (2 ^ 48) with
      | true => some (.fresh (.sl x 0 n m i.size false) (.cells z false))
      | false => none)
    | _, _, _, _ => none)
  | _, _, _ => none

def xassert (a : AV) (t : TypeId) (commaOk : Bool) : Option AV :=
  match P.underlying t with
  | some (.interface _) => none
  | some _ => (match a with
    | .iface u v => (match Nat.beq u t, commaOk with
      | true, true => some (.tup [v, .bool true])
      | true, false => some v
      | false, true => (match zeroOf P t with | some z => some (.tup [z, .bool false]) | none => none)
      | false, false => none)
    | .nili => (match commaOk, zeroOf P t with
      | true, some z => some (.tup [z, .bool false])
      | _, _ => none)
    | _ => none)
  | none => none

def plainFn (f : FuncId) : Bool :=
  match P.funcs[f]? with
  | some fn => fn.body.isSome
  | none => false

def callF (f : FuncId) (args : List AV) : Option XR := match plainFn P f with | true => some (.call f args) | false => none

def xcallV (f : AV) (args : List AV) : Option XR :=
  match f with
  | .func (.func g) first cap => callF P g (first ++ args ++ cap)
  | .yieldf x => some (.yield x args)
  | _ => none

def xinvoke (recv : AV) (name : String) (args : List AV) : Option XR :=
  match recv with
  | .iface t v => (match P.info? t with
    | some i => (match i.methods.find? (·.name == name) with
      | some m => (match m.path.toList, m.func, P.underlying t with
        | [], some (f, true), some (.pointer _) => callF P f (v :: args)
        | _, _, _ => none)
      | none => none)
    | none => none)
  | _ => none

def xbuiltin (H : Hp) (b : Builtin) (ts : List TypeId) (args : List AV) : Option XR :=
  match b, ts, args with
  | .append, s :: u :: _, a :: c :: _ => xappend P H s u a c
  | .len, t :: _, a :: _ => okV (xlen P H t a)
  | .cap, t :: _, a :: _ => okV (xcap P t a)
  | .copy, t :: _, a :: c :: _ => xcopy P H t a c
  | .clear, t :: _, a :: _ => xclear P H t a
  | .delete, t :: _, a :: c :: _ => xdelete P H t a c
  | .min, _, a :: r => okV (xfold true a r)
  | .max, _, a :: r => okV (xfold false a r)
  | .complex, _, [.float k a, .float k' b] => (match decEq k k' with | .isTrue _ => some (.val (.complex k a b)) | .isFalse _ => none)
  | .real, _, [.complex k a _] => some (.val (.float k a))
  | .imag, _, [.complex k _ a] => some (.val (.float k a))
  | _, _, _ => none

def newCells (x : K) (l : List AV) : Option XR :=
  match allB storable l with
  | true => some (.fresh (.ptr x 0) (.cells l false))
  | false => none
def nilC (a : AV) : Option AV :=
  match asPtr a with
  | some (x, o) => some (.ptr x o)
  | none => none
def extractAt (i : Nat) (a : AV) : Option AV :=
  match asTup a with
  | some l => nth l i
  | none => none

/-- an operation, its operands' values given. -/
def xop (ρ : Operand → AV) (H : Hp) (x : K) (o : Op) : Option XR :=
  match o with
  | .move a | .assign a => some (.val (ρ a))
  | .pick c a b => (match asBool (ρ c) with
    | some true => some (.val (ρ a))
    | some false => some (.val (ρ b))
    | none => none)
  | .alloc e => (match zeroOf P e with | some z => newCells x (cellsOf z) | none => none)
  | .box _ a => newCells x (cellsOf (ρ a))
  | .build ty ps => okV (xbuild P ty (ps.toList.map fun p => (p.1, ρ p.2)))
  | .buildSlice ty n ps => (match xbuildSlice P x ty n (ps.toList.map fun p => (p.1, ρ p.2)) with | some (v, o) => some (.fresh v o) | none => none)
  | .load ty a => okV (xload P H ty (ρ a))
  | .store ty a v => okH (xstore P H ty (ρ a) (ρ v))
  | .nilCheck a => okV (nilC (ρ a))
  | .binOp op ty a b _ => okV (xbin P H op ty a b (ρ a) (ρ b))
  | .unOp op _ a => okV (xun op (ρ a))
  | .convert s d a => xconvert P H s d (ρ a)
  | .makeInterface ty a => (match P.underlying ty with
    | some (.interface _) => none
    | some _ => some (.val (.iface ty (ρ a)))
    | none => none)
  | .makeFunc fn first cap => some (.val (.func fn (first.toList.map ρ) (cap.toList.map ρ)))
  | .makeMap _ none => some (.fresh (.mapv x) (.map [] 0))
  | .makeMap ty (some h) => (match P.underlying ty, asInt (ρ h) with
    | some (.map _ _), some _ => some (.fresh (.mapv x) (.map [] 0))
    | _, _ => none)
  | .makeSlice ty l c => xmake P x ty (ρ l) (ρ c)
  | .slice ty a lo hi mx => okV (xslice P ty (ρ a) (lo.map ρ) (hi.map ρ) (mx.map ρ))
  | .fieldAddr s a f => okV (xfieldAddr P s (ρ a) f)
  | .field s a f => okV (xfield P s (ρ a) f)
  | .indexAddr ty a i => okV (xindexAddr P ty (ρ a) (ρ i))
  | .index ty a i => okV (xindex P ty (ρ a) (ρ i))
  | .lookup ty m k c => okV (xlookup P H ty (ρ m) (ρ k) c)
  | .mapUpdate ty m k v | .insert ty m k v => okH (xmapUpdate P H ty (ρ m) (ρ k) (ρ v))
  | .typeAssert a _ ty c => okV (xassert P (ρ a) ty c)
  | .extract a i => okV (extractAt i (ρ a))
  | .call c => (match c.callee with
    | .builtin b => xbuiltin P H b c.argTypes.toList (c.args.toList.map ρ)
    | .value f => xcallV P (ρ f) (c.args.toList.map ρ)
    | .invoke r name => xinvoke P (ρ r) name (c.args.toList.map ρ))
  | _ => none

/-- an operation, laid out for a quick run. -/
inductive I where
  | mov (a : Opd)
  | pick (c a b : Opd)
  | new (l : List AV)
  | box (a : Opd)
  | build (z : List AV) (ps : List (Nat × Nat × Opd))
  | load1 (a : Opd)
  | loadN (n : Nat) (a : Opd)
  | store (n : Nat) (a v : Opd)
  | nilc (a : Opd)
  | ibin (op : BinOp) (g : IntKind → Int → Int → Option AV) (a b : Opd)
  | eqp (neg : Bool) (a b : Opd)
  | not (a : Opd)
  | convI (k : IntKind) (a : Opd)
  | addr (n : Nat) (a : Opd)
  | idxA (n es : Nat) (a i : Opd)
  | idxS (es : Nat) (a i : Opd)
  | lenS (a : Opd)
  | extract (i : Nat) (a : Opd)
  | call (f : FuncId) (args : List Opd)
  | gen (o : Op)

def isInt (t : TypeId) : Bool := match P.underlying t with | some (.int _) => true | _ => false

/-- the layout of an operation. -/
def lay (T : FrP) (o : Op) : I :=
  match o with
  | .move a | .assign a => .mov (opd P T a)
  | .pick c a b => .pick (opd P T c) (opd P T a) (opd P T b)
  | .alloc e => (match zeroOf P e with | some z => .new (cellsOf z) | none => .gen o)
  | .box _ a => .box (opd P T a)
  | .build ty ps => (match zeroOf P ty, placeIn P ty with
    | some z, some pl => (match places pl (ps.toList.map fun p => (p.1, opd P T p.2)) with
      | some q => .build (cellsOf z) q
      | none => .gen o)
    | _, _ => .gen o)
  | .load ty a => (match isAgg P ty with
    | some true => (match sizeOf P ty with | some n => .loadN n (opd P T a) | none => .gen o)
    | some false => .load1 (opd P T a)
    | none => .gen o)
  | .store ty a v => (match sizeOf P ty with | some n => .store n (opd P T a) (opd P T v) | none => .gen o)
  | .nilCheck a => .nilc (opd P T a)
  | .binOp op ty a b _ => (match P.underlying ty, isShift op with
    | some (.int _), false => .ibin op (intFn op) (opd P T a) (opd P T b)
    | some (.pointer e), _ => (match op, sizeOf P e with
      | .eql, some (_ + 1) => .eqp false (opd P T a) (opd P T b)
      | .neq, some (_ + 1) => .eqp true (opd P T a) (opd P T b)
      | _, _ => .gen o)
    | _, _ => .gen o)
  | .unOp .not _ a => .not (opd P T a)
  | .convert s d a => (match P.underlying s, P.underlying d with
    | some _, some (.int k) => .convI k (opd P T a)
    | _, _ => .gen o)
  | .fieldAddr s a f => (match fieldOf P s f with
    | some fd => (match sizeOf P fd.type with
      | some (_ + 1) => .addr fd.offset (opd P T a)
      | _ => .gen o)
    | none => .gen o)
  | .indexAddr ty a i => (match P.underlying ty with
    | some (.array n e) => (match sizeOf P e with | some es => .idxA n es (opd P T a) (opd P T i) | none => .gen o)
    | some (.slice e) => (match sizeOf P e with | some es => .idxS es (opd P T a) (opd P T i) | none => .gen o)
    | _ => .gen o)
  | .extract a i => .extract i (opd P T a)
  | .call c => (match c.callee with
    | .value (.func f) => (match plainFn P f with
      | true => .call f (c.args.toList.map (opd P T))
      | false => .gen o)
    | .builtin .len => (match c.argTypes.toList, c.args.toList with
      | t :: _, a :: _ => (match P.underlying t with | some (.slice _) => .lenS (opd P T a) | _ => .gen o)
      | _, _ => .gen o)
    | _ => .gen o)
  | o => .gen o

def evs (L : Loc) (t : Tr AV) : List Opd → List AV := @List.rec Opd (fun _ => List AV) [] (fun x _ ih => evo x L t :: ih)
def evp (L : Loc) (t : Tr AV) : List (Nat × Nat × Opd) → List (Nat × Nat × AV)
  | [] => []
  | (i, n, x) :: r => (i, n, evo x L t) :: evp L t r

def exPick (c a b : AV) : Option XR := @Option.rec Bool (fun _ => Option XR) none (@Bool.rec (fun _ => Option XR) (some (.val b)) (some (.val a))) (asBool c)
def exNot (a : AV) : Option XR := @Option.rec Bool (fun _ => Option XR) none (fun b => some (.val (.bool (notB b)))) (asBool a)
def eqP (H : Hp) (neg : Bool) (a b : AV) : Option XR := match eqPtr H a b with | some r => some (.val (.bool (match neg with | true => !r | false => r))) | none => none
def exBuild (z : List AV) (ps : List (Nat × Nat × AV)) : Option XR := match fill ps z with | some q => some (.val (.agg q)) | none => none

def exec (T : FrP) : I → Loc → Tr AV → Hp → Option XR :=
  @I.rec (fun _ => Loc → Tr AV → Hp → Option XR)
    (fun a L t _ => some (.val (evo a L t)))
    (fun c a b L t _ => exPick (evo c L t) (evo a L t) (evo b L t))
    (fun l _ _ H => newCells H.next l)
    (fun a L t H => newCells H.next (cellsOf (evo a L t)))
    (fun z ps L t _ => exBuild z (evp L t ps))
    (fun a L t H => okV (load1 H (evo a L t)))
    (fun n a L t H => okV (loadN n H (evo a L t)))
    (fun n a v L t H => okH (storeN n H (evo a L t) (evo v L t)))
    (fun a L t _ => okV (nilC (evo a L t)))
    (fun op g a b L t _ => okV (iBinR op g (evo a L t) (evo b L t)))
    (fun neg a b L t H => eqP H neg (evo a L t) (evo b L t))
    (fun a L t _ => exNot (evo a L t))
    (fun k a L t _ => okV (convI k (evo a L t)))
    (fun n a L t _ => okV (addOff n (evo a L t)))
    (fun n es a i L t _ => okV (idxA n es (evo a L t) (evo i L t)))
    (fun es a i L t _ => okV (idxS es (evo a L t) (evo i L t)))
    (fun a L t _ => okV (lenS (evo a L t)))
    (fun i a L t _ => okV (extractAt i (evo a L t)))
    (fun f args L t _ => some (.call f (evs L t args)))
    (fun o L t H => xop P (fun y => evo (opd P T y) L t) H H.next o)

inductive Dst where
  | none
  | l (i : Nat)
  | v (k : K)
def dstOf (T : FrP) : Option Tmp → Dst
  | .none => .none
  | .some d => match Nat.ble (d + 1) T.n with
    | true => (match Nat.ble T.thr d with | true => .l d | false => .v (kOf d))
    | false => .none

/-- an operation of a region: its guard, where its value goes, what is done; in a region whose order is open: is it a look at the heap, from which stage on may it run, up to which; does it act. -/
structure CI where
  guard : Option (Opd × Bool)
  dst : Dst
  op : I
  looks : Bool
  first : Nat
  last : Nat
  acts : Bool

inductive Ex where
  | normal
  | exit (id : Nat)
  | goto (l : Nat)
  | ret

inductive Job where
  | code (c : Code) (T : FrP) (L : Loc) (t : Tr AV) (H : Hp)
  | scope (b c : Code) (T : FrP) (L : Loc) (t : Tr AV) (H : Hp)
  | call (f : FuncId) (args : List AV) (H : Hp)
  | yield (x : K) (args : List AV) (H : Hp)

inductive Res where
  | out (e : Ex) (L : Loc) (t : Tr AV) (H : Hp)
  | val (v : AV) (H : Hp)

def guardOf (T : FrP) (all : List Oper) (o : Oper) : Option (Option (Opd × Bool)) :=
  match o.guard with
  | none => some none
  | some (j, want) => (match all[j]? with
    | some g => (match g.dst with
      | some d => some (some (opd P T (.tmp d), want))
      | none => none)
    | none => none)

def guardSays (L : Loc) (t : Tr AV) : Option (Opd × Bool) → Option Bool :=
  @Option.rec (Opd × Bool) (fun _ => Option Bool) (some true) (fun g => @Option.rec Bool (fun _ => Option Bool) none (fun b => some (sameB b g.2)) (asBool (evo g.1 L t)))

def layOps (T : FrP) (all : List Oper) : List Oper → Option (List CI)
  | [] => some []
  | o :: r => match guardOf P T all o, layOps T all r with
    | some g, some q => some (⟨g, dstOf T o.dst, lay P T o.op, false, 0, 0, false⟩ :: q)
    | _, _ => none

abbrev R := Option (Loc × Tr AV × Hp)
def putD (v : AV) (k : Loc → Tr AV → Hp → R) (L : Loc) (t : Tr AV) (H : Hp) : Dst → R :=
  @Dst.rec (fun _ => R) (k L t H) (fun i => k (.cons i v L) t H) (fun x => k L (Tr.set x (some v) t) H)
def valOf : Option Res → Option (AV × Hp) := @Option.rec Res (fun _ => Option (AV × Hp)) none (@Res.rec (fun _ => Option (AV × Hp)) (fun _ _ _ _ => none) (fun v H => some (v, H)))
def putR (d : Dst) (k : Loc → Tr AV → Hp → R) (L : Loc) (t : Tr AV) (r : Option (AV × Hp)) : R :=
  @Option.rec (AV × Hp) (fun _ => R) none (fun p => putD p.1 k L t p.2 d) r
def putX (rec : Job → Option Res) (d : Dst) (k : Loc → Tr AV → Hp → R) (L : Loc) (t : Tr AV) (H : Hp) : XR → R :=
  @XR.rec (fun _ => R)
    (fun v => putD v k L t H d)
    (fun v H' => putD v k L t H' d)
    (fun v o => putD v k L t (H.new o) d)
    (fun f args => putR d k L t (valOf (rec (.call f args H))))
    (fun x args => putR d k L t (valOf (rec (.yield x args H))))
def oneOp (T : FrP) (rec : Job → Option Res) (o : CI) (k : Loc → Tr AV → Hp → R) (L : Loc) (t : Tr AV) (H : Hp) : R :=
  @Option.rec Bool (fun _ => R) none
    (@Bool.rec (fun _ => R) (putD .undef k L t H o.dst) (@Option.rec XR (fun _ => R) none (putX rec o.dst k L t H) (exec P T o.op L t H)))
    (guardSays L t o.guard)
def runOps (T : FrP) (rec : Job → Option Res) : List CI → Loc → Tr AV → Hp → R :=
  @List.rec CI (fun _ => Loc → Tr AV → Hp → R) (fun L t H => some (L, t, H)) (fun o _ ih L t H => oneOp P T rec o ih L t H)

/-! Regions whose order is open. -/

inductive Kd where
  | pure
  | looks
  | news
  | acts

/-- what kind of operation is it: it looks at nothing beside its operands; it looks at the heap; it makes an object of its operands; anything else. -/
def kindOf (o : Op) : Kd :=
  match o with
  | .move _ | .assign _ | .pick .. | .build .. | .nilCheck _ | .unOp .. | .makeInterface .. | .makeFunc .. | .fieldAddr .. | .field .. | .indexAddr .. | .index .. | .slice .. | .typeAssert .. | .extract .. => .pure
  | .binOp op .. => (match op with | .eql | .neq => .looks | _ => .pure)
  | .convert _ d _ => (match P.underlying d with | some (.int _) | some (.float _) | some (.complex _) => .pure | _ => .acts)
  | .load .. | .lookup .. => .looks
  | .alloc _ | .box .. | .buildSlice .. | .makeMap .. | .makeSlice .. => .news
  | .call { callee := .builtin b, .. } => (match b with | .len => .looks | .cap | .min | .max | .complex | .real | .imag => .pure | _ => .acts)
  | _ => .acts

def isActs : Kd → Bool | .acts => true | _ => false
def isNews : Kd → Bool | .news => true | _ => false
def isLooks : Kd → Bool | .looks => true | _ => false

def bit (d : Option Tmp) : Nat := match d with | some t => 2 ^ t | none => 0
def tmask : List Operand → Nat
  | [] => 0
  | x :: r => match x with | .tmp t => Nat.lor (2 ^ t) (tmask r) | _ => tmask r
def gmask (all : List Oper) (o : Oper) : Nat :=
  match o.guard with
  | some (j, _) => (match all[j]? with | some g => bit g.dst | none => 0)
  | none => 0

/-- what is to be known of an operation: the slot that it writes, those that it names, those that must come ahead of it (by edges that bind always; by those that bind as gc orders), does it act, make, look. -/
structure Row where
  dm : Nat
  nm : Nat
  anc : Nat
  gc : Nat
  acts : Bool
  news : Bool
  looks : Bool

def nthN : List Nat → Nat → Nat
  | [], _ => 0
  | x :: r, n => match n with | 0 => x | m + 1 => nthN r m

/-- all that must come ahead, by edges, of those that come ahead. -/
def ancOf (ms : List Nat) : List Edge → Nat
  | [] => 0
  | e :: r => match e.ground with
    | .textOnly _ => ancOf ms r
    | .gcOnly _ => ancOf ms r
    | _ => orAnc ms e.on (ancOf ms r)
  where
  orAnc (ms : List Nat) (i s : Nat) : Nat := match Nat.testBit s i with | true => s | false => Nat.lor (Nat.lor (2 ^ i) (nthN ms i)) s
def gcOf : List Edge → Nat
  | [] => 0
  | e :: r => match e.ground with
    | .textOnly _ => gcOf r
    | _ => Nat.lor (2 ^ e.on) (gcOf r)

def rowOf (all : List Oper) (ms : List Nat) (o : Oper) : Row :=
  let k := kindOf P o.op
  ⟨bit o.dst, Nat.lor (Nat.lor (bit o.dst) (tmask o.op.operands.toList)) (gmask all o), ancOf ms o.after.toList, gcOf o.after.toList, isActs k, isNews k, isLooks k⟩
def rowsOf (all : List Oper) : List Oper → List Nat → List Row
  | [], _ => []
  | o :: r, ms => cons (rowOf P all ms o) (rowsOf all r)  ms
  where cons (x : Row) (k : List Nat → List Row) (ms : List Nat) : List Row := x :: k (ms ++ [x.anc])

def apart (a b : Nat) : Bool := Nat.beq (Nat.land a b) 0
/-- may y come behind x, which stands at place i, in whatever order? -/
def pairOk (i : Nat) (x y : Row) : Bool :=
  match Nat.testBit y.anc i with
  | true => true
  | false => match apart x.dm y.nm with
    | false => false
    | true => match apart y.dm x.nm with
      | false => false
      | true => match y.acts with
        | false => true
        | true => match x.acts with
          | true => false
          | false => notB x.news
/-- y stands at place j. -/
def pairsOk (y : Row) (j : Nat) : List Row → Nat → Bool
  | [], _ => true
  | x :: r, i => match Nat.beq i j with
    | true => true
    | false => match pairOk i x y with | true => pairsOk y j r (i + 1) | false => false
def edgesOk (n j : Nat) : List Edge → Bool
  | [] => true
  | e :: r => match Nat.ble (e.on + 1) j with
    | true => edgesOk n j r
    | false => match e.ground with
      | .gcOnly _ => (match Nat.ble (e.on + 1) n with | true => edgesOk n j r | false => false)
      | _ => false
def guardIn (o : Oper) (anc : Nat) : Bool := match o.guard with | some (k, _) => Nat.testBit anc k | none => true
def allOk (n : Nat) (rows : List Row) : List Oper → List Row → Nat → Bool
  | o :: r, y :: q, j => match edgesOk n j o.after.toList with
    | false => false
    | true => match guardIn o y.anc with
      | false => false
      | true => match pairsOk y j rows 0 with | true => allOk n rows r q (j + 1) | false => false
  | [], [], _ => true
  | _, _, _ => false

/-- as many as come, in places from i on, when those of a mask have come. -/
def peel1 : List Row → Nat → Nat → Nat
  | [], _, m => m
  | y :: r, i, m => peel1 r (i + 1) (match Nat.beq (Nat.land y.gc m) y.gc with | true => Nat.lor m (2 ^ i) | false => m)
/-- do all come at last, as gc orders? -/
def peel (rows : List Row) (all : Nat) : Nat → Nat → Bool
  | 0, m => Nat.beq m all
  | k + 1, m => match Nat.beq m all with | true => true | false => peel rows all k (peel1 rows 0 m)

def anyDeparts : List Oper → Bool
  | [] => false
  | o :: r => match departsIn o.after.toList with | true => true | false => anyDeparts r
  where
  departsIn : List Edge → Bool
    | [] => false
    | e :: r => match e.ground with | .textOnly _ => true | .gcOnly _ => true | _ => departsIn r

def regionOk (ops : List Oper) (rows : List Row) : Bool :=
  match allOk ops.length rows ops rows 0 with
  | false => false
  | true => match anyDeparts ops with
    | false => true
    | true => peel rows (2 ^ ops.length - 1) ops.length 0

/-- how many of those that act must have come ahead of one. -/
def firstOf (anc : Nat) : List Row → Nat → Nat
  | [], _ => 0
  | x :: r, j => match x.acts with
    | false => firstOf anc r (j + 1)
    | true => match Nat.testBit anc j with | true => Nat.succ (firstOf anc r (j + 1)) | false => firstOf anc r (j + 1)
/-- how many of those that act may come ahead of i. -/
def lastOf (i : Nat) : List Row → Nat
  | [] => 0
  | x :: r => match x.acts with
    | false => lastOf i r
    | true => match Nat.testBit x.anc i with | true => lastOf i r | false => Nat.succ (lastOf i r)

def layD (T : FrP) (all : List Oper) (rows : List Row) : List Oper → List Row → Nat → Option (List CI)
  | [], _, _ => some []
  | o :: r, y :: q, i => match guardOf P T all o, layD T all rows r q (i + 1) with
    | some g, some z => some (⟨g, dstOf T o.dst, lay P T o.op, y.looks, firstOf y.anc rows 0, lastOf i rows, y.acts⟩ :: z)
    | _, _ => none
  | _, _, _ => none

def layDrawn2 (T : FrP) (ops : List Oper) (rows : List Row) : Option (List CI) :=
  match regionOk ops rows with
  | true => layD P T ops rows ops rows 0
  | false => none
def layDrawn (T : FrP) (ops : Array Oper) : Option (List CI) := layDrawn2 P T ops.toList (rowsOf P ops.toList ops.toList [])

def eqFlat (a b : AV) : Bool :=
  match a, b with
  | .any, .any => true
  | .bool x, .bool y => sameB x y
  | .int k m, .int k' n => Nat.beq (kNat k) (kNat k') && eqI m n
  | .str x, .str y => eqL x y
  | .nilp, .nilp => true
  | .ptr x o, .ptr y p => K.eq x y && Nat.beq o p
  | .nilsl, .nilsl => true
  | .sl x o n c e p, .sl x' o' n' c' e' p' => K.eq x x' && Nat.beq o o' && Nat.beq n n' && Nat.beq c c' && Nat.beq e e' && sameB p p'
  | .esl, .esl => true
  | .nilm, .nilm => true
  | .mapv x, .mapv y => K.eq x y
  | .func (.func f) [] [], .func (.func g) [] [] => Nat.beq f g
  | .nilf, .nilf => true
  | .nili, .nili => true
  | .rng k lo hi m r, .rng k' lo' hi' m' r' => Nat.beq (kNat k) (kNat k') && Nat.beq lo lo' && Nat.beq hi hi' && Nat.beq m m' && Nat.beq r r'
  | _, _ => false
def eqFlats : List AV → List AV → Bool
  | [], [] => true
  | x :: r, y :: q => eqFlat x y && eqFlats r q
  | _, _ => false
def eqAV (a b : AV) : Bool :=
  match a, b with
  | .agg l, .agg m => eqFlats l m
  | .tup l, .tup m => eqFlats l m
  | a, b => eqFlat a b

/-- does a look tell the same in another heap? -/
def sameVal (T : FrP) (i : I) (L : Loc) (t : Tr AV) (H : Hp) (v : AV) : Bool :=
  match exec P T i L t H with
  | some (.val u) => eqAV u v
  | _ => false

structure Pend where
  op : I
  L : Loc
  t : Tr AV
  v : AV
  last : Nat

/-- the heaps behind each stage, the newest first: does a look tell the same at each from a stage on? -/
def pastOk (T : FrP) (i : I) (L : Loc) (t : Tr AV) (v : AV) (first : Nat) : List Hp → Bool
  | [] => true
  | H :: r => match Nat.ble first r.length with
    | false => pastOk T i L t v first r
    | true => match sameVal P T i L t H v with | true => pastOk T i L t v first r | false => false
def pendOk (T : FrP) (stage : Nat) (H : Hp) : List Pend → Bool
  | [] => true
  | p :: r => match Nat.ble stage p.last with
    | false => pendOk T stage H r
    | true => match sameVal P T p.op p.L p.t H p.v with | true => pendOk T stage H r | false => false

/-- are so many names free, from one on? -/
def freeN (H : Hp) : Nat → K → Bool
  | 0, _ => true
  | n + 1, x => match H.get x with | none => freeN H n (K.succ x) | some _ => false

/-- what an operation comes to. -/
def resX (rec : Job → Option Res) (H : Hp) : XR → Option (AV × Hp)
  | .val v => some (v, H)
  | .heap v H' => some (v, H')
  | .fresh v o => some (v, H.new o)
  | .call f args => valOf (rec (.call f args H))
  | .yield x args => valOf (rec (.yield x args H))

/-- hs: the heaps behind each of those that act, the newest first, the last of them the one ahead of all; nm: the name of the next object made ahead. -/
structure St where
  hs : List Hp
  ps : List Pend
  nm : K
  L : Loc
  t : Tr AV
  H : Hp

def putS (v : AV) (hs : List Hp) (ps : List Pend) (nm : K) (L : Loc) (t : Tr AV) (H : Hp) : Dst → Option St
  | .none => some ⟨hs, ps, nm, L, t, H⟩
  | .l i => some ⟨hs, ps, nm, .cons i v L, t, H⟩
  | .v x => some ⟨hs, ps, nm, L, Tr.set x (some v) t, H⟩

def actS (T : FrP) (o : CI) (left : Nat) (s : St) : Option (AV × Hp) → Option St
  | none => none
  | some (v, H') => match pendOk P T s.hs.length H' s.ps with
    | false => none
    | true => match freeN H' left s.nm with
      | false => none
      | true => putS v (H' :: s.hs) s.ps s.nm s.L s.t H' o.dst

def lookS (T : FrP) (o : CI) (s : St) : List Hp → Option St
  | [] => none
  | B :: r => match exec P T o.op s.L s.t B with
    | some (.val v) => (match pastOk P T o.op s.L s.t v o.first r with
      | true => putS v s.hs (⟨o.op, s.L, s.t, v, o.last⟩ :: s.ps) s.nm s.L s.t s.H o.dst
      | false => none)
    | _ => none

def elseS (o : CI) (s : St) : Option XR → Option St
  | some (.val v) => putS v s.hs s.ps s.nm s.L s.t s.H o.dst
  | some (.fresh v ob) => putS v s.hs s.ps (K.succ s.nm) s.L s.t (s.H.put s.nm ob) o.dst
  | _ => none

def stepD (T : FrP) (rec : Job → Option Res) (o : CI) (left : Nat) (s : St) : Option St :=
  match guardSays s.L s.t o.guard, o.acts, o.looks with
  | none, _, _ => none
  | some true, true, _ => (match exec P T o.op s.L s.t s.H with
    | some x => actS P T o left s (resX rec s.H x)
    | none => none)
  | some false, true, _ => actS P T o left s (some (.undef, s.H))
  | some false, false, _ => putS .undef s.hs s.ps s.nm s.L s.t s.H o.dst
  | some true, false, true => lookS P T o s s.hs
  | some true, false, false => elseS o s (exec P T o.op s.L s.t ⟨s.H.objs, s.nm⟩)

def runD (T : FrP) (rec : Job → Option Res) : List CI → St → Option St
  | [], s => some s
  | o :: r, s => match stepD P T rec o r.length s with
    | some s' => runD T rec r s'
    | none => none

/-- so many names on. -/
def skip : Nat → K → K
  | 0, k => k
  | n + 1, k => K.succ (skip n k)

def runDrawn (T : FrP) (rec : Job → Option Res) (t : Tr AV) (H : Hp) (ops : Array Oper) : R :=
  match layDrawn P T ops with
  | some q => (match runD P T rec q ⟨[⟨H.objs, skip ops.size H.next⟩], [], H.next, .nil, t, ⟨H.objs, skip ops.size H.next⟩⟩ with
    | some s => some (s.L, s.t, s.H)
    | none => none)
  | none => none
def bindT : List AV → K → Tr AV → Tr AV := @List.rec AV (fun _ => K → Tr AV → Tr AV) (fun _ t => t) (fun v _ ih i t => ih (K.succ i) (Tr.set i (some v) t))

def resultsOf (T : FrP) (L : Loc) (t : Tr AV) (H : Hp) : List ResultVar → Option (List AV)
  | [] => some []
  | .tmp i :: r => (match resultsOf T L t H r with | some q => some (evo (opd P T (.tmp i)) L t :: q) | none => none)
  | .cell a ty :: r => (match xload P H ty (evo (opd P T (.tmp a)) L t), resultsOf T L t H r with | some v, some q => some (v :: q) | _, _ => none)

def setParams (T : FrP) (t : Tr AV) : List Tmp → List AV → Option (Tr AV)
  | [], [] => some t
  | p :: r, v :: q => (match Nat.ble T.thr p || Nat.ble T.n p with | true => none | false => setParams T (Tr.set (kOf p) (some v) t) r q)
  | _, _ => none

def jumpOf : Ex → Option Code
  | .normal => none
  | .ret => some .ret
  | .exit i => some (.exit i)
  | .goto l => some (.goto l)

def toRes : R → Option Res := @Option.rec (Loc × Tr AV × Hp) (fun _ => Option Res) none (fun p => some (.out .normal p.1 p.2.1 p.2.2))

/-- what follows on a normal end. -/
def thenR (k : Loc → Tr AV → Hp → Option Res) (r : Option Res) : Option Res :=
  @Option.rec Res (fun _ => Option Res) none
    (@Res.rec (fun _ => Option Res) (fun e L t H => @Ex.rec (fun _ => Option Res) (k L t H) (fun i => some (.out (.exit i) L t H)) (fun l => some (.out (.goto l) L t H)) (some (.out .ret L t H)) e) (fun v H => some (.val v H))) r
def inBlock (id : Nat) (r : Option Res) : Option Res :=
  match r with
  | some (.out (.exit i) L t H) => (match Nat.beq i id with
    | true => some (.out .normal L t H)
    | false => some (.out (.exit i) L t H))
  | r => r
def pickCode (rec : Job → Option Res) (a b : Code) (T : FrP) (L : Loc) (t : Tr AV) (H : Hp) (c : Option Bool) : Option Res :=
  @Option.rec Bool (fun _ => Option Res) none (@Bool.rec (fun _ => Option Res) (rec (.code b T L t H)) (rec (.code a T L t H))) c

def runRegion (T : FrP) (rec : Job → Option Res) (t : Tr AV) (H : Hp) (ops : Option (List CI)) : Option Res :=
  @Option.rec (List CI) (fun _ => Option Res) none (fun q => toRes (runOps P T rec q .nil t H)) ops

def stepRange (rec : Job → Option Res) (f : Operand) (ps : Array Tmp) (as b : Code) (T : FrP) (L : Loc) (t : Tr AV) (H : Hp) : Option Res :=
  match T.rnd, xcallV P (evo (opd P T f) L t) [.yieldf H.next] with
  | false, some (.call g args) => (match rec (.call g args (H.new (.loop .ready none 0 T t ps.toList as b))) with
    | some (.val _ H') => (match H'.get H.next with
      | some (.loop .ready none _ _ _ _ _ _) => some (.out .normal .nil t (H'.kill H.next))
      | some (.loop .done (some j) _ _ _ _ _ _) => rec (.code j T .nil t (H'.kill H.next))
      | _ => none)
    | _ => none)
  | _, _ => none

def inScope (rec : Job → Option Res) (b : Code) (T : FrP) (r : Option Res) : Option Res :=
  match r with
  | some (.out (.goto l) L t H) => (match findLabel b l with
    | some c => rec (.scope b c T L t H)
    | none => some (.out (.goto l) L t H))
  | r => r

def stepCode (c : Code) (T : FrP) (L : Loc) (t : Tr AV) (H : Hp) (rec : Job → Option Res) : Option Res :=
  @Code.rec (fun _ => FrP → Loc → Tr AV → Hp → (Job → Option Res) → Option Res)
    (fun _ L t H _ => some (.out .normal L t H))  -- skip
    (fun _ ops draw T _ t H rec => @Bool.rec (fun _ => Option Res) (runRegion P T rec t H (layOps P T ops.toList ops.toList)) (toRes (runDrawn P T rec t H ops)) draw)
    (fun a b _ _ T L t H rec => thenR (fun L t H => rec (.code b T L t H)) (rec (.code a T L t H)))
    (fun x a b _ _ T L t H rec => pickCode rec a b T L t H (asBool (evo (opd P T x) L t)))
    (fun id b _ T L t H rec => inBlock id (rec (.code b T L t H)))
    (fun b _ T L t H rec => thenR (fun L t H => rec (.code (.loop b) T L t H)) (rec (.code b T L t H)))
    (fun f ps as b _ _ T L t H rec => stepRange P rec f ps as b T L t H)
    (fun i _ L t H _ => some (.out (.exit i) L t H))
    (fun b _ T L t H rec => rec (.scope b b T L t H))
    (fun _ _ L t H _ => some (.out .normal L t H))  -- label
    (fun l _ L t H _ => some (.out (.goto l) L t H))
    (fun _ L t H _ => some (.out .ret L t H))
    (fun _ _ _ _ _ _ => none) c T L t H rec

variable (thr : FuncId → Nat)

def finish (fn : Func) (T : FrP) (r : Option Res) : Option Res :=
  match r with
  | some (.out e L t H) => (match (match e with | .normal => true | .ret => true | _ => false), resultsOf P T L t H fn.results.toList with
    | true, some [v] => some (.val v H)
    | true, some vs => some (.val (.tup vs) H)
    | _, _ => none)
  | _ => none

def stepCall (f : FuncId) (args : List AV) (H : Hp) (rec : Job → Option Res) : Option Res :=
  match P.funcs[f]? with
  | some fn => (match fn.body with
    | some c => (match Nat.ble (len args) fn.ntmps with
      | true => finish P fn ⟨thr f, fn.ntmps, false⟩ (rec (.code c ⟨thr f, fn.ntmps, false⟩ .nil (bindT args .e .leaf) H))
      | false => none)
    | none => none)
  | none => none

def yieldE (x : K) (r : Option Res) : Option Res :=
  match r with
  | some (.out e _ _ H') => (match H'.get x with
    | some (.loop _ _ fn T t ps as b) => (match e with
      | .normal => some (.val (.bool true) (H'.put x (.loop .ready none fn T t ps as b)))
      | e => some (.val (.bool false) (H'.put x (.loop .done (jumpOf e) fn T t ps as b))))
    | _ => none)
  | _ => none
def yieldB (x : K) (T : FrP) (b : Code) (rec : Job → Option Res) (r : Option Res) : Option Res :=
  match r with
  | some (.out .normal L1 t1 H1) => (match H1.get x with
    | some (.loop .ready pd fn T0 t ps as b') => yieldE x (rec (.code b T L1 t1 (H1.put x (.loop .busy pd fn T0 t ps as b'))))
    | _ => none)
  | _ => none
def stepYield (x : K) (args : List AV) (H : Hp) (rec : Job → Option Res) : Option Res :=
  match H.get x with
  | some (.loop .ready _ _ T t ps as b) => (match setParams T t ps args with
    | some t0 => yieldB x ⟨T.thr, T.n, true⟩ b rec (rec (.code as ⟨T.thr, T.n, true⟩ .nil t0 H))
    | none => none)
  | _ => none

def step (rec : Job → Option Res) : Job → Option Res :=
  @Job.rec (fun _ => Option Res)
    (fun c T L t H => stepCode P c T L t H rec)
    (fun b c T L t H => inScope rec b T (rec (.code c T L t H)))
    (fun f args H => stepCall P thr f args H rec)
    (fun x args H => stepYield x args H rec)

def run : Nat → Job → Option Res :=
  @Nat.rec (fun _ => Job → Option Res) (fun _ => none) (fun _ ih j => step P thr ih j)

end
end
end Go.Sx
