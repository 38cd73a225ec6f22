/- The symbolic executor's single operations (no calls). No condition. -/
import Derived.Test.YtfdpcmijifdfeaaGreatSxMem
set_option linter.unusedVariables false
set_option linter.unusedSimpArgs false
noncomputable section
namespace Go.Sx
open Go Go.RowKit

def ofCell : Value → SV
  | .bool b => .sc .bool (.bl b)
  | .int k n => .sc (.int k) (.il n)
  | .float k x => match isNan k x with
    | true => .un
    | false => .sc (.float k) (.fl x)
  | .string s => .sc .str (.sl s.data.toList)
  | .pointer none => .nilp
  | .slice none 0 0 => .nils
  | .nilFunc => .nilf
  | .nilIface => .nili
  | _ => .un
def ofVal : Value → SV
  | .agg cs => .agg (cs.toList.map ofCell)
  | .tuple cs => .tup (cs.toList.map ofCell)
  | .func f a c => match a.toList, c.toList with
    | [], [] => .fn f [] []
    | _, _ => .un
  | v => ofCell v

/-- A place of a list: for the kernel by the recursor itself. -/
def kGet (l : List SV) (n : Nat) : SV := List.rec (motive := fun _ => Nat → SV) (fun _ => .un) (fun s _ ih n => Nat.rec (motive := fun _ => SV) s (fun m _ => ih m) n) l n
theorem kGet_eq : ∀ (l : List SV) (n : Nat), kGet l n = l.getD n .un
  | [], n => rfl
  | s :: r, 0 => rfl
  | s :: r, n + 1 => by
    have := kGet_eq r n
    simpa [kGet] using this
def kSet (l : List SV) (d : Nat) (v : SV) : List SV := List.rec (motive := fun _ => Nat → List SV) (fun _ => []) (fun s r ih d => Nat.rec (motive := fun _ => List SV) (v :: r) (fun m _ => s :: ih m) d) l d
theorem kSet_eq : ∀ (l : List SV) (d : Nat) (v : SV), kSet l d v = l.set d v
  | [], d, v => rfl
  | s :: r, 0, v => rfl
  | s :: r, d + 1, v => by
    have := kSet_eq r d v
    simpa [kSet] using this
def nth? {α : Type} (l : List α) (n : Nat) : Option α := List.rec (motive := fun _ => Nat → Option α) (fun _ => none) (fun a _ ih n => Nat.rec (motive := fun _ => Option α) (some a) (fun m _ => ih m) n) l n
theorem nth?_get {α : Type} : ∀ (l : List α) (n : Nat), nth? l n = l[n]?
  | [], n => rfl
  | a :: r, 0 => rfl
  | a :: r, n + 1 => by
    have := nth?_get r n
    simpa [nth?] using this
def evalO (tm : List SV) : Operand → SV
  | .tmp t => kGet tm t
  | .const v => ofVal v
  | .global _ => .un
  | .func f => .fn (.func f) [] []

/-- A symbolic value of one cell. -/
def SV.one : SV → Bool
  | .un => false | .agg _ => false | .tup _ => false
  | _ => true
def ones : List SV → Bool
  | [] => true
  | s :: r => match s.one with
    | true => ones r
    | false => false
def SV.cells : SV → Option (List SV)
  | .agg cs => match ones cs with
    | true => some cs
    | false => none
  | .un => none | .tup _ => none
  | s => some [s]

/-- What an operation is given: the memory that it may read, the names of blocks that are free, and how many of them one operation of a region may take. -/
structure Mm where
  mem : Mem
  nxt : Nat
  lim : Nat
  sz : Nat

structure Res where
  v : SV
  nb : Mem
  nxt : Nat
  pc : PC

/-- A value, and no new memory. -/
def val (m : Mm) (pc : PC) (v : SV) : Out Res := .ret ⟨v, [], m.nxt, pc⟩
/-- A new block. -/
def newB (m : Mm) (pc : PC) (cs : List SV) (v : Nat → SV) : Out Res :=
  match Nat.ble m.lim m.nxt with
  | true => .bad 1
  | false => .ret ⟨v m.nxt, [(m.nxt, ⟨cs, none⟩)], m.nxt + 1, pc⟩

/-- A new empty slice. -/
def newE (m : Mm) (pc : PC) (e size : Nat) (cs : List SV) : Out Res :=
  match Nat.ble m.lim m.nxt, cs with
  | false, [] => .ret ⟨.gs m.nxt 0, [(m.nxt, ⟨[], some (e, size, 0)⟩)], m.nxt + 1, pc⟩
  | _, _ => .bad 2
def aggT (P : Program) (t : TypeId) : Option Bool :=
  match P.underlying t with
  | some (.struct _) => some true
  | some (.array _ _) => some true
  | some _ => some false
  | none => none
def szT (P : Program) (t : TypeId) : Option Nat :=
  match P.info? t with
  | some i => some i.size
  | none => none
def zeroT (P : Program) (t : TypeId) : Option SV :=
  match P.info? t with
  | some i => match i.zero with
    | some v => some (ofVal v)
    | none => none
  | none => none

/-- Some cells from a place on, all of them there. -/
def cut (cs : List SV) : (o n : Nat) → Option (List SV)
  | 0, 0 => some []
  | 0, n + 1 => match cs with
    | [] => none
    | c :: r => match cut r 0 n with
      | some x => some (c :: x)
      | none => none
  | o + 1, n => match cs with
    | [] => none
    | _ :: r => cut r o n

/-- A variable of a type, out of cells. -/
def partS (P : Program) (t : TypeId) (cs : List SV) (o : Nat) : Option SV :=
  match aggT P t with
  | some true => match szT P t with
    | some n => match cut cs o n with
      | some x => some (.agg x)
      | none => none
    | none => none
  | some false => nth? cs o
  | none => none

/-- The address that a value names: a block's name and a place in it. -/
def SV.addr : SV → Option (Nat × Nat)
  | .ptr j o => some (j, o)
  | _ => none

def SV.int? : SV → Option (IntKind × Tm)
  | .sc (.int k) t => some (k, t)
  | _ => none

/-- One way for each number from i on, k of them more; the last one without a test. -/
def enumI {α : Type} (pc : PC) (t : Tm) (f : PC → Nat → Out α) : (i k : Nat) → Out α
  | i, 0 => f ((.op .eqi t (.il i), true) :: pc) i
  | i, k + 1 => fork pc (.op .eqi t (.il i)) (fun pc => f pc i) (fun pc => enumI pc t f (i + 1) k)

/-- A part of a term of which bounds are known. -/
def pickE (pc : PC) (t : Tm) : Option (Tm × Nat × Nat) :=
  match loB pc t, hiB pc t, eqLit pc t with
  | some (.ofNat a), some (.ofNat b), none => some (t, a, b)
  | _, _, _ => match t with
    | .op _ a b => match pickE pc a with
      | some x => some x
      | none => pickE pc b
    | _ => none

/-- An index below 'n' by its number: one way for each that can be. -/
def idx {α : Type} (n : Nat) (f : PC → Nat → Out α) : (fuel : Nat) → PC → Tm → Out α
  | 0, _, _ => .bad 2
  | fuel + 1, pc, t => match litI pc t with
    | some (.ofNat i) => match Nat.blt i n with
      | true => f pc i
      | false => .bad 3
    | some _ => .bad 4
    | none => match t with
      | .ite c a b => fork pc c (fun pc => idx n f fuel pc a) (fun pc => idx n f fuel pc b)
      | t => match pickE pc t with
        | some (u, a, b) => match Nat.ble a b with
          | true => enumI pc u (fun pc _ => idx n f fuel pc t) a (b - a)
          | false => .bad 5
        | none => .bad 6

def isLit (t : Tm) : Bool := match t.lit with | some _ => true | none => false
/-- A test of a literal against a number that is chosen by a bool. -/
def mkCmpR (o : Opc) (a : Tm) : Tm → Tm
  | .ite c x y => mkIteB c (mkCmpR o a x) (mkCmpR o a y)
  | b => mkOp o a b
def cmpI (o : Opc) (r : Bool) (a b : Tm) : Tm :=
  match a.beq b with
  | true => .bl r
  | false => match isLit b with
    | true => mkCmp o b a
    | false => match isLit a with
      | true => mkCmpR o a b
      | false => mkOp o a b
/-- Is a number known to be at least so much? -/
def geT (pc : PC) (n : Int) (t : Tm) : Bool :=
  match ivl pc t with
  | some (l, _) => ile n l
  | none => false
/-- The test whether a number is nought: of a quotient, whether the first is less; of the lesser of two, whether one of them is. -/
def quoZ (pc : PC) : Tm → Tm
  | .ite c x y => match c.beq (.op .lti x y) with
    | true => match geT pc 0 x, geT pc 0 y with
      | true, true => mkIteB (quoZ pc x) (.bl true) (quoZ pc y)
      | _, _ => mkIteB c (quoZ pc x) (quoZ pc y)
    | false => mkIteB c (quoZ pc x) (quoZ pc y)
  | .op o x y => match o with
    | .quoi k => match ivl pc x, geT pc 1 y with
      | some (l, h), true => match ile 0 l, inK k 0 h with
        | true, true => mkOp .lti x y
        | _, _ => mkOp .eqi (.op (.quoi k) x y) (.il 0)
      | _, _ => mkOp .eqi (.op (.quoi k) x y) (.il 0)
    | o => mkOp .eqi (.op o x y) (.il 0)
  | t => mkOp .eqi t (.il 0)
def eqZ (pc : PC) (a b : Tm) : Tm :=
  match b with
  | .il n => match ieq n 0 with
    | true => quoZ pc a
    | false => cmpI .eqi true a (.il n)
  | b => cmpI .eqi true a b
/-- Less than the next number: at most this one. -/
def ltI (pc : PC) (a b : Tm) : Tm := match b with
  | .op o y (.il z) => match Nat.beq o.n (Opc.addi .i64).n, ieq z 1, ivl pc y with
    | true, true, some (l, h) => match inK .i64 l (h + 1) with
      | true => cmpI .lei true a y
      | false => cmpI .lti false a (.op o y (.il z))
    | _, _, _ => cmpI .lti false a (.op o y (.il z))
  | b => cmpI .lti false a b
/-- A number, without noughts that are added. -/
def strip0 : Tm → Tm
  | .op o x y => match Nat.beq o.n (Opc.addi .i64).n with
    | true => match x.beq (.il 0) with
      | true => strip0 y
      | false => match y.beq (.il 0) with
        | true => strip0 x
        | false => .op o x y
    | false => .op o x y
  | t => t
/-- A difference and what was taken away. -/
def cancT (pc : PC) (a b : Tm) : Option Tm := match a with
  | .op o x y => match Nat.beq o.n (Opc.subi .i64).n, y.beq b, ivl pc x with
    | true, true, some (l, h) => match inK .i64 l h with
      | true => some x
      | false => none
    | _, _, _ => none
  | _ => none
def addT (pc : PC) (k : IntKind) (a b : Tm) : Tm := match Nat.beq (ki k) (ki .i64) with
  | true => match cancT pc (strip0 a) (strip0 b) with
    | some x => x
    | none => match cancT pc (strip0 b) (strip0 a) with
      | some x => x
      | none => mkOp (.addi k) a b
  | false => mkOp (.addi k) a b
def intBin (m : Mm) (pc : PC) (op : BinOp) (k : IntKind) (a b : Tm) : Out Res :=
  match op with
  | .add => val m pc (.sc (.int k) (addT pc k a b))
  | .sub => val m pc (.sc (.int k) (mkOp (.subi k) a b))
  | .mul => val m pc (.sc (.int k) (mkOp (.muli k) a b))
  | .quo => fork pc (cmpI .eqi true b (.il 0)) (fun _ => .bad 10) (fun pc => val m pc (.sc (.int k) (mkOp (.quoi k) a b)))
  | .rem => fork pc (cmpI .eqi true b (.il 0)) (fun _ => .bad 11) (fun pc => val m pc (.sc (.int k) (mkOp (.remi k) a b)))
  | .and => val m pc (.sc (.int k) (mkOp (.andi k) a b))
  | .or => val m pc (.sc (.int k) (mkOp (.ori k) a b))
  | .xor => val m pc (.sc (.int k) (mkOp (.xori k) a b))
  | .andNot => val m pc (.sc (.int k) (mkOp (.andnoti k) a b))
  | .eql => val m pc (.sc .bool (eqZ pc a b))
  | .neq => val m pc (.sc .bool (mkNot (eqZ pc a b)))
  | .lss => val m pc (.sc .bool (ltI pc a b))
  | .leq => val m pc (.sc .bool (cmpI .lei true a b))
  | .gtr => val m pc (.sc .bool (ltI pc b a))
  | .geq => val m pc (.sc .bool (cmpI .lei true b a))
  | _ => .bad 12
def shiftBin (m : Mm) (pc : PC) (op : BinOp) (k : IntKind) (a b : Tm) : Out Res :=
  fork pc (cmpI .lti false b (.il 0)) (fun _ => .bad 13) (fun pc =>
    match op with
    | .shl => val m pc (.sc (.int k) (mkOp (.shl k) a b))
    | .shr => val m pc (.sc (.int k) (mkOp (.shr k) a b))
    | _ => .bad 14)
/-- Are two floats equal? Of one and the same: is it no NaN? -/
def mkFeq (k : FloatKind) (a b : Tm) : Tm :=
  match a.beq b with
  | true => mkNot (mkOp (.fnan k) a .nil)
  | false => mkOp (.feq k) a b
def floatBin (m : Mm) (pc : PC) (op : BinOp) (k : FloatKind) (a b : Tm) : Out Res :=
  match op with
  | .add => val m pc (.sc (.float k) (mkOp (.fadd k) a b))
  | .sub => val m pc (.sc (.float k) (mkOp (.fsub k) a b))
  | .mul => val m pc (.sc (.float k) (mkOp (.fmul k) a b))
  | .quo => val m pc (.sc (.float k) (mkOp (.fdiv k) a b))
  | .eql => val m pc (.sc .bool (mkFeq k a b))
  | .neq => val m pc (.sc .bool (mkNot (mkFeq k a b)))
  | .lss => val m pc (.sc .bool (mkOp (.flt k) a b))
  | .leq => val m pc (.sc .bool (mkOp (.fle k) a b))
  | .gtr => val m pc (.sc .bool (mkOp (.flt k) b a))
  | .geq => val m pc (.sc .bool (mkOp (.fle k) b a))
  | _ => .bad 15
def mkEqs (a b : Tm) : Tm := match a.beq b with | true => .bl true | false => mkOp .eqs a b
def strBin (m : Mm) (pc : PC) (op : BinOp) (a b : Tm) : Out Res :=
  match op with
  | .eql => val m pc (.sc .bool (mkEqs a b))
  | .neq => val m pc (.sc .bool (mkNot (mkEqs a b)))
  | .add => fork pc (mkOp .catok a b) (fun pc => val m pc (.sc .str (mkOp .cat a b))) (fun _ => .bad 16)
  | _ => .bad 17
def mkEqb (a b : Tm) : Tm :=
  match a.beq b with
  | true => .bl true
  | false => match b with
    | .bl true => a
    | .bl false => mkNot a
    | b => match a with
      | .bl true => b
      | .bl false => mkNot b
      | a => mkOp .eqb a b

def beqK (a b : SK) : Bool := Nat.beq a.n b.n

/-- Are two cells of one array equal? -/
def eqCell (P : Program) (t : TypeId) (x y : SV) : Option Tm :=
  match P.underlying t, x, y with
  | some .bool, .sc .bool a, .sc .bool b => some (mkEqb a b)
  | some (.int _), .sc (.int k) a, .sc (.int k') b => match Nat.beq (ki k) (ki k') with
    | true => some (cmpI .eqi true a b)
    | false => none
  | some (.float _), .sc (.float k) a, .sc (.float k') b => match Nat.beq (kf k) (kf k') with
    | true => some (mkFeq k a b)
    | false => none
  | _, _, _ => none
def eqCells (P : Program) (t : TypeId) : List SV → List SV → Option Tm
  | [], [] => some (.bl true)
  | x :: xs, y :: ys => match eqCell P t x y with
    | none => none
    | some a => match eqCells P t xs ys with
      | none => none
      | some b => some (mkIteB a b (.bl false))
  | _, _ => none
def eqArr (P : Program) (t : TypeId) (xs ys : List SV) : Option Tm :=
  match P.underlying t with
  | some (.array n e) => match Nat.beq xs.length n, szT P e, P.eqGuardType P.depth t with
    | true, some 1, false => eqCells P e xs ys
    | _, _, _ => none
  | _ => none

/-- Whether a slice is nil. -/
def isNilS : SV → Option Bool
  | .nils => some true
  | .sl _ _ _ => some false
  | .gs _ _ => some false
  | .os _ _ _ => some false
  | .og _ _ _ _ => some false
  | _ => none
/-- A slice against nil. -/
def nilEqS (P : Program) (m : Mm) (pc : PC) (op : BinOp) (t : TypeId) (x : SV) : Out Res :=
  match P.underlying t, isNilS x with
  | some (.slice _), some b => match op with
    | .eql => val m pc (.sc .bool (.bl b))
    | .neq => val m pc (.sc .bool (.bl (!b)))
    | _ => .bad 28
  | _, _ => .bad 27
def binS (P : Program) (m : Mm) (pc : PC) (op : BinOp) (t : TypeId) (x y : SV) : Out Res :=
  match x, y with
  | .sc (.int k) a, .sc (.int k') b => match op with
    | .shl => shiftBin m pc .shl k a b
    | .shr => shiftBin m pc .shr k a b
    | op => match Nat.beq (ki k) (ki k') with
      | true => intBin m pc op k a b
      | false => .bad 20
  | .sc (.float k) a, .sc (.float k') b => match Nat.beq (kf k) (kf k') with
    | true => floatBin m pc op k a b
    | false => .bad 21
  | .sc .str a, .sc .str b => strBin m pc op a b
  | .sc .bool a, .sc .bool b => match P.underlying t with
    | some .bool => match op with
      | .eql => val m pc (.sc .bool (mkEqb a b))
      | .neq => val m pc (.sc .bool (mkNot (mkEqb a b)))
      | _ => .bad 22
    | _ => .bad 23
  | .agg xs, .agg ys => match eqArr P t xs ys with
    | none => .bad 24
    | some q => match op with
      | .eql => val m pc (.sc .bool q)
      | .neq => val m pc (.sc .bool (mkNot q))
      | _ => .bad 25
  | x, .nils => nilEqS P m pc op t x
  | _, _ => .bad 26

def unS (m : Mm) (pc : PC) (op : UnOp) (x : SV) : Out Res :=
  match op, x with
  | .not, .sc .bool a => val m pc (.sc .bool (mkNot a))
  | .neg, .sc (.int k) a => val m pc (.sc (.int k) (mkOp (.subi k) (.il 0) a))
  | .neg, .sc (.float k) a => val m pc (.sc (.float k) (mkOp (.fneg k) a .nil))
  | _, _ => .bad 30

/-- Does every number of one float kind have its like in the other one? -/
def widens : FloatKind → FloatKind → Bool
  | .f64, .f32 => false
  | _, _ => true
def convS (P : Program) (m : Mm) (pc : PC) (src dst : TypeId) (x : SV) : Out Res :=
  match P.underlying src, P.underlying dst, x with
  | some _, some (.int k), .sc (.int _) a => val m pc (.sc (.int k) (wrapT pc k a))
  | some _, some (.float k), .sc (.int _) a => val m pc (.sc (.float k) (mkOp (.i2f k) a .nil))
  | some _, some (.int k), .sc (.float s) a => fork pc (mkOp (.f2iok s k) a .nil) (fun pc => val m pc (.sc (.int k) (mkOp (.f2i s) a .nil))) (fun _ => .bad 31)
  | some _, some (.float k), .sc (.float s) a => match Nat.beq (kf s) (kf k) with
    | true => val m pc (.sc (.float s) a)
    | false => match widens s k with
      | true => val m pc (.sc (.float k) (mkOp (.conv s k) a .nil))
      | false => fork pc (mkOp (.convok s k) a .nil) (fun pc => val m pc (.sc (.float k) (mkOp (.conv s k) a .nil))) (fun _ => .bad 32)
  | some _, some .string, .sc .str a => val m pc (.sc .str a)
  | _, _, _ => .bad 33

/-- A text out of bytes. -/
def strB : List SV → Option Tm
  | [] => some (.sl [])
  | .sc (.int .u8) t :: r => match strB r with
    | some u => match r with
      | [] => some (mkOp .byte t .nil)
      | _ => some (mkOp .cat (mkOp .byte t .nil) u)
    | none => none
  | _ => none
def bytesS (P : Program) (m : Mm) (pc : PC) (src dst : TypeId) (j o n : Nat) : Out Res :=
  match P.underlying src, P.underlying dst with
  | some (.slice e), some .string => match P.underlying e, find m.mem j with
    | some (.int .u8), some sb => match cut sb.cs o n with
      | some cs => match strB cs with
        | some t => val m pc (.sc .str t)
        | none => .bad 34
      | none => .bad 35
    | _, _ => .bad 36
  | _, _ => .bad 37

/-- The memory that a pointer or a slice names: block, first place, number of elements (of an array: given). -/
def idxBase (P : Program) (t : TypeId) (x : SV) : Option (Nat × Nat × Nat × TypeId) :=
  match P.underlying t, x with
  | some (.array n e), .ptr j o => some (j, o, n, e)
  | some (.slice e), .sl j o n => some (j, o, n, e)
  | some (.slice e), .gs j n => some (j, 0, n, e)
  | _, _ => none

def litNat : SV → Option Nat
  | .sc (.int _) (.il (.ofNat n)) => some n
  | _ => none
/-- A bound of a slice expression: given as a literal, or left out. -/
def bound (tm : Operand → SV) (x : Option Operand) (d : Nat) : Option Nat :=
  match x with
  | none => some d
  | some x => litNat (tm x)

def sliceS (P : Program) (m : Mm) (pc : PC) (t : TypeId) (x : SV) (lo hi : Option Nat) : Out Res :=
  match P.underlying t, x, lo, hi with
  | some (.array n e), .ptr j o, some l, some h => match szT P e, Nat.ble l h, Nat.ble h n, Nat.blt l n with
    | some s, true, true, true => val m pc (.sl j (o + l * s) (h - l))
    | _, _, _, _ => .bad 40
  | some (.slice e), .sl j o n, some l, some h => match szT P e, Nat.ble l h, Nat.ble h n, Nat.blt l n with
    | some s, true, true, true => val m pc (.sl j (o + l * s) (h - l))
    | _, _, _, _ => .bad 41
  | _, _, _, _ => .bad 42

/-- Cells laid over others from a place on. -/
def lay (cs : List SV) (o : Nat) (xs : List SV) : List SV := cs.take o ++ xs ++ cs.drop (o + xs.length)
/-- The same for the kernel. -/
def layK (cs : List SV) (o : Nat) (xs : List SV) : List SV :=
  List.rec (motive := fun _ => Nat → List SV → List SV) (fun _ xs => xs) (fun c r ih o xs => Nat.rec (motive := fun _ => List SV) (List.rec (motive := fun _ => List SV) (c :: r) (fun x xs' _ => x :: ih 0 xs') xs) (fun o' _ => c :: ih o' xs) o) cs o xs
theorem layK_eq : ∀ (cs : List SV) (o : Nat) (xs : List SV), layK cs o xs = lay cs o xs
  | [], o, xs => by
    show xs = _
    simp [lay]
  | c :: r, 0, [] => by
    show c :: r = _
    simp [lay]
  | c :: r, 0, x :: xs => by
    show x :: layK r 0 xs = _
    rw [layK_eq r 0 xs]
    simp [lay]
  | c :: r, o + 1, xs => by
    show c :: layK r o xs = _
    rw [layK_eq r o xs]
    simp [lay, Nat.add_right_comm o 1]
def fillS (size : Nat → Option (Nat × Nat)) : List SV → List (Nat × SV) → Option (List SV)
  | cs, [] => some cs
  | cs, (i, v) :: r => match size i, v.cells with
    | some (o, n), some xs => match Nat.beq xs.length n, Nat.ble (o + xs.length) cs.length with
      | true, true => fillS size (lay cs o xs) r
      | _, _ => none
    | _, _ => none
def fieldPlaces (P : Program) : List Field → Option (List (Nat × Nat))
  | [] => some []
  | f :: r => match szT P f.type, fieldPlaces P r with
    | some n, some x => some ((f.offset, n) :: x)
    | _, _ => none
def rep (n : Nat) (cs : List SV) : List SV :=
  match n with
  | 0 => []
  | n + 1 => cs ++ rep n cs

/-! One operation that calls nothing and writes to no old memory -/
def oPick (m : Mm) (pc : PC) (c a b : SV) : Out Res :=
  match c with
    | .sc .bool t => match decB pc t with
      | some true => val m pc (a)
      | some false => val m pc (b)
      | none => match a, b with
        | .sc .bool x, .sc .bool y => val m pc (.sc .bool (mkIteB t x y))
        | x, y => .br t (val m (addF pc t true) x) (val m (addF pc t false) y)
    | _ => .bad 50
def oAlloc (P : Program) (m : Mm) (pc : PC) (e : TypeId) : Out Res :=
  match zeroT P e with
    | some z => match z.cells with
      | some cs => newB m pc cs (fun j => .ptr j 0)
      | none => .bad 51
    | none => .bad 52
def oBox (m : Mm) (pc : PC) (v : SV) : Out Res :=
  match v.cells with
    | some cs => newB m pc cs (fun j => .ptr j 0)
    | none => .bad 53
def oBuild (P : Program) (m : Mm) (pc : PC) (ev : Operand → SV) (t : TypeId) (ps : Array (Nat × Operand)) : Out Res :=
  match zeroT P t with
    | some z => match z.cells, P.underlying t with
      | some cs, some (.struct fs) => match fieldPlaces P fs.toList with
        | some pl => match fillS (nth? pl) cs (ps.toList.map fun p => (p.1, ev p.2)) with
          | some cs => val m pc (.agg cs)
          | none => .bad 54
        | none => .bad 55
      | some cs, some (.array _ e) => match szT P e with
        | some s => match fillS (fun i => some (i * s, s)) cs (ps.toList.map fun p => (p.1, ev p.2)) with
          | some cs => val m pc (.agg cs)
          | none => .bad 56
        | none => .bad 57
      | _, _ => .bad 58
    | none => .bad 59
def oBuildSlice (P : Program) (m : Mm) (pc : PC) (ev : Operand → SV) (t : TypeId) (n : Nat) (ps : Array (Nat × Operand)) : Out Res :=
  match P.underlying t with
    | some (.slice e) => match szT P e, zeroT P e with
      | some s, some z => match z.cells with
        | some zs => match fillS (fun i => some (i * s, s)) (rep n zs) (ps.toList.map fun p => (p.1, ev p.2)), Nat.beq zs.length s, Nat.ble (n * s) 1000, Nat.beq s 0 with
          | some cs, true, true, false => match n with
            | 0 => newE m pc e s cs
            | n + 1 => newB m pc cs (fun j => .sl j 0 (n + 1))
          | _, _, _, _ => .bad 60
        | none => .bad 61
      | _, _ => .bad 62
    | _ => .bad 63
def oMakeSlice (P : Program) (m : Mm) (pc : PC) (t : TypeId) (l c : SV) : Out Res :=
  match P.underlying t, litNat l, litNat c with
    | some (.slice e), some n, some n' => match Nat.beq n n', P.info? e with
      | true, some i => match i.zero with
        | some z => match (ofVal z).cells with
          | some zs => match Nat.beq zs.length i.size, Nat.ble (n * (i.bytes + i.size + 1)) 1000000, Nat.beq i.size 0 with
            | true, true, false => newB m pc (rep n zs) (fun j => .sl j 0 n)
            | _, _, _ => .bad 88
          | none => .bad 89
        | none => .bad 90
      | _, _ => .bad 91
    | _, _, _ => .bad 92
/-- A cell of a row of an open list. -/
def cellT (t i : Tm) (len q : Nat) : Tm := .op .cell t (.cons i (.cons (.il (.ofNat len)) (.cons (.il (.ofNat q)) .nil)))
def rowCells (ks : List SK) (t i : Tm) (len : Nat) : (o n : Nat) → Option (List SV)
  | _, 0 => some []
  | o, n + 1 => match nth? ks o, rowCells ks t i len (o + 1) n with
    | some k, some l => some (.sc k (cellT t i len o) :: l)
    | _, _ => none
/-- A variable of a type, out of a row of an open list. -/
def rowPart (P : Program) (ty : TypeId) (ks : List SK) (t i : Tm) (o : Nat) : Option SV :=
  match aggT P ty with
  | some true => match szT P ty with
    | some n => match rowCells ks t i ks.length o n with
      | some l => some (.agg l)
      | none => none
    | none => none
  | some false => match nth? ks o with
    | some k => some (.sc k (cellT t i ks.length o))
    | none => none
  | none => none
/-- The address of an element of an open list. -/
def rowAddr (P : Program) (m : Mm) (pc : PC) (e : TypeId) (j : Nat) (ks : List SK) (n t i : Tm) : Out Res :=
  match szT P e with
  | some s => match Nat.beq s ks.length with
    | true => match prove true 60 pc (.op .lti i n) with
      | true => match prove true 60 pc (.op .lei (.il 0) i) with
        | true => val m pc (.rp j ks t i 0)
        | false => .bad 97
      | false => .bad 98
    | false => .bad 95
  | none => .bad 96
def oLoad (P : Program) (m : Mm) (pc : PC) (t : TypeId) (a : SV) : Out Res :=
  match a with
    | .rp j ks t' i o => match find m.mem j with
      | some _ => match rowPart P t ks t' i o with
        | some v => val m pc v
        | none => .bad 93
      | none => .bad 94
    | .ptr j o => match find m.mem j with
      | some sb => match partS P t sb.cs o with
        | some v => val m pc v
        | none => .bad 64
      | none => .bad 65
    | _ => .bad 66
def oNil (m : Mm) (pc : PC) (x : SV) : Out Res :=
  match x with
    | .ptr j o => val m pc (.ptr j o)
    | .fn (.func f) a c => val m pc (.fn (.func f) a c)
    | .rp j ks t i o => val m pc (.rp j ks t i o)
    | _ => .bad 67
def oConv (P : Program) (m : Mm) (pc : PC) (s d : TypeId) (x : SV) : Out Res :=
  match x with
    | .sl j o n => bytesS P m pc s d j o n
    | v => convS P m pc s d v
def oSlice (P : Program) (m : Mm) (pc : PC) (ev : Operand → SV) (t : TypeId) (x : Operand) (lo hi mx : Option Operand) : Out Res :=
  match mx with
    | none => match idxBase P t (ev x) with
      | some (_, _, n, _) => sliceS P m pc t (ev x) (bound ev lo 0) (bound ev hi n)
      | none => .bad 68
    | some _ => .bad 69
def oFieldAddr (P : Program) (m : Mm) (pc : PC) (t : TypeId) (x : SV) (f : Nat) : Out Res :=
  match P.underlying t, x with
    | some (.struct fs), .ptr j o => match nth? fs.toList f with
      | some fd => match szT P fd.type with
        | some (_ + 1) => val m pc (.ptr j (o + fd.offset))
        | _ => .bad 70
      | none => .bad 71
    | some (.struct fs), .rp j ks t' i o => match nth? fs.toList f with
      | some fd => match szT P fd.type with
        | some (_ + 1) => val m pc (.rp j ks t' i (o + fd.offset))
        | _ => .bad 75
      | none => .bad 76
    | _, _ => .bad 72
def oField (P : Program) (m : Mm) (pc : PC) (t : TypeId) (x : SV) (f : Nat) : Out Res :=
  match P.underlying t, x with
    | some (.struct fs), .agg cs => match nth? fs.toList f with
      | some fd => match partS P fd.type cs fd.offset with
        | some v => val m pc v
        | none => .bad 73
      | none => .bad 74
    | _, _ => .bad 75
def oIndexAddr (P : Program) (m : Mm) (pc : PC) (t : TypeId) (x ix : SV) : Out Res :=
  match P.underlying t, x, ix.int? with
    | some (.slice e), .og j ks n t', some (_, i) => rowAddr P m pc e j ks n t' i
    | some (.array n e), .rp j ks t' i' o, some (_, i) => match szT P e with
      | some s => idx n (fun pc i => val m pc (.rp j ks t' i' (o + i * s))) 6 pc i
      | none => .bad 99
    | _, x, _ => match idxBase P t x, ix.int? with
      | some (j, o, n, e), some (_, i) => match szT P e with
        | some s => idx n (fun pc i => val m pc (.ptr j (o + i * s))) 6 pc i
        | none => .bad 76
      | _, _ => .bad 77
def oIndex (P : Program) (m : Mm) (pc : PC) (t : TypeId) (x ix : SV) : Out Res :=
  match P.underlying t, x, ix.int? with
    | some (.array n e), .agg cs, some (_, i) => match szT P e with
      | some s => idx n (fun pc i => match partS P e cs (i * s) with
        | some v => val m pc v
        | none => .bad 78) 6 pc i
      | none => .bad 79
    | some .string, .sc .str a, some (_, i) =>
      fork pc (cmpI .lei true (.il 0) i) (fun pc => fork pc (cmpI .lti false i (mkOp .lens a .nil)) (fun pc => val m pc (.sc (.int .u8) (mkOp .ats a i))) (fun _ => .bad 80)) (fun _ => .bad 81)
    | _, _, _ => .bad 82
def oExtract (m : Mm) (pc : PC) (x : SV) (i : Nat) : Out Res :=
  match x with
    | .tup vs => match nth? vs i with
      | some v => val m pc v
      | none => .bad 83
    | _ => .bad 84
def oCall (P : Program) (m : Mm) (pc : PC) (ev : Operand → SV) (c : Call) : Out Res :=
  match c.callee, c.args.toList, c.argTypes.toList with
    | .builtin .len, [x], [t] => match P.underlying t, ev x with
      | some .string, .sc .str a => val m pc (.sc (.int .i64) (mkOp .lens a .nil))
      | some (.array n _), _ => val m pc (.sc (.int .i64) (.il n))
      | some (.slice _), .sl _ _ n => val m pc (.sc (.int .i64) (.il n))
      | some (.slice _), .gs _ n => val m pc (.sc (.int .i64) (.il n))
      | some (.slice _), .os _ n _ => val m pc (.sc (.int .i64) n)
      | some (.slice _), .og _ _ n _ => val m pc (.sc (.int .i64) n)
      | some (.slice _), .nils => val m pc (.sc (.int .i64) (.il 0))
      | _, _ => .bad 85
    | .builtin .min, [x, y], _ => match ev x, ev y with
      | .sc (.int k) a, .sc (.int _) b => val m pc (.sc (.int k) (mkIte (cmpI .lti false b a) b a))
      | _, _ => .bad 86
    | _, _, _ => .bad 87
/-- One operation that calls nothing and writes to no old memory. -/
def opx (P : Program) (m : Mm) (pc : PC) (ev : Operand → SV) : Op → Out Res
  | .move x => val m pc (ev x)
  | .assign x => val m pc (ev x)
  | .pick c a b => oPick m pc (ev c) (ev a) (ev b)
  | .alloc e => oAlloc P m pc e
  | .box _ v => oBox m pc (ev v)
  | .build t ps => oBuild P m pc ev t ps
  | .buildSlice t n ps => oBuildSlice P m pc ev t n ps
  | .makeSlice t l c => oMakeSlice P m pc t (ev l) (ev c)
  | .load t a => oLoad P m pc t (ev a)
  | .nilCheck x => oNil m pc (ev x)
  | .binOp op t x y _ => binS P m pc op t (ev x) (ev y)
  | .unOp op _ x => unS m pc op (ev x)
  | .convert s d x => oConv P m pc s d (ev x)
  | .makeFunc f a c => val m pc (.fn f (a.toList.map ev) (c.toList.map ev))
  | .slice t x lo hi mx => oSlice P m pc ev t x lo hi mx
  | .fieldAddr t x f => oFieldAddr P m pc t (ev x) f
  | .field t x f => oField P m pc t (ev x) f
  | .indexAddr t x ix => oIndexAddr P m pc t (ev x) (ev ix)
  | .index t x ix => oIndex P m pc t (ev x) (ev ix)
  | .extract x i => oExtract m pc (ev x) i
  | .call c => oCall P m pc ev c
  | _ => .bad 99

end Go.Sx
