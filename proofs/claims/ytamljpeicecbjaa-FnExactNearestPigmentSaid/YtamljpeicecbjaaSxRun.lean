/- The symbolic executor: regions, calls, code. No condition. -/
import Derived.Test.YtamljpeicecbjaaSxOp
set_option linter.unusedVariables false
set_option linter.unusedSimpArgs false
namespace Go.Sx
open Go Go.RowKit

/-- A state of a function: its slots, the blocks that it has made, those that it may only read, the names that are free (its own from 'lo' on), and what is known on this way. -/
structure St where
  tm : List SV
  own : Mem
  ro : Mem
  lo : Nat
  nxt : Nat
  lim : Nat
  sz : Nat
  pc : PC
def St.mm (σ : St) : Mm := ⟨σ.own ++ σ.ro, σ.nxt, σ.lim, σ.sz⟩

/-- How calls are run: those that write to no old memory; and those that may write to their caller's. -/
structure Hnd where
  h : Nat → List SV → Mm → PC → Out Res
  fx : Nat → Bool
  fr : Nat → List SV → St → Out (SV × St)

def callArgs : SV → List SV → Option (Nat × List SV)
  | .fn (.func f) a c, args => some (f, a ++ (args ++ c))
  | _, _ => none
def isCall : Op → Option (Operand × List Operand)
  | .call c => match c.callee with
    | .value f => some (f, c.args.toList)
    | _ => none
  | _ => none
/-- Functions without a body for which the model stands in: which one? -/
def extN (n : String) : Nat :=
  if n == "math.Float64bits" then 1 else if n == "math.Float32bits" then 2 else if n == "math.sqrt" then 3 else if n == "math.archFloor" then 4 else 0
def extK (P : Program) (g : Nat) : Nat :=
  match P.funcs[g]? with
  | some fn => match fn.body with
    | none => match fn.origin == "" with
      | true => extN fn.name
      | false => 0
    | some _ => 0
  | none => 0
def extS (k : Nat) (args : List SV) (m : Mm) (pc : PC) : Out Res :=
  match args with
  | [.sc (.float .f64) t] => match k with
    | 1 => fork pc (mkOp (.fnan .f64) t .nil) (fun _ => .bad 310) (fun pc => val m pc (.sc (.int .u64) (mkOp (.fbits .f64) t .nil)))
    | 3 => val m pc (.sc (.float .f64) (mkOp .fsqrt t .nil))
    | 4 => fork pc (mkOp (.fnan .f64) t .nil) (fun _ => .bad 315) (fun pc => val m pc (.sc (.float .f64) (mkOp .ffloor t .nil)))
    | _ => .bad 311
  | [.sc (.float .f32) t] => match k with
    | 2 => fork pc (mkOp (.fnan .f32) t .nil) (fun _ => .bad 312) (fun pc => val m pc (.sc (.int .u32) (mkOp (.fbits .f32) t .nil)))
    | _ => .bad 313
  | _ => .bad 314
/-- One operation that writes to no old memory. -/
def opP (H : Hnd) (P : Program) (m : Mm) (pc : PC) (ev : Operand → SV) (o : Op) : Out Res :=
  match isCall o with
  | some (f, args) => match callArgs (ev f) (args.map ev) with
    | some (g, as) => match extK P g with
      | 0 => H.h g as m pc
      | k + 1 => extS (k + 1) as m pc
    | none => .bad 100
  | none => opx P m pc ev o

def putT (tm : List SV) (d : Option Tmp) (v : SV) : List SV :=
  match d with
  | none => tm
  | some d => tm.set d v
def undefS : SV := .tup []

def setB (mem : Mem) (j : Nat) (sb : SB) : Mem :=
  match mem with
  | [] => []
  | (i, x) :: r => match Nat.beq i j with
    | true => (i, sb) :: setB r j sb
    | false => (i, x) :: setB r j sb
def dropB (mem : Mem) (j : Nat) : Mem :=
  match mem with
  | [] => []
  | (i, x) :: r => match Nat.beq i j with
    | true => dropB r j
    | false => (i, x) :: dropB r j

/-- A store into memory of the call's own. -/
def storeS (P : Program) (σ : St) (d : Option Tmp) (t : TypeId) (a v : SV) : Out St :=
  match a with
  | .ptr j o => match find σ.own j with
    | some sb => match v.cells, szT P t with
      | some xs, some n => match Nat.beq xs.length n, Nat.ble (o + n) sb.cs.length, Nat.blt 0 n with
        | true, true, true => .ret { σ with tm := putT σ.tm d undefS, own := setB σ.own j ⟨lay sb.cs o xs, sb.row⟩ }
        | _, _, _ => .bad 110
      | _, _ => .bad 111
    | _ => .bad 112
  | _ => .bad 113

/-- The cells behind a slice. -/
def sliceCells (mem : Mem) (size : Nat) : SV → Option (Nat × List SV)
  | .sl j o n => match find mem j with
    | some sb => match cut sb.cs o (n * size) with
      | some cs => some (n, cs)
      | none => none
    | none => none
  | .gs j n => match find mem j with
    | some sb => match cut sb.cs 0 (n * size) with
      | some cs => some (n, cs)
      | none => none
    | none => none
  | _ => none

/-- append to a slice that the call itself has made by append alone. -/
def appendS (P : Program) (σ : St) (d : Option Tmp) (t : TypeId) (s x : SV) : Out St :=
  match P.underlying t with
  | some (.slice e) => match P.info? e with
    | some i => match i.zero with
      | some z => match Nat.beq (z.cells.size) i.size, Nat.blt 0 i.size, sliceCells (σ.own ++ σ.ro) i.size x, Nat.blt σ.nxt σ.lim with
        | true, true, some (n, cs), true => match s with
          | .nils => match Nat.ble (n * (i.bytes + 1)) 1000000, n with
            | true, 0 => .ret { σ with tm := putT σ.tm d .nils }
            | true, n => .ret { σ with tm := putT σ.tm d (.gs σ.nxt n), own := (σ.nxt, ⟨cs, some (e, i.size, n)⟩) :: σ.own, nxt := σ.nxt + 1 }
            | _, _ => .bad 120
          | .gs j k => match find σ.own j with
            | some sb => match sb.row with
              | some (e', sz', k') => match Nat.beq e e', Nat.beq i.size sz', Nat.beq k k', Nat.ble ((k + n) * (i.bytes + 1)) 1000000 with
                | true, true, true, true => .ret { σ with tm := putT σ.tm d (.gs σ.nxt (k + n)), own := (σ.nxt, ⟨sb.cs ++ cs, some (e, i.size, k + n)⟩) :: dropB σ.own j, nxt := σ.nxt + 1 }
                | _, _, _, _ => .bad 121
              | none => .bad 122
            | _ => .bad 123
          | _ => .bad 124
        | _, _, _, _ => .bad 125
      | none => .bad 126
    | none => .bad 127
  | _ => .bad 128

/-- An operation that may write to memory of the call's own. -/
def eff (H : Hnd) (P : Program) (σ : St) (o : Oper) : Option (Out St) :=
  match o.op with
  | .store t a v => some (storeS P σ o.dst t (evalO σ.tm a) (evalO σ.tm v))
  | .call c => match c.callee, c.args.toList, c.argTypes.toList with
    | .builtin .append, [s, x], [t, u] => match Nat.beq t u with
      | true => some (appendS P σ o.dst t (evalO σ.tm s) (evalO σ.tm x))
      | false => some (.bad 130)
    | .value (.func g), as, _ => match H.fx g with
      | true => some ((H.fr g (as.map (evalO σ.tm)) σ).bind fun r => .ret { σ with tm := putT σ.tm o.dst r.1, own := r.2.own, nxt := r.2.nxt, pc := r.2.pc })
      | false => none
    | _, _, _ => none
  | _ => none
def isEff (fx : Nat → Bool) (o : Oper) : Bool :=
  match o.op with
  | .store _ _ _ => true
  | .call c => match c.callee with
    | .builtin .append => true
    | .value (.func g) => fx g
    | _ => false
  | _ => false

def afterR (σ : St) (d : Option Tmp) (r : Res) : St := { σ with tm := putT σ.tm d r.v, own := r.nb ++ σ.own, nxt := r.nxt, pc := r.pc }
def stepO (H : Hnd) (P : Program) (σ : St) (o : Oper) : Out St :=
  match eff H P σ o with
  | some r => r
  | none => (opP H P σ.mm σ.pc (evalO σ.tm) o.op).bind fun r => .ret (afterR σ o.dst r)

def dstOf (ops : List Oper) (j : Nat) : Option Tmp :=
  match nth? ops j with
  | some o => o.dst
  | none => none

/-- An operation under its guard: what the guard's own slot holds decides. -/
def guarded {α : Type} (pc : PC) (g : Option (Nat × Bool)) (look : Nat → Option SV) (run skip : PC → Out α) : Out α :=
  match g with
  | none => run pc
  | some (j, want) => match look j with
    | some (.sc .bool t) => match want with
      | true => fork pc t run skip
      | false => fork pc t skip run
    | some (.tup []) => skip pc
    | _ => .bad 140

def stepG (H : Hnd) (P : Program) (ops : List Oper) (σ : St) (o : Oper) : Out St :=
  guarded σ.pc o.guard (fun j => match dstOf ops j with | some d => σ.tm[d]? | none => none)
    (fun pc => stepO H P { σ with pc := pc } o) (fun pc => .ret { σ with tm := putT σ.tm o.dst undefS, pc := pc })

def seqOps (H : Hnd) (P : Program) (ops : List Oper) : List Oper → St → Out St
  | [], σ => .ret σ
  | o :: r, σ => (stepG H P ops σ o).bind fun σ => seqOps H P ops r σ

/-! A region in whatever order its edges allow -/
def bindsAny (e : Edge) : Bool := Region.binds .any e
/-- For each operation the set of those that must come first, as the bits of a number. -/
def ancOf (as : List Nat) : List Edge → Nat
  | [] => 0
  | e :: r => match bindsAny e with
    | true => (ancOf as r ||| (2 ^ e.on)) ||| (nth? as e.on).getD 0
    | false => ancOf as r
def ancs : List Oper → List Nat → List Nat
  | [], as => as
  | o :: r, as => ancs r (as ++ [ancOf as o.after.toList])

structure DR where
  dst : Option Tmp
  v : SV
  nb : Mem

/-- The one operation that writes a slot: its place. -/
def writer : List Oper → Tmp → Nat → Option Nat
  | [], _, _ => none
  | o :: r, t, i => match o.dst with
    | some d => match Nat.beq d t with
      | true => some i
      | false => writer r t (i + 1)
    | none => writer r t (i + 1)
def evD (ops : List Oper) (as : List Nat) (tm : List SV) (done : List DR) (i : Nat) : Operand → SV
  | .tmp t => match nth? tm t with
    | none => .un
    | some s => match writer ops t 0 with
      | none => s
      | some j => match Nat.testBit ((nth? as i).getD 0) j with
        | true => match nth? done j with
          | some d => d.v
          | none => .un
        | false => match Nat.testBit ((nth? as j).getD 0) i || Nat.beq i j with
          | true => s
          | false => .un
  | .const v => ofVal v
  | .global _ => .un
  | .func f => .fn (.func f) [] []
/-- The blocks that those have made which must come first. -/
def memD (a : Nat) : List DR → (i : Nat) → Mem → Mem
  | [], _, mem => mem
  | d :: r, i, mem => match Nat.testBit a i with
    | true => memD a r (i + 1) (d.nb ++ mem)
    | false => memD a r (i + 1) mem

def drawOps (H : Hnd) (P : Program) (ops : List Oper) (as : List Nat) (m : Mm) (tm : List SV) : List Oper → (i : Nat) → List DR → PC → Out (List DR × PC)
  | [], _, done, pc => .ret (done, pc)
  | o :: r, i, done, pc =>
    (guarded pc o.guard (fun j => match dstOf ops j with | some d => (match Nat.testBit ((nth? as i).getD 0) j with | true => some (evD ops as tm done i (.tmp d)) | false => none) | none => none)
      (fun pc => (opP H P ⟨memD ((nth? as i).getD 0) done 0 m.mem, m.nxt + i * m.sz, m.nxt + i * m.sz + m.sz, m.sz / 65536⟩ pc (evD ops as tm done i) o.op).bind fun r => .ret (⟨o.dst, r.v, r.nb⟩, r.pc))
      (fun pc => .ret (⟨o.dst, undefS, []⟩, pc))).bind fun x => drawOps H P ops as m tm r (i + 1) (done ++ [x.1]) x.2

def putAll (tm : List SV) : List DR → List SV
  | [] => tm
  | d :: r => putAll (putT tm d.dst d.v) r
def memAll (mem : Mem) : List DR → Mem
  | [] => mem
  | d :: r => memAll (d.nb ++ mem) r

def sinkAt (fx : Nat → Bool) : List Oper → Nat
  | [] => 0
  | o :: r => match isEff fx o with
    | true => 0
    | false => sinkAt fx r + 1
/-- Behind place k every operation waits for all before it. -/
def sinksOk (as : List Nat) : (i n : Nat) → Bool
  | _, 0 => true
  | i, n + 1 => match Nat.beq (((nth? as i).getD 0) % 2 ^ i) (2 ^ i - 1) with
    | true => sinksOk as (i + 1) n
    | false => false
/-- An operation that takes a part of what a slot holds: the slot. -/
def looseX (o : Oper) : Option (Tmp × Tmp) :=
  match o.guard, o.dst, o.op with
  | none, some d, .extract (.tmp t) _ => some (d, t)
  | _, _, _ => none
def readsT (x : Operand) (d : Tmp) : Bool :=
  match x with
  | .tmp t => Nat.beq t d
  | _ => false
/-- A store that doesn't read slot d. -/
def storeFree (o : Oper) (d : Tmp) : Bool :=
  match o.guard, o.dst, o.op with
  | none, none, .store _ a v => match readsT a d, readsT v d with
    | false, false => true
    | _, _ => false
  | _, _, _ => false
def looseAt (ops : List Oper) (q : Nat) : Option (Tmp × Tmp) :=
  match nth? ops q with
  | some o => looseX o
  | none => none
/-- Those from before place n that are not among 'a' take parts, into slots that neither the store s nor the others read. -/
def looseAll (ops : List Oper) (a : Nat) (f : Tmp × Tmp → Bool) : Nat → Bool
  | 0 => true
  | n + 1 => match Nat.testBit a n with
    | true => looseAll ops a f n
    | false => match looseAt ops n with
      | some x => match f x with
        | true => looseAll ops a f n
        | false => false
      | none => false
def looseOk (ops : List Oper) (as : List Nat) (k : Nat) : Bool :=
  match nth? ops k with
  | some s => looseAll ops ((nth? as k).getD 0) (fun x => match storeFree s x.1 with
    | true => looseAll ops ((nth? as k).getD 0) (fun y => !(Nat.beq y.2 x.1)) k
    | false => false) k
  | none => false
def sinksL (ops : List Oper) (as : List Nat) (k n : Nat) : Bool :=
  match sinksOk as k n with
  | true => true
  | false => match n with
    | 0 => false
    | n + 1 => match sinksOk as (k + 1) n with
      | true => looseOk ops as k
      | false => false
def noDup : List Oper → Bool
  | [] => true
  | o :: r => match o.dst with
    | none => noDup r
    | some d => match writer r d 0 with
      | none => noDup r
      | some _ => false
def edgesOk : List Oper → (i : Nat) → Bool
  | [], _ => true
  | o :: r, i => match o.after.toList.all (fun e => !bindsAny e || Nat.blt e.on i) with
    | true => edgesOk r (i + 1)
    | false => false

def region (H : Hnd) (P : Program) (ops : List Oper) (draw : Bool) (σ : St) : Out St :=
  match draw with
  | false => seqOps H P ops ops σ
  | true =>
    match edgesOk ops 0, noDup ops, sinksL ops (ancs ops []) (sinkAt H.fx ops) (ops.length - sinkAt H.fx ops), Nat.ble (σ.nxt + sinkAt H.fx ops * σ.sz) σ.lim with
    | true, true, true, true =>
      (drawOps H P ops (ancs ops []) σ.mm σ.tm (ops.take (sinkAt H.fx ops)) 0 [] σ.pc).bind fun x =>
        seqOps H P ops (ops.drop (sinkAt H.fx ops)) { σ with tm := putAll σ.tm x.1, own := memAll σ.own x.1, nxt := σ.nxt + sinkAt H.fx ops * σ.sz, pc := x.2 }
    | false, _, _, _ => .bad 150
    | _, false, _, _ => .bad 151
    | _, _, false, _ => .bad 152
    | _, _, _, _ => .bad 153

/-! Calls -/
def resultsS (P : Program) (σ : St) : List ResultVar → Option (List SV)
  | [] => some []
  | .tmp t :: r => match resultsS P σ r with
    | some x => some (σ.tm.getD t .un :: x)
    | none => none
  | .cell a t :: r => match σ.tm.getD a .un with
    | .ptr j o => match find (σ.own ++ σ.ro) j with
      | some sb => match partS P t sb.cs o, resultsS P σ r with
        | some v, some x => some (v :: x)
        | _, _ => none
      | none => none
    | _ => none
def oneOr : List SV → SV
  | [v] => v
  | vs => .tup vs
inductive Ex where
  | normal | exit (id : Nat) | ret

def ending (P : Program) (fn : Func) (m : Mm) (x : Ex × St) : Out Res :=
  match x.1 with
  | .exit _ => .bad 160
  | _ => match resultsS P x.2 fn.results.toList with
    | some vs => match SV.flat (oneOr vs) with
      | true => .ret ⟨oneOr vs, [], m.nxt, x.2.pc⟩
      | false => match Nat.ble x.2.nxt m.lim with
        | true => .ret ⟨oneOr vs, x.2.own, x.2.nxt, x.2.pc⟩
        | false => .bad 162
    | none => .bad 161

/-- One of two terms of one kind by a bool. -/
def iteK (k : SK) (c a b : Tm) : Tm :=
  match k with
  | .bool => mkIteB c a b
  | _ => mkIte c a b
def mergeS : Out Res → Option (SK × Tm)
  | .ret r => match r.v with
    | .sc k t => some (k, t)
    | _ => none
  | .br c x y => match mergeS x with
    | none => none
    | some (k, a) => match mergeS y with
      | none => none
      | some (k', b) => match Nat.beq k.n k'.n with
        | true => some (k, iteK k c a b)
        | false => none
  | .bad _ => none
/-- All ways give true. -/
def allTrue : Out Res → Bool
  | .ret r => match r.v with
    | .sc .bool t => prove true 60 r.pc t
    | _ => false
  | .br _ x y => match allTrue x with
    | true => allTrue y
    | false => false
  | .bad _ => false
/-- The name of a term that is defined among what is known. -/
def lookN : PC → Tm → Option Nat
  | [], _ => none
  | (f, v) :: r, t => match f with
    | .op o (.var n) u => match v, Nat.beq o.n 10 with
      | true, true => match u.beq t with
        | true => some n
        | false => lookN r t
      | _, _ => lookN r t
    | _ => lookN r t
def nameT (pc : PC) (t : Tm) : Tm :=
  match t with
  | .ite c a b => match lookN pc (.ite c a b) with
    | some n => .var n
    | none => .ite c a b
  | t => t
def nameC (pc : PC) : SV → SV
  | .sc k t => .sc k (nameT pc t)
  | s => s
def nameV (pc : PC) : SV → SV
  | .sc k t => .sc k (nameT pc t)
  | .agg cs => .agg (cs.map (nameC pc))
  | .tup cs => .tup (cs.map (nameC pc))
  | s => s
def nameB (pc : PC) : Mem → Mem
  | [] => []
  | (j, sb) :: r => (j, ⟨sb.cs.map (nameC pc), sb.row⟩) :: nameB pc r
def nameSt (σ : St) : St := { σ with tm := σ.tm.map (nameV σ.pc), own := nameB σ.pc σ.own }
def merged (m : Mm) (pc : PC) (o : Out Res) : Out Res :=
  match o with
  | .br c x y => match mergeS (.br c x y) with
    | some (k, t) => val m pc (.sc k (nameT pc t))
    | none => .br c x y
  | o => o

abbrev Sum := List SV → Mm → PC → Out Res
/-- What is known beforehand: contracts of functions; the functions that may write to their caller's memory; contracts of loops. -/
structure Ctx where
  sum : Nat → Option Sum
  fx : Nat → Bool := fun _ => false
  cc : Code → Option (St → Out (Ex × St)) := fun _ => none

def callH (run : Code → St → Out (Ex × St)) (ctx : Ctx) (P : Program) : Nat → List SV → Mm → PC → Out Res := fun f args m pc =>
  match ctx.sum f with
  | some S => S args m pc
  | none => match P.funcs[f]? with
    | none => .bad 170
    | some fn => match fn.body with
      | none => .bad 171
      | some c => merged m pc ((run c ⟨args ++ List.replicate (fn.ntmps - args.length) undefS, [], m.mem, m.nxt, m.nxt, m.lim, m.sz, pc⟩).bind (ending P fn m))
/-- A call in its caller's own memory. -/
def callF (run : Code → St → Out (Ex × St)) (P : Program) : Nat → List SV → St → Out (SV × St) := fun f args σ =>
  match P.funcs[f]? with
  | none => .bad 172
  | some fn => match fn.body with
    | none => .bad 173
    | some c => (run c { σ with tm := args ++ List.replicate (fn.ntmps - args.length) undefS }).bind fun x => match x.1 with
      | .exit _ => .bad 174
      | _ => match resultsS P x.2 fn.results.toList with
        | some vs => match Nat.beq x.2.lim σ.lim with
          | true => .ret (oneOr vs, x.2)
          | false => .bad 176
        | none => .bad 175
def callWith (run : Code → St → Out (Ex × St)) (ctx : Ctx) (P : Program) : Hnd := ⟨callH run ctx P, ctx.fx, callF run P⟩

/-! Ways that meet again -/
mutual
def SV.beq : SV → SV → Bool
  | .un, .un => true
  | .sc k t, .sc k' t' => match beqK k k' with | true => t.beq t' | false => false
  | .ptr j o, .ptr j' o' => match Nat.beq j j' with | true => Nat.beq o o' | false => false
  | .nilp, .nilp => true
  | .sl j o n, .sl j' o' n' => match Nat.beq j j', Nat.beq o o' with | true, true => Nat.beq n n' | _, _ => false
  | .nils, .nils => true
  | .gs j n, .gs j' n' => match Nat.beq j j' with | true => Nat.beq n n' | false => false
  | .os j n t, .os j' n' t' => match Nat.beq j j', n.beq n' with | true, true => t.beq t' | _, _ => false
  | .fn f a c, .fn f' a' c' => match f, f' with
    | .func g, .func g' => match Nat.beq g g', SV.beqs a a' with | true, true => SV.beqs c c' | _, _ => false
    | _, _ => false
  | .nilf, .nilf => true
  | .nili, .nili => true
  | .agg cs, .agg cs' => SV.beqs cs cs'
  | .tup cs, .tup cs' => SV.beqs cs cs'
  | _, _ => false
def SV.beqs : List SV → List SV → Bool
  | [], [] => true
  | a :: x, b :: y => match SV.beq a b with | true => SV.beqs x y | false => false
  | _, _ => false
end
/-- One of two cells by a bool; what cannot be said is left open. -/
def mergeC (c : Tm) (x y : SV) : SV :=
  match SV.beq x y with
  | true => x
  | false => match x, y with
    | .sc k a, .sc k' b => match beqK k k' with
      | true => .sc k (iteK k c a b)
      | false => .un
    | _, _ => .un
def mergeL (c : Tm) : List SV → List SV → Option (List SV)
  | [], [] => some []
  | a :: x, b :: y => match mergeL c x y with
    | some r => some (mergeC c a b :: r)
    | none => none
  | _, _ => none
def mergeV (c : Tm) (x y : SV) : SV :=
  match x, y with
  | .agg a, .agg b => match mergeL c a b with
    | some r => .agg r
    | none => .un
  | .tup a, .tup b => match mergeL c a b with
    | some r => .tup r
    | none => .un
  | x, y => mergeC c x y
def mergeT (c : Tm) : List SV → List SV → Option (List SV)
  | [], [] => some []
  | a :: x, b :: y => match mergeT c x y with
    | some r => some (mergeV c a b :: r)
    | none => none
  | _, _ => none
def beqRow : Option (Nat × Nat × Nat) → Option (Nat × Nat × Nat) → Bool
  | none, none => true
  | some (a, b, c), some (a', b', c') => match Nat.beq a a', Nat.beq b b' with | true, true => Nat.beq c c' | _, _ => false
  | _, _ => false
/-- The blocks that both ways have, those from before the ways alone. -/
def mergeM (c : Tm) (n : Nat) (b : Mem) : Mem → Mem
  | [] => []
  | (j, sb) :: r => match Nat.blt j n, find b j with
    | true, some sb' => match beqRow sb.row sb'.row, mergeL c sb.cs sb'.cs with
      | true, some cs => (j, ⟨cs, sb.row⟩) :: mergeM c n b r
      | _, _ => mergeM c n b r
    | _, _ => mergeM c n b r
def mergeSt (c : Tm) (σ a b : St) : Option St :=
  match mergeT c a.tm b.tm, Nat.beq a.lim σ.lim, Nat.beq b.lim σ.lim, Nat.ble (max a.nxt b.nxt) σ.lim with
  | some tm, true, true, true => some { σ with tm := tm, own := mergeM c σ.nxt b.own a.own, nxt := max a.nxt b.nxt }
  | _, _, _, _ => none
def mergeN (σ : St) : Out (Ex × St) → Option St
  | .ret (.normal, a) => some a
  | .br c x y => match mergeN σ x with
    | none => none
    | some a => match mergeN σ y with
      | none => none
      | some b => mergeSt c σ a b
  | _ => none

/-- Is no slot lost in a merger that all ways had? -/
def lossy : List SV → List SV → Bool
  | .un :: x, .un :: y => lossy x y
  | .un :: x, .tup [] :: y => lossy x y
  | .un :: _, _ :: _ => true
  | _ :: x, _ :: y => lossy x y
  | _, _ => false
def lossyO (tm : List SV) : Out (Ex × St) → Bool
  | .ret (_, σ) => lossy tm σ.tm
  | .br _ x y => match lossyO tm x with
    | true => lossyO tm y
    | false => false
  | .bad _ => true
def hasGuard : List Oper → Bool
  | [] => false
  | o :: r => match o.guard with
    | some _ => true
    | none => hasGuard r
/-- The ways of a region that has guards meet again. -/
def regroup (g : Bool) (σ : St) (o : Out (Ex × St)) : Out (Ex × St) :=
  match g with
  | false => o
  | true => match o with
    | .br c x y => match mergeN σ (.br c x y) with
      | some σ' => match lossyO σ'.tm (.br c x y) with
        | true => .br c x y
        | false => .ret (.normal, nameSt σ')
      | none => .br c x y
    | o => o

/-! Ways that go on meet again, those that end apart -/
structure Stl where
  n : Option St
  c : Tm
  r : Out (Ex × St)
def isF : Tm → Bool | .bl false => true | _ => false
def brO (t : Tm) (p q : Stl) : Out (Ex × St) :=
  match isF p.c with
  | true => q.r
  | false => match isF q.c with
    | true => p.r
    | false => .br t p.r q.r
/-- Those that go on, made one; the test whether a way ends; those that end. -/
def settleT (σ : St) : Out (Ex × St) → Option Stl
  | .ret (.normal, a) => some ⟨some a, .bl false, .bad 190⟩
  | .ret (.exit i, a) => some ⟨none, .bl true, .ret (.exit i, a)⟩
  | .ret (.ret, a) => some ⟨none, .bl true, .ret (.ret, a)⟩
  | .bad _ => none
  | .br t x y => match settleT σ x with
    | none => none
    | some p => match settleT σ y with
      | none => none
      | some q => match p.n, q.n with
        | some a, some b => match mergeSt t σ a b with
          | none => none
          | some m => some ⟨some m, mkIteB t p.c q.c, brO t p q⟩
        | some a, none => some ⟨some a, mkIteB t p.c q.c, brO t p q⟩
        | none, some b => some ⟨some b, mkIteB t p.c q.c, brO t p q⟩
        | none, none => some ⟨none, .bl true, .br t p.r q.r⟩
def normals : Out (Ex × St) → Nat
  | .ret (.normal, _) => 1
  | .ret _ => 0
  | .bad _ => 0
  | .br _ x y => normals x + normals y
def lossyN (tm : List SV) : Out (Ex × St) → Bool
  | .ret (.normal, σ) => lossy tm σ.tm
  | .ret _ => true
  | .br _ x y => match lossyN tm x with
    | true => lossyN tm y
    | false => false
  | .bad _ => true
def settle (σ : St) (o : Out (Ex × St)) : Out (Ex × St) :=
  match o with
  | .br t x y => match Nat.ble 2 (normals (.br t x y)) with
    | false => .br t x y
    | true => match settleT σ (.br t x y) with
      | some ⟨some m, c, r⟩ => match lossyN m.tm (.br t x y) with
        | true => .br t x y
        | false => match isF c with
          | true => .ret (.normal, nameSt { m with pc := σ.pc, ro := σ.ro })
          | false => .br c r (.ret (.normal, nameSt { m with pc := addF σ.pc c false, ro := σ.ro }))
      | _ => .br t x y
  | o => o

def exec (ctx : Ctx) (P : Program) : Nat → Code → St → Out (Ex × St)
  | 0, _, _ => .bad 180
  | n + 1, c, σ => match c with
    | .skip => .ret (.normal, σ)
    | .label _ => .ret (.normal, σ)
    | .region _ ops draw => regroup (hasGuard ops.toList) σ ((region (callWith (exec ctx P n) ctx P) P ops.toList draw σ).bind fun σ => .ret (.normal, σ))
    | .seq x y => (exec ctx P n x σ).bind fun r => match r with
      | (.normal, σ) => exec ctx P n y σ
      | r => .ret r
    | .cond c x y => match evalO σ.tm c with
      | .sc .bool t => match decT σ.pc t with
        | some true => exec ctx P n x σ
        | some false => exec ctx P n y σ
        | none => match mergeN σ (.br t (exec ctx P n x { σ with pc := addF σ.pc t true }) (exec ctx P n y { σ with pc := addF σ.pc t false })) with
          | some σ' => .ret (.normal, nameSt σ')
          | none => settle σ (.br t (exec ctx P n x { σ with pc := addF σ.pc t true }) (exec ctx P n y { σ with pc := addF σ.pc t false }))
      | _ => .bad 181
    | .block id c => settle σ ((exec ctx P n c σ).bind fun r => match r with
      | (.exit i, σ) => match Nat.beq i id with
        | true => .ret (.normal, σ)
        | false => .ret (.exit i, σ)
      | r => .ret r)
    | .loop c => match ctx.cc c with
      | some L => L σ
      | none => (exec ctx P n c σ).bind fun r => match r with
        | (.normal, σ) => exec ctx P n (.loop c) σ
        | r => .ret r
    | .exit id => .ret (.exit id, σ)
    | .ret => .ret (.ret, σ)
    | _ => .bad 182

def callHn (ctx : Ctx) (P : Program) (n : Nat) : Hnd := callWith (exec ctx P n) ctx P
def call (ctx : Ctx) (P : Program) (n : Nat) : Nat → List SV → Mm → PC → Out Res := callH (exec ctx P n) ctx P

end Go.Sx
