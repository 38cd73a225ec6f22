/- The symbolic executor: regions, calls, code. No condition. -/
import Derived.Test.YtfdpcmijifdfeaaGreatSxOp
set_option linter.unusedVariables false
set_option linter.unusedSimpArgs false
noncomputable section
namespace Go.Sx
open Go Go.RowKit

/-- A state of a function: its slots, the blocks that it has made, those that it may only read, the names that are free (its own from 'lo' on), and what is known on this way. -/
structure St where
  tm : List SV
  own : Mem
  ro : Mem
  lo : Nat
  nxt : Nat
  lim : Nat
  sz : Nat
  pc : PC
  /-- Do ways stay apart where a whole number is known in each, and not the same? -/
  ap : Bool := false
  /-- What slots are to hold behind a call that wrote to the memory of what they held. -/
  sw : List (SV × SV) := []
def St.mm (σ : St) : Mm := ⟨σ.own ++ σ.ro, σ.nxt, σ.lim, σ.sz⟩

def eqKs : List SK → List SK → Bool
  | [], l => match l with
    | [] => true
    | _ => false
  | k :: r, l => match l with
    | k' :: r' => match Nat.beq k.n k'.n with
      | true => eqKs r r'
      | false => false
    | [] => false
mutual
def SV.beq : SV → SV → Bool
  | .un, .un => true
  | .sc k t, .sc k' t' => match beqK k k' with | true => t.beq t' | false => false
  | .ptr j o, .ptr j' o' => match Nat.beq j j' with | true => Nat.beq o o' | false => false
  | .nilp, .nilp => true
  | .sl j o n, .sl j' o' n' => match Nat.beq j j', Nat.beq o o' with | true, true => Nat.beq n n' | _, _ => false
  | .nils, .nils => true
  | .gs j n, .gs j' n' => match Nat.beq j j' with | true => Nat.beq n n' | false => false
  | .os j n t, .os j' n' t' => match Nat.beq j j', n.beq n' with | true, true => t.beq t' | _, _ => false
  | .og j ks n t, .og j' ks' n' t' => match Nat.beq j j', n.beq n', eqKs ks ks' with | true, true, true => t.beq t' | _, _, _ => false
  | .fn f a c, .fn f' a' c' => match f, f' with
    | .func g, .func g' => match Nat.beq g g', SV.beqs a a' with | true, true => SV.beqs c c' | _, _ => false
    | _, _ => false
  | .nilf, .nilf => true
  | .nili, .nili => true
  | .agg cs, .agg cs' => SV.beqs cs cs'
  | .tup cs, .tup cs' => SV.beqs cs cs'
  | _, _ => false
def SV.beqs : List SV → List SV → Bool
  | [], [] => true
  | a :: x, b :: y => match SV.beq a b with | true => SV.beqs x y | false => false
  | _, _ => false
end
def swapV (s s' u : SV) : SV := match SV.beq u s with | true => s' | false => u
def swapP : List (SV × SV) → SV → SV
  | [], u => u
  | (a, b) :: r, u => match SV.beq u a with
    | true => b
    | false => swapP r u
def swapS (sw : List (SV × SV)) (tm : List SV) : List SV :=
  match sw with
  | [] => tm
  | sw => tm.map (swapP sw)

/-- How calls are run: those that write to no old memory; and those that may write to their caller's. -/
structure Hnd where
  h : Nat → List SV → Mm → PC → Out Res
  fx : Nat → Bool
  fr : Nat → List SV → St → Out (SV × St)

def callArgs : SV → List SV → Option (Nat × List SV)
  | .fn (.func f) a c, args => some (f, a ++ (args ++ c))
  | _, _ => none
def isCall : Op → Option (Operand × List Operand)
  | .call c => match c.callee with
    | .value f => some (f, c.args.toList)
    | _ => none
  | _ => none
/-- Functions without a body for which the model stands in: which one? -/
def extN (n : String) : Nat :=
  if n == "math.Float64bits" then 1 else if n == "math.Float32bits" then 2 else if n == "math.sqrt" then 3 else if n == "math.archFloor" then 4 else 0
def extK (P : Program) (g : Nat) : Nat :=
  match P.funcs[g]? with
  | some fn => match fn.body with
    | none => match fn.origin == "" with
      | true => extN fn.name
      | false => 0
    | some _ => 0
  | none => 0
def extS (k : Nat) (args : List SV) (m : Mm) (pc : PC) : Out Res :=
  match args with
  | [.sc (.float .f64) t] => match k with
    | 1 => fork pc (mkOp (.fnan .f64) t .nil) (fun _ => .bad 310) (fun pc => val m pc (.sc (.int .u64) (mkOp (.fbits .f64) t .nil)))
    | 3 => val m pc (.sc (.float .f64) (mkOp .fsqrt t .nil))
    | 4 => fork pc (mkOp (.fnan .f64) t .nil) (fun _ => .bad 315) (fun pc => val m pc (.sc (.float .f64) (mkOp .ffloor t .nil)))
    | _ => .bad 311
  | [.sc (.float .f32) t] => match k with
    | 2 => fork pc (mkOp (.fnan .f32) t .nil) (fun _ => .bad 312) (fun pc => val m pc (.sc (.int .u32) (mkOp (.fbits .f32) t .nil)))
    | _ => .bad 313
  | _ => .bad 314
/-- One operation that writes to no old memory. -/
def opP (H : Hnd) (P : Program) (m : Mm) (pc : PC) (ev : Operand → SV) (o : Op) : Out Res :=
  match isCall o with
  | some (f, args) => match callArgs (ev f) (args.map ev) with
    | some (g, as) => match extK P g with
      | 0 => H.h g as m pc
      | k + 1 => extS (k + 1) as m pc
    | none => .bad 100
  | none => opx P m pc ev o

def putT (tm : List SV) (d : Option Tmp) (v : SV) : List SV :=
  match d with
  | none => tm
  | some d => kSet tm d v
def undefS : SV := .tup []

def setB (mem : Mem) (j : Nat) (sb : SB) : Mem :=
  match mem with
  | [] => []
  | (i, x) :: r => match Nat.beq i j with
    | true => (i, sb) :: setB r j sb
    | false => (i, x) :: setB r j sb
def dropB (mem : Mem) (j : Nat) : Mem :=
  match mem with
  | [] => []
  | (i, x) :: r => match Nat.beq i j with
    | true => dropB r j
    | false => (i, x) :: dropB r j

/-- A store into memory of the call's own. -/
def storeS (P : Program) (σ : St) (d : Option Tmp) (t : TypeId) (a v : SV) : Out St :=
  match a with
  | .ptr j o => match find σ.own j with
    | some sb => match v.cells, szT P t with
      | some xs, some n => match Nat.beq xs.length n, Nat.ble (o + n) sb.cs.length, Nat.blt 0 n with
        | true, true, true => .ret { σ with tm := putT σ.tm d undefS, own := setB σ.own j ⟨layK sb.cs o xs, sb.row⟩ }
        | _, _, _ => .bad 110
      | _, _ => .bad 111
    | _ => .bad 112
  | _ => .bad 113

/-- The cells behind a slice. -/
def sliceCells (mem : Mem) (size : Nat) : SV → Option (Nat × List SV)
  | .sl j o n => match find mem j with
    | some sb => match cut sb.cs o (n * size) with
      | some cs => some (n, cs)
      | none => none
    | none => none
  | .gs j n => match find mem j with
    | some sb => match cut sb.cs 0 (n * size) with
      | some cs => some (n, cs)
      | none => none
    | none => none
  | _ => none

/-- Cells of these kinds, kept with their kinds. -/
def cellsT : List SK → List SV → Option Tm
  | [], l => match l with
    | [] => some .nil
    | _ => none
  | k :: ks, l => match l with
    | s :: r => match s, cellsT ks r with
      | .sc k' t, some u => match Nat.beq k.n k'.n with
        | true => some (.cons (.cons (.il k.n) t) u)
        | false => none
      | _, _ => none
    | [] => none
/-- Is there room for one element more in what an append may make? -/
def roomT (pc : PC) (k : Tm) (bytes : Nat) : Bool :=
  match ivl pc k with
  | some (_, .ofNat h) => Nat.ble ((h + 1) * (bytes + 1)) 1000000
  | _ => false
def succT (k : Tm) : Tm := mkOp (.addi .i64) k (.il 1)
/-- append to a slice that the call itself has made by append alone. -/
def appendS (P : Program) (σ : St) (d : Option Tmp) (t : TypeId) (s x : SV) : Out St :=
  match P.underlying t with
  | some (.slice e) => match P.info? e with
    | some i => match i.zero with
      | some z => match Nat.beq (z.cells.size) i.size, Nat.blt 0 i.size, sliceCells (σ.own ++ σ.ro) i.size x, Nat.blt σ.nxt σ.lim with
        | true, true, some (n, cs), true => match s with
          | .nils => match Nat.ble (n * (i.bytes + 1)) 1000000, n with
            | true, 0 => .ret { σ with tm := putT σ.tm d .nils }
            | true, n => .ret { σ with tm := putT σ.tm d (.gs σ.nxt n), own := (σ.nxt, ⟨cs, some (e, i.size, n)⟩) :: σ.own, nxt := σ.nxt + 1 }
            | _, _ => .bad 120
          | .gs j k => match find σ.own j with
            | some sb => match sb.row with
              | some (e', sz', k') => match Nat.beq e e', Nat.beq i.size sz', Nat.beq k k', Nat.ble ((k + n) * (i.bytes + 1)) 1000000, Nat.beq (k + n) 0 with
                | true, true, true, true, false => .ret { σ with tm := putT σ.tm d (.gs σ.nxt (k + n)), own := (σ.nxt, ⟨sb.cs ++ cs, some (e, i.size, k + n)⟩) :: dropB σ.own j, nxt := σ.nxt + 1 }
                | _, _, _, _, _ => .bad 121
              | none => .bad 122
            | _ => .bad 123
          | .og j ks k c => match find σ.own j with
            | some sb => match sb.row, cellsT ks cs with
              | some (e', sz', 0), some u => match Nat.beq e e', Nat.beq i.size sz', Nat.beq n 1, roomT σ.pc k i.bytes, Nat.beq i.size ks.length with
                | true, true, true, true, true => .ret { σ with tm := putT σ.tm d (.og σ.nxt ks (succT k) (.op .snoc c u)), own := (σ.nxt, ⟨[], some (e, i.size, 0)⟩) :: dropB σ.own j, nxt := σ.nxt + 1 }
                | _, _, _, _, _ => .bad 136
              | _, _ => .bad 137
            | none => .bad 138
          | _ => .bad 124
        | _, _, _, _ => .bad 125
      | none => .bad 126
    | none => .bad 127
  | _ => .bad 128

/-- A call that may write to memory of the call's own. -/
def effCall (H : Hnd) (P : Program) (σ : St) (d : Option Tmp) (c : Call) : Option (Out St) :=
  match c.callee, c.args.toList, c.argTypes.toList with
    | .builtin .append, [s, x], [t, u] => match Nat.beq t u with
      | true => some (appendS P σ d t (evalO σ.tm s) (evalO σ.tm x))
      | false => some (.bad 130)
    | .value (.func g), as, _ => match H.fx g with
      | true => some ((H.fr g (as.map (evalO σ.tm)) σ).bind fun r => .ret { σ with tm := putT (swapS r.2.sw σ.tm) d r.1, own := r.2.own, nxt := r.2.nxt, pc := r.2.pc })
      | false => none
    | _, _, _ => none
/-- An operation that may write to memory of the call's own. -/
def eff (H : Hnd) (P : Program) (σ : St) (o : Oper) : Option (Out St) :=
  match o.op with
  | .store t a v => some (storeS P σ o.dst t (evalO σ.tm a) (evalO σ.tm v))
  | .call c => effCall H P σ o.dst c
  | _ => none
def isEff (fx : Nat → Bool) (o : Oper) : Bool :=
  match o.op with
  | .store _ _ _ => true
  | .call c => match c.callee with
    | .builtin .append => true
    | .value (.func g) => fx g
    | _ => false
  | _ => false

def afterR (σ : St) (d : Option Tmp) (r : Res) : St := { σ with tm := putT σ.tm d r.v, own := r.nb ++ σ.own, nxt := r.nxt, pc := r.pc }
def stepO (H : Hnd) (P : Program) (σ : St) (o : Oper) : Out St :=
  match eff H P σ o with
  | some r => r
  | none => (opP H P σ.mm σ.pc (evalO σ.tm) o.op).bind fun r => .ret (afterR σ o.dst r)

def dstOf (ops : List Oper) (j : Nat) : Option Tmp :=
  match nth? ops j with
  | some o => o.dst
  | none => none

/-- An operation under its guard: what the guard's own slot holds decides. -/
def guarded {α : Type} (pc : PC) (g : Option (Nat × Bool)) (look : Nat → Option SV) (run skip : PC → Out α) : Out α :=
  match g with
  | none => run pc
  | some (j, want) => match look j with
    | some (.sc .bool t) => match want with
      | true => fork pc t run skip
      | false => fork pc t skip run
    | some (.tup []) => skip pc
    | _ => .bad 140

def stepG (H : Hnd) (P : Program) (ops : List Oper) (σ : St) (o : Oper) : Out St :=
  guarded σ.pc o.guard (fun j => match dstOf ops j with | some d => σ.tm[d]? | none => none)
    (fun pc => stepO H P { σ with pc := pc } o) (fun pc => .ret { σ with tm := putT σ.tm o.dst undefS, pc := pc })

/-- A list's places made plain before it is handed on: for the kernel, which puts off whatever is not asked for. -/
def fList {α β : Type} (l : List β) (k : List β → α) : α := List.rec (motive := fun _ => (List β → α) → α) (fun k => k []) (fun x _ ih k => ih fun r => k (x :: r)) l k
theorem fList_eq {α β : Type} : ∀ (l : List β) (k : List β → α), fList l k = k l
  | [], k => rfl
  | x :: r, k => by
    have := fList_eq r (fun r => k (x :: r))
    simpa [fList] using this
def seqOps (H : Hnd) (P : Program) (ops : List Oper) : List Oper → St → Out St
  | [], σ => .ret σ
  | o :: r, σ => (stepG H P ops σ o).bind fun σ => fList σ.tm fun tm => fList σ.own fun own => seqOps H P ops r { σ with tm := tm, own := own }

/-! A region in whatever order its edges allow -/
def bindsAny (e : Edge) : Bool := Region.binds .any e
/-- For each operation the set of those that must come first, as the bits of a number. -/
def ancOf (as : List Nat) : List Edge → Nat
  | [] => 0
  | e :: r => match bindsAny e with
    | true => (ancOf as r ||| (2 ^ e.on)) ||| (nth? as e.on).getD 0
    | false => ancOf as r
def ancs : List Oper → List Nat → List Nat
  | [], as => as
  | o :: r, as => ancs r (as ++ [ancOf as o.after.toList])

structure DR where
  dst : Option Tmp
  v : SV
  nb : Mem
  /-- The block that the operation takes over, where it is an append. -/
  use : Option Nat := none

/-- The one operation that writes a slot: its place. -/
def writer : List Oper → Tmp → Nat → Option Nat
  | [], _, _ => none
  | o :: r, t, i => match o.dst with
    | some d => match Nat.beq d t with
      | true => some i
      | false => writer r t (i + 1)
    | none => writer r t (i + 1)
def evD (ops : List Oper) (as : List Nat) (tm : List SV) (done : List DR) (i : Nat) : Operand → SV
  | .tmp t => match nth? tm t with
    | none => .un
    | some s => match writer ops t 0 with
      | none => s
      | some j => match Nat.testBit ((nth? as i).getD 0) j with
        | true => match nth? done j with
          | some d => d.v
          | none => .un
        | false => match Nat.testBit ((nth? as j).getD 0) i || Nat.beq i j with
          | true => s
          | false => .un
  | .const v => ofVal v
  | .global _ => .un
  | .func f => .fn (.func f) [] []
/-- The blocks that those have made which must come first. -/
def memD (a : Nat) : List DR → (i : Nat) → Mem → Mem
  | [], _, mem => mem
  | d :: r, i, mem => match Nat.testBit a i with
    | true => memD a r (i + 1) (d.nb ++ mem)
    | false => memD a r (i + 1) mem

/-- An append where the order is open: it takes over the slice's block. -/
def appD (P : Program) (own : Mem) (m : Mm) (pc : PC) (t : TypeId) (s x : SV) : Out (Res × Option Nat) :=
  match P.underlying t with
  | some (.slice e) => match P.info? e with
    | some i => match i.zero with
      | some z => match Nat.beq (z.cells.size) i.size, Nat.blt 0 i.size, sliceCells m.mem i.size x, Nat.blt m.nxt m.lim with
        | true, true, some (n, cs), true => match s with
          | .gs j k => match find own j with
            | some sb => match sb.row with
              | some (e', sz', k') => match Nat.beq e e', Nat.beq i.size sz', Nat.beq k k', Nat.ble ((k + n) * (i.bytes + 1)) 1000000, Nat.beq (k + n) 0 with
                | true, true, true, true, false => .ret (⟨.gs m.nxt (k + n), [(m.nxt, ⟨sb.cs ++ cs, some (e, i.size, k + n)⟩)], m.nxt + 1, pc⟩, some j)
                | _, _, _, _, _ => .bad 121
              | none => .bad 122
            | _ => .bad 123
          | .og j ks k c => match find own j with
            | some sb => match sb.row, cellsT ks cs with
              | some (e', sz', 0), some u => match Nat.beq e e', Nat.beq i.size sz', Nat.beq n 1, roomT pc k i.bytes, Nat.beq i.size ks.length with
                | true, true, true, true, true => .ret (⟨.og m.nxt ks (succT k) (.op .snoc c u), [(m.nxt, ⟨[], some (e, i.size, 0)⟩)], m.nxt + 1, pc⟩, some j)
                | _, _, _, _, _ => .bad 136
              | _, _ => .bad 137
            | none => .bad 138
          | _ => .bad 124
        | _, _, _, _ => .bad 125
      | none => .bad 126
    | none => .bad 127
  | _ => .bad 128
def isApp : Op → Option (Operand × Operand × TypeId)
  | .call c => match c.callee, c.args.toList, c.argTypes.toList with
    | .builtin .append, [s, x], [t, u] => match Nat.beq t u with
      | true => some (s, x, t)
      | false => none
    | _, _, _ => none
  | _ => none
/-- An append to a slice without room, where the order is open: nothing is taken over. -/
def appE (P : Program) (m : Mm) (pc : PC) (t : TypeId) (x : SV) : Out Res :=
  match P.underlying t with
  | some (.slice e) => match P.info? e with
    | some i => match i.zero with
      | some z => match Nat.beq (z.cells.size) i.size, Nat.blt 0 i.size, sliceCells m.mem i.size x, Nat.blt m.nxt m.lim with
        | true, true, some (n, cs), true => match Nat.ble (n * (i.bytes + 1)) 1000000, Nat.beq n 0 with
          | true, false => .ret ⟨.gs m.nxt n, [(m.nxt, ⟨cs, some (e, i.size, n)⟩)], m.nxt + 1, pc⟩
          | _, _ => .bad 131
        | _, _, _, _ => .bad 132
      | none => .bad 133
    | none => .bad 134
  | _ => .bad 135
def noRoom (mem : Mem) (s : SV) : Bool :=
  match s with
  | .nils => true
  | .gs j 0 => match find mem j with
    | some sb => match sb.row with
      | some (_, _, 0) => true
      | _ => false
    | none => false
  | _ => false
def opD (H : Hnd) (P : Program) (own : Mem) (m : Mm) (pc : PC) (ev : Operand → SV) (o : Op) : Out (Res × Option Nat) :=
  match isApp o with
  | some (s, x, t) => match noRoom m.mem (ev s) with
    | true => (appE P m pc t (ev x)).bind fun r => .ret (r, none)
    | false => appD P own m pc t (ev s) (ev x)
  | none => (opP H P m pc ev o).bind fun r => .ret (r, none)
def memN : List Nat → Nat → Bool
  | [], _ => false
  | k :: r, j => match Nat.beq k j with
    | true => true
    | false => memN r j
/-- The blocks but for some. -/
def dropK (K : List Nat) : Mem → Mem
  | [] => []
  | (i, x) :: r => match memN K i with
    | true => dropK K r
    | false => (i, x) :: dropK K r
def nbsOk (nxt : Nat) : Mem → Bool
  | [] => true
  | x :: r => match Nat.ble nxt x.1 with
    | true => nbsOk nxt r
    | false => false
/-- What is taken over is among K, old, each once; what is made is new. -/
def usesOk (K : List Nat) (nxt : Nat) : List DR → List Nat → Bool
  | [], _ => true
  | d :: r, seen => match nbsOk nxt d.nb with
    | false => false
    | true => match d.use with
      | none => usesOk K nxt r seen
      | some j => match memN K j, memN seen j, Nat.blt j nxt with
        | true, false, true => usesOk K nxt r (j :: seen)
        | _, _, _ => false
/-- The blocks that a region's appends will take over, guessed. -/
def guessK (ops : List Oper) (tm : List SV) : List Oper → List Nat
  | [] => []
  | o :: r => match isApp o.op with
    | some (.tmp t, _, _) => match (match writer ops t 0 with
        | none => tm.getD t .un
        | some w => match nth? ops w with
          | some o' => match o'.op with
            | .move (.tmp v) => tm.getD v .un
            | _ => .un
          | none => .un) with
      | .gs j _ => j :: guessK ops tm r
      | .og j _ _ _ => j :: guessK ops tm r
      | _ => guessK ops tm r
    | _ => guessK ops tm r
/-- The place of the first that stores. -/
def sinkAtB (fx : Nat → Bool) : List Oper → Nat
  | [] => 0
  | o :: r => match isApp o.op, isEff fx o with
    | none, true => 0
    | _, _ => sinkAtB fx r + 1
def drawOne (H : Hnd) (P : Program) (ops : List Oper) (as : List Nat) (own : Mem) (m : Mm) (tm : List SV) (o : Oper) (i : Nat) (done : List DR) (pc : PC) : Out (DR × PC) :=
  guarded pc o.guard (fun j => match dstOf ops j with | some d => (match Nat.testBit ((nth? as i).getD 0) j with | true => some (evD ops as tm done i (.tmp d)) | false => none) | none => none)
      (fun pc => (opD H P own ⟨memD ((nth? as i).getD 0) done 0 m.mem, m.nxt + i * m.sz, m.nxt + i * m.sz + m.sz, m.sz / 65536⟩ pc (evD ops as tm done i) o.op).bind fun r => .ret (⟨o.dst, r.1.v, r.1.nb, r.2⟩, r.1.pc))
      (fun pc => .ret (⟨o.dst, undefS, [], none⟩, pc))
def drawOps (H : Hnd) (P : Program) (ops : List Oper) (as : List Nat) (own : Mem) (m : Mm) (tm : List SV) : List Oper → (i : Nat) → List DR → PC → Out (List DR × PC)
  | [], _, done, pc => .ret (done, pc)
  | o :: r, i, done, pc => (drawOne H P ops as own m tm o i done pc).bind fun x => fList (done ++ [x.1]) fun done => drawOps H P ops as own m tm r (i + 1) done x.2

def putAll (tm : List SV) : List DR → List SV
  | [] => tm
  | d :: r => putAll (putT tm d.dst d.v) r
def memAll (mem : Mem) : List DR → Mem
  | [] => mem
  | d :: r => memAll (d.nb ++ mem) r

def sinkAt (fx : Nat → Bool) : List Oper → Nat
  | [] => 0
  | o :: r => match isEff fx o with
    | true => 0
    | false => sinkAt fx r + 1
/-- Behind place k every operation waits for all before it. -/
def sinksOk (as : List Nat) : (i n : Nat) → Bool
  | _, 0 => true
  | i, n + 1 => match Nat.beq (((nth? as i).getD 0) % 2 ^ i) (2 ^ i - 1) with
    | true => sinksOk as (i + 1) n
    | false => false
/-- An operation that takes a part of what a slot holds: the slot. -/
def looseX (o : Oper) : Option (Tmp × Tmp) :=
  match o.guard, o.dst, o.op with
  | none, some d, .extract (.tmp t) _ => some (d, t)
  | _, _, _ => none
def readsT (x : Operand) (d : Tmp) : Bool :=
  match x with
  | .tmp t => Nat.beq t d
  | _ => false
/-- A store that doesn't read slot d. -/
def storeFree (o : Oper) (d : Tmp) : Bool :=
  match o.guard, o.dst, o.op with
  | none, none, .store _ a v => match readsT a d, readsT v d with
    | false, false => true
    | _, _ => false
  | _, _, _ => false
def looseAt (ops : List Oper) (q : Nat) : Option (Tmp × Tmp) :=
  match nth? ops q with
  | some o => looseX o
  | none => none
/-- Those from before place n that are not among 'a' take parts, into slots that neither the store s nor the others read. -/
def looseAll (ops : List Oper) (a : Nat) (f : Tmp × Tmp → Bool) : Nat → Bool
  | 0 => true
  | n + 1 => match Nat.testBit a n with
    | true => looseAll ops a f n
    | false => match looseAt ops n with
      | some x => match f x with
        | true => looseAll ops a f n
        | false => false
      | none => false
def looseOk (ops : List Oper) (as : List Nat) (k : Nat) : Bool :=
  match nth? ops k with
  | some s => looseAll ops ((nth? as k).getD 0) (fun x => match storeFree s x.1 with
    | true => looseAll ops ((nth? as k).getD 0) (fun y => !(Nat.beq y.2 x.1)) k
    | false => false) k
  | none => false
/-- An assignment that reads not slot d and writes not slot t. -/
def assignFree (o : Oper) (d t : Tmp) : Bool :=
  match o.guard, o.dst, o.op with
  | none, some e, .assign x => match readsT x d, Nat.beq e t with
    | false, false => true
    | _, _ => false
  | _, _, _ => false
/-- Behind place k: each waits for all from place n on before it; parts from before n that it doesn't wait for don't touch what it reads or writes. -/
def sinksM (ops : List Oper) (as : List Nat) (n : Nat) : (i m : Nat) → Bool
  | _, 0 => true
  | i, m + 1 => match Nat.beq ((((nth? as i).getD 0) / 2 ^ n) % 2 ^ (i - n)) (2 ^ (i - n) - 1) with
    | true => match nth? ops i with
      | some o => match looseAll ops ((nth? as i).getD 0) (fun x => assignFree o x.1 x.2) n with
        | true => sinksM ops as n (i + 1) m
        | false => false
      | none => false
    | false => false
def sinksL (ops : List Oper) (as : List Nat) (k n : Nat) : Bool :=
  match sinksOk as k n with
  | true => true
  | false => match n with
    | 0 => false
    | n + 1 => match sinksM ops as k (k + 1) n with
      | true => looseOk ops as k
      | false => false
def noDup : List Oper → Bool
  | [] => true
  | o :: r => match o.dst with
    | none => noDup r
    | some d => match writer r d 0 with
      | none => noDup r
      | some _ => false
def edgesOk : List Oper → (i : Nat) → Bool
  | [], _ => true
  | o :: r, i => match o.after.toList.all (fun e => !bindsAny e || Nat.blt e.on i) with
    | true => edgesOk r (i + 1)
    | false => false

/-- The heads in whatever order; then the sinks, from place k on. -/
def regionK (H : Hnd) (P : Program) (ops : List Oper) (K : List Nat) (k : Nat) (σ : St) : Out St :=
  (drawOps H P ops (ancs ops []) σ.own ⟨dropK K σ.own ++ σ.ro, σ.nxt, σ.lim, σ.sz⟩ σ.tm (ops.take k) 0 [] σ.pc).bind fun x =>
    match usesOk K σ.nxt x.1 [] with
    | true => fList (putAll σ.tm x.1) fun tm => fList (memAll (dropK K σ.own) x.1) fun own => seqOps H P ops (ops.drop k) { σ with tm := tm, own := own, nxt := σ.nxt + k * σ.sz, pc := x.2 }
    | false => .bad 154
def fitsK (H : Hnd) (ops : List Oper) (k : Nat) (σ : St) : Bool :=
  match sinksL ops (ancs ops []) k (ops.length - k) with
  | true => Nat.ble (σ.nxt + k * σ.sz) σ.lim
  | false => false
/-- A region in whatever order, where one of the two ways of placing its stores fits. -/
def regionC (H : Hnd) (P : Program) (ops : List Oper) (σ : St) : Option (Out St) :=
  match edgesOk ops 0, noDup ops with
  | true, true => match fitsK H ops (sinkAt H.fx ops) σ with
    | true => some (regionK H P ops [] (sinkAt H.fx ops) σ)
    | false => match fitsK H ops (sinkAtB H.fx ops) σ with
      | true => some (regionK H P ops (guessK ops σ.tm ops) (sinkAtB H.fx ops) σ)
      | false => none
  | _, _ => none

/-! An operation of slots alone that waits for none may come first -/
def anyL {α : Type} (f : α → Bool) : List α → Bool
  | [] => false
  | a :: r => match f a with
    | true => true
    | false => anyL f r
def looksB (ops : List Oper) (o : Oper) (d : Tmp) : Bool :=
  match anyL (fun x => readsT x d) o.op.operands.toList with
  | true => true
  | false => match o.guard with
    | some (g, _) => match dstOf ops g with
      | some t => Nat.beq t d
      | none => false
    | none => false
def dstIs (o : Oper) (d : Tmp) : Bool :=
  match o.dst with
  | some e => Nat.beq e d
  | none => false
def apartB (ops : List Oper) (x y : Oper) : Bool :=
  match x.dst with
  | none => false
  | some d => match looksB ops y d, dstIs y d with
    | false, false => match y.dst with
      | none => true
      | some e => !(looksB ops x e)
    | _, _ => false
def waitsFor (i : Nat) (o : Oper) : Bool := anyL (fun e => match bindsAny e with | true => Nat.beq e.on i | false => false) o.after.toList
def freeB (ops : List Oper) (x : Oper) (i : Nat) : List Oper → Nat → Bool
  | [], _ => true
  | y :: r, j => match Nat.beq j i with
    | true => freeB ops x i r (j + 1)
    | false => match waitsFor i y with
      | true => freeB ops x i r (j + 1)
      | false => match apartB ops x y with
        | true => freeB ops x i r (j + 1)
        | false => false
def unwaited (o : Oper) : Bool :=
  match o.guard with
  | some _ => false
  | none => !(anyL bindsAny o.after.toList)
/-- No operation has its guard at place i, and none chooses among channels. -/
def gFree (i : Nat) : List Oper → Bool
  | [] => true
  | o :: r => match o.op with
    | .select _ _ => false
    | _ => match o.guard with
      | some (j, _) => match Nat.beq j i with
        | true => false
        | false => gFree i r
      | none => gFree i r
def takeV (P : Program) (ev : Operand → SV) (o : Oper) : Option SV :=
  match o.op with
  | .move x => some (ev x)
  | .assign x => some (ev x)
  | .fieldAddr t x f => match P.underlying t, ev x with
    | some (.struct fs), .ptr j o => match nth? fs.toList f with
      | some fd => match szT P fd.type with
        | some (_ + 1) => some (.ptr j (o + fd.offset))
        | _ => none
      | none => none
    | _, _ => none
  | _ => none
def takeFind (P : Program) (ops : List Oper) (tm : List SV) : List Oper → Nat → Option (Nat × List SV)
  | [], _ => none
  | o :: r, i => match unwaited o with
    | false => takeFind P ops tm r (i + 1)
    | true => match takeV P (evalO tm) o with
      | none => takeFind P ops tm r (i + 1)
      | some v => match freeB ops o i ops 0, gFree i ops with
        | true, true => some (i, putT tm o.dst v)
        | _, _ => takeFind P ops tm r (i + 1)
def preI (i j : Nat) : Nat := match Nat.ble j i with | true => j | false => j - 1
def relO (i : Nat) (o : Oper) : Oper :=
  { o with after := ((o.after.toList.filter fun e => !(Nat.beq e.on i)).map fun e => { e with on := preI i e.on }).toArray, guard := match o.guard with | some (j, b) => some (preI i j, b) | none => none }
def without (ops : List Oper) (i : Nat) : List Oper := (ops.eraseIdx i).map (relO i)
def regionT (H : Hnd) (P : Program) : Nat → List Oper → St → Out St
  | 0, _, _ => .bad 152
  | n + 1, ops, σ => match regionC H P ops σ with
    | some r => r
    | none => match takeFind P ops σ.tm ops 0 with
      | none => .bad 153
      | some (i, tm) => regionT H P n (without ops i) { σ with tm := tm }
def region (H : Hnd) (P : Program) (ops : List Oper) (draw : Bool) (σ : St) : Out St :=
  match draw with
  | false => seqOps H P ops ops σ
  | true => match edgesOk ops 0 with
    | true => regionT H P 8 ops σ
    | false => .bad 150

/-! Calls -/
def resultsS (P : Program) (σ : St) : List ResultVar → Option (List SV)
  | [] => some []
  | .tmp t :: r => match resultsS P σ r with
    | some x => some (σ.tm.getD t .un :: x)
    | none => none
  | .cell a t :: r => match σ.tm.getD a .un with
    | .ptr j o => match find (σ.own ++ σ.ro) j with
      | some sb => match partS P t sb.cs o, resultsS P σ r with
        | some v, some x => some (v :: x)
        | _, _ => none
      | none => none
    | _ => none
def oneOr : List SV → SV
  | [v] => v
  | vs => .tup vs
inductive Ex where
  | normal | exit (id : Nat) | ret

def ending (P : Program) (fn : Func) (m : Mm) (x : Ex × St) : Out Res :=
  match x.1 with
  | .exit _ => .bad 160
  | _ => match resultsS P x.2 fn.results.toList with
    | some vs => match SV.flat (oneOr vs) with
      | true => .ret ⟨oneOr vs, [], m.nxt, x.2.pc⟩
      | false => match Nat.ble x.2.nxt m.lim with
        | true => .ret ⟨oneOr vs, x.2.own, x.2.nxt, x.2.pc⟩
        | false => .bad 162
    | none => .bad 161

/-- One of two terms of one kind by a bool. -/
def iteK (k : SK) (c a b : Tm) : Tm :=
  match k with
  | .bool => mkIteB c a b
  | _ => mkIte c a b
def mergeS : Out Res → Option (SK × Tm)
  | .ret r => match r.v with
    | .sc k t => some (k, t)
    | _ => none
  | .br c x y => match mergeS x with
    | none => none
    | some (k, a) => match mergeS y with
      | none => none
      | some (k', b) => match Nat.beq k.n k'.n with
        | true => some (k, iteK k c a b)
        | false => none
  | .bad _ => none
/-- All ways give true. -/
def allTrue : Out Res → Bool
  | .ret r => match r.v with
    | .sc .bool t => prove true 60 r.pc t
    | _ => false
  | .br _ x y => match allTrue x with
    | true => allTrue y
    | false => false
  | .bad _ => false
/-- The name of a term that is defined among what is known. -/
def lookN : PC → Tm → Option Nat
  | [], _ => none
  | (f, v) :: r, t => match f with
    | .op o (.var n) u => match v, Nat.beq o.n 10 with
      | true, true => match u.beq t with
        | true => some n
        | false => lookN r t
      | _, _ => lookN r t
    | _ => lookN r t
def nameT (pc : PC) (t : Tm) : Tm :=
  match t with
  | .ite c a b => match lookN pc (.ite c a b) with
    | some n => .var n
    | none => .ite c a b
  | t => t
def nameC (pc : PC) : SV → SV
  | .sc k t => .sc k (nameT pc t)
  | s => s
def nameV (pc : PC) : SV → SV
  | .sc k t => .sc k (nameT pc t)
  | .agg cs => .agg (cs.map (nameC pc))
  | .tup cs => .tup (cs.map (nameC pc))
  | s => s
def nameB (pc : PC) : Mem → Mem
  | [] => []
  | (j, sb) :: r => (j, ⟨sb.cs.map (nameC pc), sb.row⟩) :: nameB pc r
def nameSt (σ : St) : St := { σ with tm := σ.tm.map (nameV σ.pc), own := nameB σ.pc σ.own }
def merged (m : Mm) (pc : PC) (o : Out Res) : Out Res :=
  match o with
  | .br c x y => match mergeS (.br c x y) with
    | some (k, t) => val m pc (.sc k (nameT pc t))
    | none => .br c x y
  | o => o

abbrev Sum := List SV → Mm → PC → Out Res
/-- What is known beforehand: contracts of functions; the functions that may write to their caller's memory; contracts of loops; contracts of functions that write to their caller's memory. -/
structure Ctx where
  sum : Nat → Option Sum
  fx : Nat → Bool := fun _ => false
  cc : Code → Option (St → Out (Ex × St)) := fun _ => none
  fxs : Nat → List SV → St → Option (Out (SV × St)) := fun _ _ _ => none
  ap : Bool := false

def callH (run : Code → St → Out (Ex × St)) (ctx : Ctx) (P : Program) : Nat → List SV → Mm → PC → Out Res := fun f args m pc =>
  match ctx.sum f with
  | some S => S args m pc
  | none => match P.funcs[f]? with
    | none => .bad 170
    | some fn => match fn.body with
      | none => .bad 171
      | some c => merged m pc ((run c ⟨args ++ List.replicate (fn.ntmps - args.length) undefS, [], m.mem, m.nxt, m.nxt, m.lim, m.sz, pc, ctx.ap, []⟩).bind (ending P fn m))
/-- A call in its caller's own memory. -/
def callF (run : Code → St → Out (Ex × St)) (ctx : Ctx) (P : Program) : Nat → List SV → St → Out (SV × St) := fun f args σ =>
  match ctx.fxs f args σ with
  | some o => o
  | none => match P.funcs[f]? with
  | none => .bad 172
  | some fn => match fn.body with
    | none => .bad 173
    | some c => (run c { σ with tm := args ++ List.replicate (fn.ntmps - args.length) undefS, lo := σ.nxt }).bind fun x => match x.1 with
      | .exit _ => .bad 174
      | _ => match resultsS P x.2 fn.results.toList with
        | some vs => match Nat.beq x.2.lim σ.lim with
          | true => .ret (oneOr vs, { x.2 with sw := [] })
          | false => .bad 176
        | none => .bad 175
def callWith (run : Code → St → Out (Ex × St)) (ctx : Ctx) (P : Program) : Hnd := ⟨callH run ctx P, ctx.fx, callF run ctx P⟩

/-! Ways that meet again -/
/-- The length of one of two lists by a bool; where one is longer by one, each is named but once. -/
def ogN (c a b : Tm) : Tm :=
  match a.beq (succT b) with
  | true => .op (.addi .i64) b (.ite c (.il 1) (.il 0))
  | false => match b.beq (succT a) with
    | true => .op (.addi .i64) a (.ite c (.il 0) (.il 1))
    | false => mkIte c a b
/-- The cells of one of two lists by a bool. -/
def ogL (c a b : Tm) : Tm :=
  match a with
  | .op .snoc a' u => match a'.beq b with
    | true => .op .snoc b (.ite c u .nil)
    | false => match b with
      | .op .snoc b' u' => match b'.beq a with
        | true => .op .snoc a (.ite c .nil u')
        | false => mkIte c a b
      | b => mkIte c a b
  | a => match b with
    | .op .snoc b' u' => match b'.beq a with
      | true => .op .snoc a (.ite c .nil u')
      | false => mkIte c a b
    | b => mkIte c a b
/-- One of two cells by a bool; what cannot be said is left open. -/
def mergeC (c : Tm) (x y : SV) : SV :=
  match SV.beq x y with
  | true => x
  | false => match x, y with
    | .sc k a, .sc k' b => match beqK k k' with
      | true => .sc k (iteK k c a b)
      | false => .un
    | .og j ks a t, .og j' ks' b u => match Nat.beq j j', eqKs ks ks' with
      | true, true => .og j ks (ogN c a b) (ogL c t u)
      | _, _ => .un
    | _, _ => .un
def mergeL (c : Tm) : List SV → List SV → Option (List SV)
  | [], [] => some []
  | a :: x, b :: y => match mergeL c x y with
    | some r => some (mergeC c a b :: r)
    | none => none
  | _, _ => none
def mergeV (c : Tm) (x y : SV) : SV :=
  match x, y with
  | .agg a, .agg b => match mergeL c a b with
    | some r => .agg r
    | none => .un
  | .tup a, .tup b => match mergeL c a b with
    | some r => .tup r
    | none => .un
  | x, y => mergeC c x y
def mergeT (c : Tm) : List SV → List SV → Option (List SV)
  | [], [] => some []
  | a :: x, b :: y => match mergeT c x y with
    | some r => some (mergeV c a b :: r)
    | none => none
  | _, _ => none
def beqRow : Option (Nat × Nat × Nat) → Option (Nat × Nat × Nat) → Bool
  | none, none => true
  | some (a, b, c), some (a', b', c') => match Nat.beq a a', Nat.beq b b' with | true, true => Nat.beq c c' | _, _ => false
  | _, _ => false
/-- The blocks that both ways have, those from before the ways alone. -/
def keptJ (n k j : Nat) : Bool := match Nat.blt j n with | true => true | false => Nat.beq j k
def mergeM (c : Tm) (n k : Nat) (b : Mem) : Mem → Mem
  | [] => []
  | (j, sb) :: r => match keptJ n k j, find b j with
    | true, some sb' => match beqRow sb.row sb'.row, mergeL c sb.cs sb'.cs with
      | true, some cs => (j, ⟨cs, sb.row⟩) :: mergeM c n k b r
      | _, _ => mergeM c n k b r
    | _, _ => mergeM c n k b r
def mergeK (k : Nat) (c : Tm) (σ a b : St) : Option St :=
  match mergeT c a.tm b.tm, Nat.beq a.lim σ.lim, Nat.beq b.lim σ.lim, Nat.ble (max a.nxt b.nxt) σ.lim with
  | some tm, true, true, true => some { σ with tm := tm, own := mergeM c σ.nxt k b.own a.own, nxt := max a.nxt b.nxt }
  | _, _, _, _ => none
/-! Lists that grow, as open ones -/
structure OL where
  j : Nat
  n : Tm
  t : Tm
  e : Nat
  z : Nat
def appC : Tm → Tm → Tm
  | .cons h t, r => .cons h (appC t r)
  | _, r => r
def rowsC (ks : List SK) : Nat → List SV → Option Tm
  | 0, cs => match cs with
    | [] => some .nil
    | _ => none
  | n + 1, cs => match cellsT ks (cs.take ks.length), rowsC ks n (cs.drop ks.length) with
    | some u, some r => some (appC u r)
    | _, _ => none
def openT (own : Mem) (ks : List SK) (s : SV) : Option OL :=
  match s with
  | .og j ks' n t => match eqKs ks ks', find own j with
    | true, some sb => match sb.row with
      | some (e, z, 0) => some ⟨j, n, t, e, z⟩
      | _ => none
    | _, _ => none
  | .gs j n => match find own j with
    | some sb => match sb.row with
      | some (e, z, k) => match Nat.beq k n, Nat.beq z ks.length, Nat.blt 0 z, rowsC ks n sb.cs with
        | true, true, true, some t => some ⟨j, .il (.ofNat n), t, e, z⟩
        | _, _, _, _ => none
      | none => none
    | none => none
  | _ => none
/-- A list that grows gets a name of its own. -/
def reopen (m : Nat) (ks : List SK) (s : SV) (x : OL) (σ : St) : St := { σ with tm := σ.tm.map (swapV s (.og m ks x.n x.t)), own := (m, ⟨[], some (x.e, x.z, 0)⟩) :: dropB σ.own x.j, nxt := m + 1 }
def isList : SV → Bool
  | .gs _ _ => true
  | .og _ _ _ _ => true
  | _ => false
/-- A slot whose lists differ. -/
def pairL : List SV → List SV → Option (SV × SV)
  | a :: x, b :: y => match isList a, isList b with
    | true, true => match SV.beq a b with
      | true => pairL x y
      | false => some (a, b)
    | _, _ => pairL x y
  | _, _ => none
def kindsC : List SV → Option (List SK)
  | [] => some []
  | s :: r => match s, kindsC r with
    | .sc k _, some l => some (k :: l)
    | _, _ => none
def kindsL (own : Mem) (s : SV) : Option (List SK) :=
  match s with
  | .og _ ks _ _ => some ks
  | .gs j (_ + 1) => match find own j with
    | some sb => match sb.row with
      | some (_, z, _) => kindsC (sb.cs.take z)
      | none => none
    | none => none
  | _ => none
def orK (a b : Option (List SK)) : Option (List SK) := match a with | some x => some x | none => b
def mergeSt0 (c : Tm) (σ a b : St) : Option St :=
  match pairL a.tm b.tm with
  | none => mergeK σ.lim c σ a b
  | some (s1, s2) => match orK (kindsL a.own s1) (kindsL b.own s2) with
    | none => mergeK σ.lim c σ a b
    | some ks => match openT a.own ks s1, openT b.own ks s2 with
      | some x, some y => match Nat.blt (max a.nxt b.nxt) σ.lim, Nat.beq a.lim σ.lim, Nat.beq b.lim σ.lim with
        | true, true, true => mergeK (max a.nxt b.nxt) c σ (reopen (max a.nxt b.nxt) ks s1 x a) (reopen (max a.nxt b.nxt) ks s2 y b)
        | _, _, _ => none
      | _, _ => mergeK σ.lim c σ a b
/-- Is a whole number known in both, and not the same? -/
def litApart : List SV → List SV → Bool
  | a :: x, b :: y => match a, b with
    | .sc (.int _) (.il n), .sc (.int _) (.il m) => match ieq n m with
      | true => litApart x y
      | false => true
    | _, _ => litApart x y
  | _, _ => false
def mergeSt (c : Tm) (σ a b : St) : Option St :=
  match σ.ap with
  | true => match litApart a.tm b.tm with
    | true => none
    | false => mergeSt0 c σ a b
  | false => mergeSt0 c σ a b
def mergeN (σ : St) : Out (Ex × St) → Option St
  | .ret (.normal, a) => some a
  | .br c x y => match mergeN σ x with
    | none => none
    | some a => match mergeN σ y with
      | none => none
      | some b => mergeSt c σ a b
  | _ => none

/-- Is no slot lost in a merger that all ways had? -/
def lossy : List SV → List SV → Bool
  | .un :: x, .un :: y => lossy x y
  | .un :: x, .tup [] :: y => lossy x y
  | .un :: _, _ :: _ => true
  | _ :: x, _ :: y => lossy x y
  | _, _ => false
def lossyO (tm : List SV) : Out (Ex × St) → Bool
  | .ret (_, σ) => lossy tm σ.tm
  | .br _ x y => match lossyO tm x with
    | true => lossyO tm y
    | false => false
  | .bad _ => true
def hasGuard : List Oper → Bool
  | [] => false
  | o :: r => match o.guard with
    | some _ => true
    | none => hasGuard r
/-- The ways of a region that has guards meet again. -/
def regroup (g : Bool) (σ : St) (o : Out (Ex × St)) : Out (Ex × St) :=
  match g with
  | false => o
  | true => match o with
    | .br c x y => match mergeN σ (.br c x y) with
      | some σ' => match lossyO σ'.tm (.br c x y) with
        | true => .br c x y
        | false => .ret (.normal, nameSt σ')
      | none => .br c x y
    | o => o

/-! Ways that go on meet again, those that end apart -/
structure Stl where
  n : Option St
  c : Tm
  r : Out (Ex × St)
def isF : Tm → Bool | .bl false => true | _ => false
def brO (t : Tm) (p q : Stl) : Out (Ex × St) :=
  match isF p.c with
  | true => q.r
  | false => match isF q.c with
    | true => p.r
    | false => .br t p.r q.r
/-- Those that go on, made one; the test whether a way ends; those that end. -/
def settleT (σ : St) : Out (Ex × St) → Option Stl
  | .ret (.normal, a) => some ⟨some a, .bl false, .bad 190⟩
  | .ret (.exit i, a) => some ⟨none, .bl true, .ret (.exit i, a)⟩
  | .ret (.ret, a) => some ⟨none, .bl true, .ret (.ret, a)⟩
  | .bad _ => none
  | .br t x y => match settleT σ x with
    | none => none
    | some p => match settleT σ y with
      | none => none
      | some q => match p.n, q.n with
        | some a, some b => match mergeSt t σ a b with
          | none => none
          | some m => some ⟨some m, mkIteB t p.c q.c, brO t p q⟩
        | some a, none => some ⟨some a, mkIteB t p.c q.c, brO t p q⟩
        | none, some b => some ⟨some b, mkIteB t p.c q.c, brO t p q⟩
        | none, none => some ⟨none, .bl true, .br t p.r q.r⟩
def normals : Out (Ex × St) → Nat
  | .ret (.normal, _) => 1
  | .ret _ => 0
  | .bad _ => 0
  | .br _ x y => normals x + normals y
def lossyN (tm : List SV) : Out (Ex × St) → Bool
  | .ret (.normal, σ) => lossy tm σ.tm
  | .ret _ => true
  | .br _ x y => match lossyN tm x with
    | true => lossyN tm y
    | false => false
  | .bad _ => true
def settle (σ : St) (o : Out (Ex × St)) : Out (Ex × St) :=
  match o with
  | .br t x y => match Nat.ble 2 (normals (.br t x y)) with
    | false => .br t x y
    | true => match settleT σ (.br t x y) with
      | some ⟨some m, c, r⟩ => match lossyN m.tm (.br t x y) with
        | true => .br t x y
        | false => match isF c with
          | true => .ret (.normal, nameSt { m with pc := σ.pc, ro := σ.ro })
          | false => .br c r (.ret (.normal, nameSt { m with pc := addF σ.pc c false, ro := σ.ro }))
      | _ => .br t x y
  | o => o

/-! A state made plain before it is handed on: for the kernel, which puts off whatever is not asked for -/
def fNat {α : Type} (n : Nat) (k : Nat → α) : α := Nat.rec (motive := fun _ => α) (k 0) (fun m _ => k (Nat.succ m)) n
theorem fNat_eq {α : Type} (n : Nat) (k : Nat → α) : fNat n k = k n := by cases n <;> rfl
def fMem {α : Type} (l : Mem) (k : Mem → α) : α :=
  List.rec (motive := fun _ => (Mem → α) → α) (fun k => k []) (fun p _ ih k => fNat p.1 fun j => fList p.2.cs fun cs => match p.2.row with
    | none => ih fun r => k ((j, ⟨cs, none⟩) :: r)
    | some x => ih fun r => k ((j, ⟨cs, some x⟩) :: r)) l k
theorem fMem_cons {α : Type} (j : Nat) (cs : List SV) (row : Option (Nat × Nat × Nat)) (r : Mem) (k : Mem → α) : fMem ((j, ⟨cs, row⟩) :: r) k = fNat j fun j => fList cs fun cs => match row with
    | none => fMem r fun r => k ((j, ⟨cs, none⟩) :: r)
    | some x => fMem r fun r => k ((j, ⟨cs, some x⟩) :: r) := rfl
theorem fMem_eq {α : Type} : ∀ (l : Mem) (k : Mem → α), fMem l k = k l
  | [], k => rfl
  | (j, ⟨cs, row⟩) :: r, k => by
    rw [fMem_cons, fNat_eq, fList_eq]
    cases row with
    | none => exact fMem_eq r _
    | some x => exact fMem_eq r _
def fHead {α β : Type} (l : List β) (k : List β → α) : α := List.rec (motive := fun _ => α) (k []) (fun x r _ => k (x :: r)) l
theorem fHead_eq {α β : Type} (l : List β) (k : List β → α) : fHead l k = k l := by cases l <;> rfl
def fSt {α : Type} (σ : St) (k : St → α) : α :=
  fList σ.tm fun tm => fMem σ.own fun own => fHead σ.ro fun ro => fNat σ.lo fun lo => fNat σ.nxt fun nxt => fNat σ.lim fun lim => fNat σ.sz fun sz => fHead σ.pc fun pc => fHead σ.sw fun sw => match σ.ap with
    | true => k ⟨tm, own, ro, lo, nxt, lim, sz, pc, true, sw⟩
    | false => k ⟨tm, own, ro, lo, nxt, lim, sz, pc, false, sw⟩
theorem fSt_eq {α : Type} (σ : St) (k : St → α) : fSt σ k = k σ := by
  obtain ⟨tm, own, ro, lo, nxt, lim, sz, pc, ap, sw⟩ := σ
  cases ap <;> simp only [fSt, fList_eq, fMem_eq, fHead_eq, fNat_eq]

/-! Blocks that nothing names are forgotten -/
def nm0 (s : SV) (l : List Nat) : List Nat :=
  match s with
  | .ptr j _ => j :: l
  | .sl j _ _ => j :: l
  | .gs j _ => j :: l
  | .os j _ _ => j :: l
  | .og j _ _ _ => j :: l
  | .rp j _ _ _ _ => j :: l
  | _ => l
def nmL (f : SV → List Nat → List Nat) (cs : List SV) (l : List Nat) : List Nat := List.rec (motive := fun _ => List Nat) l (fun s _ ih => f s ih) cs
def nm1 (s : SV) (l : List Nat) : List Nat :=
  match s with
  | .agg cs => nmL nm0 cs l
  | .fn _ a c => nmL nm0 a (nmL nm0 c l)
  | s => nm0 s l
def nm2 (s : SV) (l : List Nat) : List Nat :=
  match s with
  | .tup cs => nmL nm1 cs l
  | s => nm1 s l
def nmM (mem : Mem) (l : List Nat) : List Nat := List.rec (motive := fun _ => List Nat) l (fun p _ ih => nmL nm1 p.2.cs ih) mem
def keepB (lo : Nat) (l : List Nat) : Mem → Mem
  | [] => []
  | (j, sb) :: r => match Nat.blt j lo with
    | true => (j, sb) :: keepB lo l r
    | false => match memN l j with
      | true => (j, sb) :: keepB lo l r
      | false => keepB lo l r
/-- The blocks of the function's own that nothing names are forgotten; those of its caller stay. -/
def gc (σ : St) : St := { σ with own := keepB σ.lo (nmL nm2 σ.tm (nmM σ.own [])) σ.own }

def regS (run : Code → St → Out (Ex × St)) (ctx : Ctx) (P : Program) (ops : List Oper) (draw : Bool) (σ : St) : Out (Ex × St) :=
  regroup (hasGuard ops) σ ((region (callWith run ctx P) P ops draw σ).bind fun σ => .ret (.normal, σ))
def seqS (run : Code → St → Out (Ex × St)) (x y : Code) (σ : St) : Out (Ex × St) :=
  (run x σ).bind fun r => match r with
      | (.normal, σ) => run y σ
      | r => .ret r
def condB (run : Code → St → Out (Ex × St)) (t : Tm) (x y : Code) (σ : St) : Out (Ex × St) :=
  match mergeN σ (.br t (run x { σ with pc := addF σ.pc t true }) (run y { σ with pc := addF σ.pc t false })) with
          | some σ' => .ret (.normal, nameSt σ')
          | none => settle σ (.br t (run x { σ with pc := addF σ.pc t true }) (run y { σ with pc := addF σ.pc t false }))
def condS (run : Code → St → Out (Ex × St)) (c : Operand) (x y : Code) (σ : St) : Out (Ex × St) :=
  match evalO σ.tm c with
      | .sc .bool t => match decT σ.pc t with
        | some true => run x σ
        | some false => run y σ
        | none => condB run t x y σ
      | _ => .bad 181
def blockS (run : Code → St → Out (Ex × St)) (id : Nat) (c : Code) (σ : St) : Out (Ex × St) :=
  settle σ ((run c σ).bind fun r => match r with
      | (.exit i, σ) => match Nat.beq i id with
        | true => .ret (.normal, σ)
        | false => .ret (.exit i, σ)
      | r => .ret r)
def loopS (run : Code → St → Out (Ex × St)) (ctx : Ctx) (c : Code) (σ : St) : Out (Ex × St) :=
  match ctx.cc c with
      | some L => L σ
      | none => (run c σ).bind fun r => match r with
        | (.normal, σ) => fSt (gc σ) fun σ => run (.loop c) σ
        | r => .ret r
def exec (ctx : Ctx) (P : Program) : Nat → Code → St → Out (Ex × St)
  | 0, _, _ => .bad 180
  | n + 1, c, σ => match c with
    | .skip => .ret (.normal, σ)
    | .label _ => .ret (.normal, σ)
    | .region _ ops draw => regS (exec ctx P n) ctx P ops.toList draw σ
    | .seq x y => seqS (exec ctx P n) x y σ
    | .cond c x y => condS (exec ctx P n) c x y σ
    | .block id c => blockS (exec ctx P n) id c σ
    | .loop c => loopS (exec ctx P n) ctx c σ
    | .exit id => .ret (.exit id, σ)
    | .ret => .ret (.ret, σ)
    | _ => .bad 182

def callHn (ctx : Ctx) (P : Program) (n : Nat) : Hnd := callWith (exec ctx P n) ctx P
def call (ctx : Ctx) (P : Program) (n : Nat) : Nat → List SV → Mm → PC → Out Res := callH (exec ctx P n) ctx P

end Go.Sx
