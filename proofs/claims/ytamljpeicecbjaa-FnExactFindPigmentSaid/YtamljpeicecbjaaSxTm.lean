/- Terms of a symbolic executor and what they stand for; every rewriting of terms here keeps what they stand for. No condition. -/
import Derived.WalkKit
set_option linter.unusedVariables false
set_option linter.unusedSimpArgs false
namespace Go.Sx
open Go

/-- What a term stands for: a bool, a whole number, the bits of a float (NaN always the same bits), a text, or a list of these. -/
inductive Sc where
  | b (x : Bool) | i (x : Int) | f (x : Nat) | s (x : List UInt8) | nil | cons (h t : Sc)
  deriving Inhabited, DecidableEq

namespace Sc
def toB : Sc → Bool | .b x => x | _ => false
def toI : Sc → Int | .i x => x | _ => 0
def toF : Sc → Nat | .f x => x | _ => 0
def toS : Sc → List UInt8 | .s x => x | _ => []
def at_ : Nat → Sc → Sc
  | 0, .cons h _ => h
  | n + 1, .cons _ t => at_ n t
  | _, _ => .nil
@[simp] theorem toB_b (x : Bool) : (Sc.b x).toB = x := rfl
@[simp] theorem toI_i (x : Int) : (Sc.i x).toI = x := rfl
@[simp] theorem toF_f (x : Nat) : (Sc.f x).toF = x := rfl
@[simp] theorem toS_s (x : List UInt8) : (Sc.s x).toS = x := rfl
/-- The list that a row of 'cons' stands for. -/
def list : Sc → List Sc
  | .cons h t => h :: list t
  | _ => []
def ofList : List Sc → Sc
  | [] => .nil
  | h :: t => .cons h (ofList t)
@[simp] theorem at_zero (h t : Sc) : at_ 0 (.cons h t) = h := rfl
@[simp] theorem at_succ (n : Nat) (h t : Sc) : at_ (n + 1) (.cons h t) = at_ n t := rfl
end Sc

/-- The one NaN. -/
def nanOf : FloatKind → Nat | .f32 => 0x7fc00000 | .f64 => 0x7ff8000000000000
def isNan (k : FloatKind) (x : Nat) : Bool := (k.format.read x).isNaN
/-- The bits of a float, those of every NaN the same. -/
def canon (k : FloatKind) (x : Nat) : Nat := if isNan k x then nanOf k else x

namespace F
def add (k : FloatKind) (x y : Nat) : Nat := (k.format.add x y).getD (nanOf k)
def sub (k : FloatKind) (x y : Nat) : Nat := (k.format.sub x y).getD (nanOf k)
def mul (k : FloatKind) (x y : Nat) : Nat := (k.format.mul x y).getD (nanOf k)
def div (k : FloatKind) (x y : Nat) : Nat := (k.format.div x y).getD (nanOf k)
def eq (k : FloatKind) (x y : Nat) : Bool := k.format.order x y == some .eq
def lt (k : FloatKind) (x y : Nat) : Bool := k.format.order x y == some .lt
def le (k : FloatKind) (x y : Nat) : Bool := k.format.order x y == some .lt || k.format.order x y == some .eq
def neg (k : FloatKind) (x : Nat) : Nat := canon k (Op.negFloat k x)
/-- A float of one kind as one of the other kind; NaN where it is NaN. -/
def conv (s d : FloatKind) (x : Nat) : Nat :=
  if s = d then x else
  match s.decode x with
  | .nan _ _ => nanOf d
  | y => d.encode y
/-- The conversion has an answer that Go fixes: no number too great for the kind. -/
def convOk (s d : FloatKind) (x : Nat) : Bool :=
  if s = d then true else
  match s.decode x with
  | .number n m e => !(d.decode (d.encode (.number n m e))).isInfinity
  | _ => true
/-- The number without its sign. -/
def abs (k : FloatKind) (x : Nat) : Nat := if isNan k x then nanOf k else x % k.format.signWeight
def fin (k : FloatKind) (x : Nat) : Bool := match k.format.read x with | .number _ _ _ => true | _ => false
def sqrt (x : Nat) : Nat := (FloatKind.f64.format.sqrt x).getD (nanOf .f64)
def floor (x : Nat) : Nat :=
  match FloatKind.f64.decode x with
  | .nan _ _ => nanOf .f64
  | d => FloatKind.f64.encode (d.integral .down)
def toInt (s : FloatKind) (x : Nat) : Int := ((s.decode x).toInt .zero).getD 0
def toIntOk (s : FloatKind) (d : IntKind) (x : Nat) : Bool :=
  match (s.decode x).toInt .zero with
  | some n => decide (d.min ≤ n) && decide (n ≤ d.max)
  | none => false
end F

/-! Numbers that are not below nought -/
/-- No NaN, and not below nought. -/
def okD : Ieee.Datum → Bool
  | .number s m _ => !s || m == 0
  | .infinity s => !s
  | .nan _ _ => false
theorem okD_signed {s : Bool} {m : Nat} (h : (!s || m == 0) = true) (u : Nat) : 0 ≤ Ieee.signed s m u := by
  unfold Ieee.signed
  cases s
  · simp only [Bool.false_eq_true, if_false]; exact Int.natCast_nonneg _
  · simp only [Bool.not_true, Bool.false_or, beq_iff_eq] at h
    subst h
    simp
theorem le0_iff (k : FloatKind) (x : Nat) : F.le k 0 x = okD (k.format.read x) := by
  have h0 : k.format.read 0 = .number false 0 k.format.leastPlace := by cases k <;> rfl
  unfold F.le Ieee.Format.order
  rw [h0]
  cases k.format.read x with
  | number s m i =>
    have e : ∀ u : Nat, Ieee.signed false 0 u = 0 := fun u => by simp [Ieee.signed]
    simp only [Ieee.Datum.order, e, okD]
    generalize (i - min k.format.leastPlace i).toNat = u
    cases s
    · have : 0 ≤ Ieee.signed false m u := okD_signed rfl u
      rcases Int.lt_or_eq_of_le this with hl | hl
      · have : compare 0 (Ieee.signed false m u) = .lt := by rw [Int.compare_eq_lt]; exact hl
        simp [this]
      · rw [← hl]; simp
    · cases m with
      | zero => simp [Ieee.signed]
      | succ m =>
        have hl : Ieee.signed true (m + 1) u < 0 := by
          have : 0 < (m + 1) <<< u := by rw [Nat.shiftLeft_eq]; exact Nat.mul_pos (Nat.succ_pos m) (Nat.pow_pos (by decide))
          simp only [Ieee.signed, if_true]
          omega
        have : compare 0 (Ieee.signed true (m + 1) u) = .gt := by rw [Int.compare_eq_gt]; exact hl
        simp [this]
  | infinity s => cases s <;> simp [Ieee.Datum.order, okD]
  | nan s t => simp [Ieee.Datum.order, okD]
theorem okD_rung (k : FloatKind) {r : Nat} (h : r ≤ k.format.infRung) : okD (k.format.read r) = true := by
  unfold Ieee.Format.read
  cases k
  · have e1 : FloatKind.f32.format.signWeight = 2147483648 := by decide
    have e2 : FloatKind.f32.format.infRung = 2139095040 := by decide
    rw [e1, e2]
    rw [e2] at h
    have hd : r / 2147483648 = 0 := by omega
    have hm : r % 2147483648 = r := by omega
    simp only [hd, hm]
    split
    · simp [okD]
    · split
      · simp [okD]
      · split
        · simp [okD]
        · omega
  · have e1 : FloatKind.f64.format.signWeight = 9223372036854775808 := by decide
    have e2 : FloatKind.f64.format.infRung = 9218868437227405312 := by decide
    rw [e1, e2]
    rw [e2] at h
    have hd : r / 9223372036854775808 = 0 := by omega
    have hm : r % 9223372036854775808 = r := by omega
    simp only [hd, hm]
    split
    · simp [okD]
    · split
      · simp [okD]
      · split
        · simp [okD]
        · omega
theorem okD_write (k : FloatKind) {d : Ieee.Datum} (h : okD d = true) : okD (k.format.read (k.format.write d)) = true := by
  cases d with
  | number s m e =>
    simp only [Ieee.Format.write, Ieee.Format.nearest, Ieee.Format.word]
    cases s
    · split
      · exact okD_rung k (Nat.zero_le _)
      · simp only [Bool.false_eq_true, if_false]
        exact okD_rung k (Nat.min_le_right ..)
    · simp only [okD, Bool.not_true, Bool.false_or, beq_iff_eq] at h
      subst h
      rw [if_pos rfl, if_pos rfl]
      cases k <;> decide
  | infinity s =>
    cases s
    · simp only [Ieee.Format.write, Ieee.Format.word, Bool.false_eq_true, if_false]
      exact okD_rung k (Nat.le_refl _)
    · simp [okD] at h
  | nan s t => simp [okD] at h
theorem add_nn {k : FloatKind} {x y : Nat} (hx : F.le k 0 x = true) (hy : F.le k 0 y = true) : F.le k 0 (F.add k x y) = true := by
  rw [le0_iff] at *
  unfold F.add Ieee.Format.add
  revert hx hy
  generalize k.format.read x = a
  generalize k.format.read y = b
  intro hx hy
  have : ∃ d, a.sum b = some d ∧ okD d = true := by
    cases a with
    | nan _ _ => simp [okD] at hx
    | infinity s =>
      cases b with
      | nan _ _ => simp [okD] at hy
      | infinity t =>
        simp only [okD, Bool.not_eq_true'] at hx hy
        subst hx; subst hy
        exact ⟨_, rfl, rfl⟩
      | number t n j => exact ⟨_, rfl, hx⟩
    | number s m i =>
      cases b with
      | nan _ _ => simp [okD] at hy
      | infinity t => exact ⟨_, rfl, hy⟩
      | number t n j =>
        refine ⟨_, rfl, ?_⟩
        have h1 := okD_signed hx (i - min i j).toNat
        have h2 := okD_signed hy (j - min i j).toNat
        simp only [okD]
        split
        · rename_i h0; rw [h0]; simp
        · rename_i h0
          have : ¬ Ieee.signed s m (i - min i j).toNat + Ieee.signed t n (j - min i j).toNat < 0 := by omega
          simp [this]
  obtain ⟨d, hd, hok⟩ := this
  rw [hd]
  exact okD_write k hok
theorem mul_nn {k : FloatKind} {x y : Nat} (hx : F.le k 0 x = true) (hy : F.le k 0 y = true) (fx : F.fin k x = true) (fy : F.fin k y = true) : F.le k 0 (F.mul k x y) = true := by
  rw [le0_iff] at *
  unfold F.fin at fx fy
  unfold F.mul Ieee.Format.mul
  revert hx hy fx fy
  generalize k.format.read x = a
  generalize k.format.read y = b
  intro hx hy fx fy
  have : ∃ d, a.product b = some d ∧ okD d = true := by
    cases a with
    | nan _ _ => simp at fx
    | infinity s => simp at fx
    | number s m i =>
      cases b with
      | nan _ _ => simp at fy
      | infinity t => simp at fy
      | number t n j =>
        refine ⟨_, rfl, ?_⟩
        simp only [okD] at hx hy ⊢
        cases s <;> cases t <;> simp_all
  obtain ⟨d, hd, hok⟩ := this
  rw [hd]
  exact okD_write k hok

inductive Opc where
  | notb | eqb
  | addi (k : IntKind) | subi (k : IntKind) | muli (k : IntKind) | quoi (k : IntKind) | remi (k : IntKind)
  | andi (k : IntKind) | ori (k : IntKind) | xori (k : IntKind) | andnoti (k : IntKind) | shl (k : IntKind) | shr (k : IntKind) | wrap (k : IntKind)
  | eqi | lti | lei
  | fadd (k : FloatKind) | fsub (k : FloatKind) | fmul (k : FloatKind) | fdiv (k : FloatKind)
  | feq (k : FloatKind) | flt (k : FloatKind) | fle (k : FloatKind) | fneg (k : FloatKind) | fnan (k : FloatKind)
  | i2f (k : FloatKind) | conv (s d : FloatKind) | convok (s d : FloatKind) | f2i (s : FloatKind) | f2iok (s : FloatKind) (d : IntKind)
  | cat | catok | eqs | lens | ats | eqv
  | fbits (k : FloatKind) | fabs (k : FloatKind) | ffin (k : FloatKind) | fsqrt | ffloor
  deriving Inhabited

def ki : IntKind → Nat | .i8 => 0 | .i16 => 1 | .i32 => 2 | .i64 => 3 | .u8 => 4 | .u16 => 5 | .u32 => 6 | .u64 => 7
def kf : FloatKind → Nat | .f32 => 0 | .f64 => 1
def ik (n : Nat) : IntKind := match n % 8 with | 0 => .i8 | 1 => .i16 | 2 => .i32 | 3 => .i64 | 4 => .u8 | 5 => .u16 | 6 => .u32 | _ => .u64
def fk (n : Nat) : FloatKind := match n % 2 with | 0 => .f32 | _ => .f64

/-- A number for each operation: for a quick test whether two are one. -/
def Opc.n : Opc → Nat
  | .notb => 0 | .eqb => 1 | .eqi => 2 | .lti => 3 | .lei => 4 | .cat => 5 | .eqs => 6 | .lens => 7 | .ats => 8 | .catok => 9 | .eqv => 10
  | .addi k => 16 + ki k | .subi k => 24 + ki k | .muli k => 32 + ki k | .quoi k => 40 + ki k | .remi k => 48 + ki k
  | .andi k => 56 + ki k | .ori k => 64 + ki k | .xori k => 72 + ki k | .andnoti k => 80 + ki k | .shl k => 88 + ki k | .shr k => 96 + ki k | .wrap k => 104 + ki k
  | .fadd k => 112 + kf k | .fsub k => 114 + kf k | .fmul k => 116 + kf k | .fdiv k => 118 + kf k
  | .feq k => 120 + kf k | .flt k => 122 + kf k | .fle k => 124 + kf k | .fneg k => 126 + kf k | .fnan k => 128 + kf k
  | .i2f k => 130 + kf k | .f2i k => 132 + kf k
  | .conv s d => 136 + 2 * kf s + kf d | .convok s d => 140 + 2 * kf s + kf d
  | .f2iok s d => 144 + 8 * kf s + ki d
  | .fbits k => 160 + kf k | .fabs k => 162 + kf k | .ffin k => 164 + kf k | .fsqrt => 166 | .ffloor => 167

def Opc.den : Opc → Sc → Sc → Sc
  | .notb, a, _ => .b (!a.toB)
  | .eqb, a, b => .b (a.toB == b.toB)
  | .addi k, a, b => .i (k.wrap (a.toI + b.toI))
  | .subi k, a, b => .i (k.wrap (a.toI - b.toI))
  | .muli k, a, b => .i (k.wrap (a.toI * b.toI))
  | .quoi k, a, b => .i (k.wrap (a.toI.tdiv b.toI))
  | .remi _, a, b => .i (a.toI.tmod b.toI)
  | .andi k, a, b => .i (k.wrap (BitVec.ofInt k.bits a.toI &&& BitVec.ofInt k.bits b.toI).toNat)
  | .ori k, a, b => .i (k.wrap (BitVec.ofInt k.bits a.toI ||| BitVec.ofInt k.bits b.toI).toNat)
  | .xori k, a, b => .i (k.wrap (BitVec.ofInt k.bits a.toI ^^^ BitVec.ofInt k.bits b.toI).toNat)
  | .andnoti k, a, b => .i (k.wrap (BitVec.ofInt k.bits a.toI &&& ~~~ BitVec.ofInt k.bits b.toI).toNat)
  | .shl k, a, b => .i (k.wrap (a.toI * 2 ^ (min b.toI.toNat k.bits)))
  | .shr k, a, b => .i (a.toI.fdiv (2 ^ (min b.toI.toNat k.bits)))
  | .wrap k, a, _ => .i (k.wrap a.toI)
  | .eqi, a, b => .b (decide (a.toI = b.toI))
  | .lti, a, b => .b (decide (a.toI < b.toI))
  | .lei, a, b => .b (decide (a.toI ≤ b.toI))
  | .fadd k, a, b => .f (F.add k a.toF b.toF)
  | .fsub k, a, b => .f (F.sub k a.toF b.toF)
  | .fmul k, a, b => .f (F.mul k a.toF b.toF)
  | .fdiv k, a, b => .f (F.div k a.toF b.toF)
  | .feq k, a, b => .b (F.eq k a.toF b.toF)
  | .flt k, a, b => .b (F.lt k a.toF b.toF)
  | .fle k, a, b => .b (F.le k a.toF b.toF)
  | .fneg k, a, _ => .f (F.neg k a.toF)
  | .fnan k, a, _ => .b (isNan k a.toF)
  | .i2f k, a, _ => .f (k.nearest a.toI)
  | .conv s d, a, _ => .f (F.conv s d a.toF)
  | .convok s d, a, _ => .b (F.convOk s d a.toF)
  | .f2i s, a, _ => .i (F.toInt s a.toF)
  | .f2iok s d, a, _ => .b (F.toIntOk s d a.toF)
  | .cat, a, b => .s (a.toS ++ b.toS)
  | .catok, a, b => .b (decide (((a.toS.length + b.toS.length : Nat) : Int) ≤ IntKind.i64.max))
  | .eqs, a, b => .b (decide (a.toS = b.toS))
  | .lens, a, _ => .i a.toS.length
  | .ats, a, b => .i ((a.toS.getD b.toI.toNat 0).toNat)
  | .eqv, a, b => .b (decide (a = b))
  | .fbits _, a, _ => .i a.toF
  | .fabs k, a, _ => .f (F.abs k a.toF)
  | .ffin k, a, _ => .b (F.fin k a.toF)
  | .fsqrt, a, _ => .f (F.sqrt a.toF)
  | .ffloor, a, _ => .f (F.floor a.toF)

inductive Tm where
  | var (n : Nat)
  | bl (x : Bool) | il (x : Int) | fl (x : Nat) | sl (x : List UInt8)
  | nil | cons (h t : Tm)
  | op (o : Opc) (a b : Tm)
  | ite (c a b : Tm)
  | app (f : Nat) (a : Tm)
  | nth (n : Nat) (a : Tm)
  deriving Inhabited

structure Env where
  v : Nat → Sc
  fn : Nat → Sc → Sc

def Tm.den (E : Env) : Tm → Sc
  | .var n => E.v n
  | .bl x => .b x | .il x => .i x | .fl x => .f x | .sl x => .s x
  | .nil => .nil
  | .cons h t => .cons (h.den E) (t.den E)
  | .op o a b => o.den (a.den E) (b.den E)
  | .ite c a b => if (c.den E).toB then a.den E else b.den E
  | .app f a => E.fn f (a.den E)
  | .nth n a => (a.den E).at_ n

/-! Equality of terms, for the kernel -/
def ieq : Int → Int → Bool
  | .ofNat a, .ofNat b => Nat.beq a b
  | .negSucc a, .negSucc b => Nat.beq a b
  | _, _ => false
def beqs : List UInt8 → List UInt8 → Bool
  | [], [] => true
  | a :: x, b :: y => Nat.beq a.toNat b.toNat && beqs x y
  | _, _ => false
def beqb : Bool → Bool → Bool
  | true, true => true
  | false, false => true
  | _, _ => false

def Tm.beq : Tm → Tm → Bool
  | .var n, .var m => Nat.beq n m
  | .bl x, .bl y => beqb x y
  | .il x, .il y => ieq x y
  | .fl x, .fl y => Nat.beq x y
  | .sl x, .sl y => beqs x y
  | .nil, .nil => true
  | .cons h t, .cons h' t' => match h.beq h' with | true => t.beq t' | false => false
  | .op o a b, .op o' a' b' => match Nat.beq o.n o'.n with | true => (match a.beq a' with | true => b.beq b' | false => false) | false => false
  | .ite c a b, .ite c' a' b' => match c.beq c' with | true => (match a.beq a' with | true => b.beq b' | false => false) | false => false
  | .app f a, .app f' a' => match Nat.beq f f' with | true => a.beq a' | false => false
  | .nth n a, .nth n' a' => match Nat.beq n n' with | true => a.beq a' | false => false
  | _, _ => false

theorem ieq_eq : ∀ {a b : Int}, ieq a b = true → a = b
  | .ofNat a, .ofNat b, h => by rw [Nat.eq_of_beq_eq_true h]
  | .negSucc a, .negSucc b, h => by rw [Nat.eq_of_beq_eq_true h]
  | .ofNat _, .negSucc _, h => by cases h
  | .negSucc _, .ofNat _, h => by cases h
theorem beqs_eq : ∀ {x y : List UInt8}, beqs x y = true → x = y
  | [], [], _ => rfl
  | a :: x, b :: y, h => by
    simp only [beqs, Bool.and_eq_true] at h
    rw [beqs_eq h.2, UInt8.toNat.inj (Nat.eq_of_beq_eq_true h.1)]
  | [], _ :: _, h => by cases h
  | _ :: _, [], h => by cases h
theorem beqb_eq : ∀ {x y : Bool}, beqb x y = true → x = y := by decide
theorem ki_inj : ∀ {a b : IntKind}, ki a = ki b → a = b := by intro a b; cases a <;> cases b <;> simp [ki]
theorem kf_inj : ∀ {a b : FloatKind}, kf a = kf b → a = b := by intro a b; cases a <;> cases b <;> simp [kf]
theorem ik_ki (k : IntKind) : ik (ki k) = k := by cases k <;> rfl

def Opc.of (n : Nat) : Opc :=
  if n < 16 then (match n with | 0 => .notb | 1 => .eqb | 2 => .eqi | 3 => .lti | 4 => .lei | 5 => .cat | 6 => .eqs | 7 => .lens | 8 => .ats | 9 => .catok | _ => .eqv)
  else if n < 112 then
    (match n / 8 with | 2 => .addi (ik (n % 8)) | 3 => .subi (ik (n % 8)) | 4 => .muli (ik (n % 8)) | 5 => .quoi (ik (n % 8)) | 6 => .remi (ik (n % 8)) | 7 => .andi (ik (n % 8)) | 8 => .ori (ik (n % 8)) | 9 => .xori (ik (n % 8)) | 10 => .andnoti (ik (n % 8)) | 11 => .shl (ik (n % 8)) | 12 => .shr (ik (n % 8)) | _ => .wrap (ik (n % 8)))
  else if n < 136 then
    (match n / 2 with | 56 => .fadd (fk (n % 2)) | 57 => .fsub (fk (n % 2)) | 58 => .fmul (fk (n % 2)) | 59 => .fdiv (fk (n % 2)) | 60 => .feq (fk (n % 2)) | 61 => .flt (fk (n % 2)) | 62 => .fle (fk (n % 2)) | 63 => .fneg (fk (n % 2)) | 64 => .fnan (fk (n % 2)) | 65 => .i2f (fk (n % 2)) | _ => .f2i (fk (n % 2)))
  else if n < 140 then .conv (fk ((n - 136) / 2)) (fk (n % 2))
  else if n < 144 then .convok (fk ((n - 140) / 2)) (fk (n % 2))
  else if n < 160 then .f2iok (fk ((n - 144) / 8)) (ik (n % 8))
  else (match n with | 160 => .fbits .f32 | 161 => .fbits .f64 | 162 => .fabs .f32 | 163 => .fabs .f64 | 164 => .ffin .f32 | 165 => .ffin .f64 | 166 => .fsqrt | _ => .ffloor)
theorem Opc.of_n (o : Opc) : Opc.of o.n = o := by
  cases o <;> first
    | rfl
    | (rename_i k; cases k <;> rfl)
    | (rename_i s d; cases s <;> cases d <;> rfl)
theorem Opc.n_inj {a b : Opc} (h : a.n = b.n) : a = b := by rw [← Opc.of_n a, h, Opc.of_n]

theorem Tm.beq_eq : ∀ {a b : Tm}, a.beq b = true → a = b := by
  intro a
  induction a with
  | var n => intro b h; cases b <;> simp only [Tm.beq, Bool.false_eq_true] at h; rw [Nat.eq_of_beq_eq_true h]
  | bl x => intro b h; cases b <;> simp only [Tm.beq, Bool.false_eq_true] at h; rw [beqb_eq h]
  | il x => intro b h; cases b <;> simp only [Tm.beq, Bool.false_eq_true] at h; rw [ieq_eq h]
  | fl x => intro b h; cases b <;> simp only [Tm.beq, Bool.false_eq_true] at h; rw [Nat.eq_of_beq_eq_true h]
  | sl x => intro b h; cases b <;> simp only [Tm.beq, Bool.false_eq_true] at h; rw [beqs_eq h]
  | nil => intro b h; cases b <;> simp only [Tm.beq, Bool.false_eq_true] at h; rfl
  | cons x y ihx ihy =>
    intro b h; cases b <;> simp only [Tm.beq, Bool.false_eq_true] at h
    split at h
    · rename_i hx; rw [ihx hx, ihy h]
    · cases h
  | op o x y ihx ihy =>
    intro b h; cases b <;> simp only [Tm.beq, Bool.false_eq_true] at h
    split at h
    · rename_i ho
      split at h
      · rename_i hx; rw [ihx hx, ihy h, Opc.n_inj (Nat.eq_of_beq_eq_true ho)]
      · cases h
    · cases h
  | ite c x y ihc ihx ihy =>
    intro b h; cases b <;> simp only [Tm.beq, Bool.false_eq_true] at h
    split at h
    · rename_i hc
      split at h
      · rename_i hx; rw [ihc hc, ihx hx, ihy h]
      · cases h
    · cases h
  | app f x ih =>
    intro b h; cases b <;> simp only [Tm.beq, Bool.false_eq_true] at h
    split at h
    · rename_i hf; rw [ih h, Nat.eq_of_beq_eq_true hf]
    · cases h
  | nth n x ih =>
    intro b h; cases b <;> simp only [Tm.beq, Bool.false_eq_true] at h
    split at h
    · rename_i hf; rw [ih h, Nat.eq_of_beq_eq_true hf]
    · cases h

/-! Terms made simpler as they are made -/
def Tm.lit : Tm → Option Sc
  | .bl x => some (.b x) | .il x => some (.i x) | .fl x => some (.f x) | .sl x => some (.s x) | .nil => some .nil
  | _ => none
def Tm.ofSc : Sc → Option Tm
  | .b x => some (.bl x) | .i x => some (.il x) | .f x => some (.fl x) | .s x => some (.sl x)
  | _ => none
theorem Tm.lit_den {t : Tm} {c : Sc} (E : Env) (h : t.lit = some c) : t.den E = c := by
  cases t <;> simp [Tm.lit] at h <;> subst h <;> rfl
theorem Tm.ofSc_den {t : Tm} {c : Sc} (E : Env) (h : Tm.ofSc c = some t) : t.den E = c := by
  cases c <;> simp [Tm.ofSc] at h <;> subst h <;> rfl

/-- An operation on two terms (of one: the second is '.nil'); of literals its value. -/
def mkOp (o : Opc) (a b : Tm) : Tm :=
  match a.lit with
  | none => .op o a b
  | some x => match b.lit with
    | none => .op o a b
    | some y => match Tm.ofSc (o.den x y) with
      | some t => t
      | none => .op o a b
theorem mkOp_den (E : Env) (o : Opc) (a b : Tm) : (mkOp o a b).den E = o.den (a.den E) (b.den E) := by
  unfold mkOp
  split
  · rfl
  · rename_i x hx
    split
    · rfl
    · rename_i y hy
      split
      · rename_i t ht
        rw [Tm.ofSc_den E ht, Tm.lit_den E hx, Tm.lit_den E hy]
      · rfl

def mkNot : Tm → Tm
  | .bl x => .bl (!x)
  | .op o a b => match o with
    | .notb => a
    | o => .op .notb (.op o a b) .nil
  | .ite c a b => .ite c (mkNot a) (mkNot b)
  | t => .op .notb t .nil
theorem mkNot_den (E : Env) (t : Tm) : ((mkNot t).den E).toB = !(t.den E).toB := by
  induction t with
  | bl x => rfl
  | op o a b _ _ => cases o <;> simp [mkNot, Tm.den, Opc.den]
  | ite c a b _ iha ihb =>
    simp only [mkNot, Tm.den]
    split
    · exact iha
    · exact ihb
  | _ => simp [mkNot, Tm.den, Opc.den]

/-- One of two terms by a bool. -/
def mkIte (c a b : Tm) : Tm :=
  match c with
  | .bl true => a
  | .bl false => b
  | c => match a.beq b with
    | true => a
    | false => .ite c a b
theorem mkIte_den (E : Env) (c a b : Tm) : (mkIte c a b).den E = if (c.den E).toB then a.den E else b.den E := by
  unfold mkIte
  split
  · rfl
  · rfl
  · split
    · rename_i h
      rw [Tm.beq_eq h]; simp
    · rfl
def Tm.bl? : Tm → Option Bool | .bl x => some x | _ => none
theorem Tm.bl?_some {t : Tm} {x : Bool} (h : t.bl? = some x) : t = .bl x := by cases t <;> simp [Tm.bl?] at h; rw [h]
/-- The same for bools, the test being no choice and no negation itself. -/
def iteA (c a b : Tm) : Tm :=
  match a.bl?, b.bl? with
  | some true, some true => .bl true
  | some true, some false => c
  | some false, some true => mkNot c
  | some false, some false => .bl false
  | _, _ => match a.beq b with
    | true => a
    | false => .ite c a b
theorem iteA_den (E : Env) (c a b : Tm) : ((iteA c a b).den E).toB = if (c.den E).toB then (a.den E).toB else (b.den E).toB := by
  unfold iteA
  split
  · rename_i h1 h2; rw [Tm.bl?_some h1, Tm.bl?_some h2]; simp [Tm.den]
  · rename_i h1 h2; rw [Tm.bl?_some h1, Tm.bl?_some h2]; simp [Tm.den]
  · rename_i h1 h2; rw [Tm.bl?_some h1, Tm.bl?_some h2, mkNot_den]; simp [Tm.den]
  · rename_i h1 h2; rw [Tm.bl?_some h1, Tm.bl?_some h2]; simp [Tm.den]
  · split
    · rename_i h; rw [Tm.beq_eq h]; simp
    · simp only [Tm.den]; split <;> rfl
/-- The same for bools. -/
def mkIteB : Tm → Tm → Tm → Tm
  | .bl x, a, b => match x with
    | true => a
    | false => b
  | .ite c x y, a, b => mkIteB c (mkIteB x a b) (mkIteB y a b)
  | .op o c d, a, b => match o with
    | .notb => iteA c b a
    | o => iteA (.op o c d) a b
  | c, a, b => iteA c a b
theorem mkIteB_den (E : Env) (c : Tm) : ∀ (a b : Tm), ((mkIteB c a b).den E).toB = if (c.den E).toB then (a.den E).toB else (b.den E).toB := by
  induction c with
  | bl x => intro a b; cases x <;> rfl
  | ite c x y ihc ihx ihy =>
    intro a b
    simp only [mkIteB, ihc, ihx, ihy, Tm.den]
    split <;> rfl
  | op o c d _ _ =>
    intro a b
    by_cases ho : o = .notb
    · subst ho
      show ((iteA c b a).den E).toB = _
      rw [iteA_den]
      simp only [Tm.den, Opc.den, Sc.toB_b]
      split <;> simp_all
    · have : mkIteB (.op o c d) a b = iteA (.op o c d) a b := by cases o <;> first | rfl | exact absurd rfl ho
      rw [this, iteA_den]
  | _ => intro a b; exact iteA_den E _ a b

/-- A test of a number against a literal where the number is chosen by a bool. -/
def mkCmp (o : Opc) (b : Tm) : Tm → Tm
  | .ite c x y => mkIteB c (mkCmp o b x) (mkCmp o b y)
  | a => mkOp o a b
theorem mkCmp_den (E : Env) (o : Opc) (b : Tm) (a : Tm) : ((mkCmp o b a).den E).toB = (o.den (a.den E) (b.den E)).toB := by
  induction a with
  | ite c x y _ ihx ihy =>
    simp only [mkCmp, mkIteB_den, ihx, ihy, Tm.den]
    split <;> rfl
  | _ => simp only [mkCmp, mkOp_den]

/-! What is known on a way -/
abbrev PC := List (Tm × Bool)
def PcOk (E : Env) (pc : PC) : Prop := ∀ p, p ∈ pc → (p.1.den E).toB = p.2

def look : PC → Tm → Option Bool
  | [], _ => none
  | (t, b) :: r, u => match t.beq u with
    | true => some b
    | false => look r u
theorem look_ok {E : Env} : ∀ {pc : PC} {t : Tm} {b : Bool}, PcOk E pc → look pc t = some b → (t.den E).toB = b
  | [], _, _, _, h => by cases h
  | (t, b') :: r, u, b, hp, h => by
    simp only [look] at h
    split at h
    · rename_i he
      cases h
      rw [← Tm.beq_eq he]
      exact hp (t, b') (List.mem_cons_self ..)
    · exact look_ok (fun p hm => hp p (List.mem_cons_of_mem _ hm)) h

/-- A number that is known to be a literal. -/
def eqLit : PC → Tm → Option Int
  | [], _ => none
  | (f, v) :: r, t => match f with
    | .op o u (.il n) => match v, Nat.beq o.n 2 with
      | true, true => match u.beq t with
        | true => some n
        | false => eqLit r t
      | _, _ => eqLit r t
    | _ => eqLit r t
theorem eqLit_ok {E : Env} : ∀ {pc : PC} {t : Tm} {n : Int}, PcOk E pc → eqLit pc t = some n → (t.den E).toI = n
  | [], _, _, _, h => by cases h
  | (f, v) :: r, t, n, hp, h => by
    have hr : PcOk E r := fun p hm => hp p (List.mem_cons_of_mem _ hm)
    simp only [eqLit] at h
    split at h
    · rename_i o u m
      split at h
      · rename_i ho
        split at h
        · rename_i hu
          cases h
          have ho' : o = .eqi := Opc.n_inj (Nat.eq_of_beq_eq_true ho)
          have h1 := hp _ (List.mem_cons_self ..)
          subst ho'
          rw [← Tm.beq_eq hu]
          exact of_decide_eq_true h1
        · exact eqLit_ok hr h
      · exact eqLit_ok hr h
    · exact eqLit_ok hr h
/-- The bounds that are known of a number. -/
def loB (pc : PC) (t : Tm) : Option Int :=
  match pc with
  | [] => none
  | (f, v) :: r => match f with
    | .op o x y => match Nat.beq o.n 4, Nat.beq o.n 3, v with
      | true, _, true => match x with
        | .il a => match t.beq y with | true => some a | false => loB r t
        | _ => loB r t
      | _, true, true => match x with
        | .il a => match t.beq y with | true => some (a + 1) | false => loB r t
        | _ => loB r t
      | _, true, false => match y with
        | .il a => match t.beq x with | true => some a | false => loB r t
        | _ => loB r t
      | true, _, false => match y with
        | .il a => match t.beq x with | true => some (a + 1) | false => loB r t
        | _ => loB r t
      | _, _, _ => loB r t
    | _ => loB r t
def hiB (pc : PC) (t : Tm) : Option Int :=
  match pc with
  | [] => none
  | (f, v) :: r => match f with
    | .op o x y => match Nat.beq o.n 4, Nat.beq o.n 3, v with
      | true, _, true => match y with
        | .il a => match t.beq x with | true => some a | false => hiB r t
        | _ => hiB r t
      | _, true, true => match y with
        | .il a => match t.beq x with | true => some (a - 1) | false => hiB r t
        | _ => hiB r t
      | _, true, false => match x with
        | .il a => match t.beq y with | true => some a | false => hiB r t
        | _ => hiB r t
      | true, _, false => match x with
        | .il a => match t.beq y with | true => some (a - 1) | false => hiB r t
        | _ => hiB r t
      | _, _, _ => hiB r t
    | _ => hiB r t
theorem loB_ok {E : Env} : ∀ {pc : PC} {t : Tm} {a : Int}, PcOk E pc → loB pc t = some a → a ≤ (t.den E).toI
  | [], _, _, _, h => by cases h
  | (f, v) :: r, t, a, hp, h => by
    have hr : PcOk E r := fun p hm => hp p (List.mem_cons_of_mem _ hm)
    have h1 := hp _ (List.mem_cons_self ..)
    simp only [loB] at h
    split at h
    · rename_i o x y
      split at h
      · have ho' : o = .lei := Opc.n_inj (Nat.eq_of_beq_eq_true (show Nat.beq o.n 4 = true by assumption))
        subst ho'
        split at h
        · split at h
          · rename_i hb; cases h; rw [Tm.beq_eq hb]; exact of_decide_eq_true h1
          · exact loB_ok hr h
        · exact loB_ok hr h
      · have ho' : o = .lti := Opc.n_inj (Nat.eq_of_beq_eq_true (show Nat.beq o.n 3 = true by assumption))
        subst ho'
        split at h
        · split at h
          · rename_i hb; cases h; rw [Tm.beq_eq hb]; exact of_decide_eq_true h1
          · exact loB_ok hr h
        · exact loB_ok hr h
      · have ho' : o = .lti := Opc.n_inj (Nat.eq_of_beq_eq_true (show Nat.beq o.n 3 = true by assumption))
        subst ho'
        split at h
        · split at h
          · rename_i hb; cases h; rw [Tm.beq_eq hb]; exact Int.not_lt.1 (of_decide_eq_false h1)
          · exact loB_ok hr h
        · exact loB_ok hr h
      · have ho' : o = .lei := Opc.n_inj (Nat.eq_of_beq_eq_true (show Nat.beq o.n 4 = true by assumption))
        subst ho'
        split at h
        · split at h
          · rename_i hb; cases h; rw [Tm.beq_eq hb]; exact Int.not_le.1 (of_decide_eq_false h1)
          · exact loB_ok hr h
        · exact loB_ok hr h
      · exact loB_ok hr h
    · exact loB_ok hr h
theorem hiB_ok {E : Env} : ∀ {pc : PC} {t : Tm} {a : Int}, PcOk E pc → hiB pc t = some a → (t.den E).toI ≤ a
  | [], _, _, _, h => by cases h
  | (f, v) :: r, t, a, hp, h => by
    have hr : PcOk E r := fun p hm => hp p (List.mem_cons_of_mem _ hm)
    have h1 := hp _ (List.mem_cons_self ..)
    simp only [hiB] at h
    split at h
    · rename_i o x y
      split at h
      · have ho' : o = .lei := Opc.n_inj (Nat.eq_of_beq_eq_true (show Nat.beq o.n 4 = true by assumption))
        subst ho'
        split at h
        · split at h
          · rename_i hb; cases h; rw [Tm.beq_eq hb]; exact of_decide_eq_true h1
          · exact hiB_ok hr h
        · exact hiB_ok hr h
      · have ho' : o = .lti := Opc.n_inj (Nat.eq_of_beq_eq_true (show Nat.beq o.n 3 = true by assumption))
        subst ho'
        split at h
        · split at h
          · rename_i hb; cases h; rw [Tm.beq_eq hb]
            have h2 : (x.den E).toI < _ := of_decide_eq_true h1
            exact Int.le_sub_one_of_lt h2
          · exact hiB_ok hr h
        · exact hiB_ok hr h
      · have ho' : o = .lti := Opc.n_inj (Nat.eq_of_beq_eq_true (show Nat.beq o.n 3 = true by assumption))
        subst ho'
        split at h
        · split at h
          · rename_i hb; cases h; rw [Tm.beq_eq hb]; exact Int.not_lt.1 (of_decide_eq_false h1)
          · exact hiB_ok hr h
        · exact hiB_ok hr h
      · have ho' : o = .lei := Opc.n_inj (Nat.eq_of_beq_eq_true (show Nat.beq o.n 4 = true by assumption))
        subst ho'
        split at h
        · split at h
          · rename_i hb; cases h; rw [Tm.beq_eq hb]
            have h2 := Int.not_le.1 (of_decide_eq_false h1)
            exact Int.le_sub_one_of_lt h2
          · exact hiB_ok hr h
        · exact hiB_ok hr h
      · exact hiB_ok hr h
    · exact hiB_ok hr h
/-- A number of which all but one that its bounds let are shut out. -/
def lone (pc : PC) (t : Tm) (hi : Int) : Nat → Int → Option Int
  | 0, _ => none
  | n + 1, lo => match ieq lo hi with
    | true => some lo
    | false => match look pc (.op .eqi t (.il lo)) with
      | some false => lone pc t hi n (lo + 1)
      | _ => none
theorem lone_ok {E : Env} {pc : PC} (hp : PcOk E pc) {t : Tm} {hi : Int} (hh : (t.den E).toI ≤ hi) : ∀ (n : Nat) {lo x : Int}, lo ≤ (t.den E).toI → lone pc t hi n lo = some x → (t.den E).toI = x
  | 0, _, _, _, h => by cases h
  | n + 1, lo, x, hl, h => by
    simp only [lone] at h
    split at h
    · rename_i he; have := ieq_eq he; cases h; omega
    · split at h
      · rename_i hk
        have h1 : ¬ (t.den E).toI = lo := of_decide_eq_false (look_ok hp hk)
        exact lone_ok hp hh n (by omega) h
      · cases h
def rangeLit (pc : PC) (t : Tm) : Option Int :=
  match loB pc t with
  | none => none
  | some lo => match hiB pc t with
    | none => none
    | some hi => lone pc t hi 20 lo
theorem rangeLit_ok {E : Env} {pc : PC} (hp : PcOk E pc) {t : Tm} {x : Int} (h : rangeLit pc t = some x) : (t.den E).toI = x := by
  unfold rangeLit at h
  split at h
  · cases h
  · rename_i lo hlo
    split at h
    · cases h
    · rename_i hi hhi
      exact lone_ok hp (hiB_ok hp hhi) 20 (loB_ok hp hlo) h

def Opc.intBin : Opc → Bool
  | .addi _ => true | .subi _ => true | .muli _ => true | .quoi _ => true | .remi _ => true
  | .andi _ => true | .ori _ => true | .xori _ => true | .andnoti _ => true | .shl _ => true | .shr _ => true
  | .eqi => true | .lti => true | .lei => true
  | _ => false
/-- Is this float known to be no NaN and not below nought? -/
def nnT (pc : PC) (k : FloatKind) : Tm → Bool
  | .op o a b => match look pc (.op (.fle k) (.fl 0) (.op o a b)) with
    | some x => x
    | none => match Nat.beq o.n (112 + kf k) with
      | true => match nnT pc k a with
        | true => nnT pc k b
        | false => false
      | false => match Nat.beq o.n (116 + kf k) with
        | true => match nnT pc k a, look pc (.op (.ffin k) a .nil), look pc (.op (.ffin k) b .nil) with
          | true, some true, some true => nnT pc k b
          | _, _, _ => false
        | false => false
  | t => match look pc (.op (.fle k) (.fl 0) t) with
    | some x => x
    | none => false
theorem nnT_ok {E : Env} {pc : PC} (hp : PcOk E pc) {k : FloatKind} : ∀ {t : Tm}, nnT pc k t = true → F.le k 0 (t.den E).toF = true := by
  have base : ∀ {t : Tm} {x : Bool}, look pc (.op (.fle k) (.fl 0) t) = some x → x = true → F.le k 0 (t.den E).toF = true := fun h hx => by
    subst hx
    exact look_ok hp h
  intro t
  induction t with
  | op o a b iha ihb =>
    intro h
    simp only [nnT] at h
    split at h
    · rename_i x hx; exact base hx h
    · split at h
      · rename_i ho
        have ho' : o = .fadd k := Opc.n_inj (Nat.eq_of_beq_eq_true ho)
        subst ho'
        split at h
        · rename_i ha
          exact add_nn (iha ha) (ihb h)
        · cases h
      · split at h
        · rename_i ho
          have ho' : o = .fmul k := Opc.n_inj (Nat.eq_of_beq_eq_true ho)
          subst ho'
          split at h
          · rename_i ha h1 h2
            exact mul_nn (iha ha) (ihb h) (look_ok hp h1) (look_ok hp h2)
          · cases h
        · cases h
  | _ =>
    intro h
    simp only [nnT] at h
    split at h
    · rename_i x hx; exact base hx h
    · cases h
/-- A test whether a float is at least nought. -/
def nnFact (pc : PC) : Tm → Option Sc
  | .op o (.fl 0) b => match Nat.beq o.n 124, nnT pc .f32 b with
    | true, true => some (.b true)
    | _, _ => none
  | _ => none
/-- What is known of a term by itself. -/
def fact (pc : PC) (t : Tm) : Option Sc :=
  match look pc t with
  | some x => some (.b x)
  | none => match eqLit pc t with
    | some x => some (.i x)
    | none => match rangeLit pc t with
      | some x => some (.i x)
      | none => nnFact pc t
def evOp (o : Opc) (x y : Sc) : Option Sc :=
  match o with
  | .notb => match x with
    | .b p => some (.b (!p))
    | _ => none
  | .eqb => match x with
    | .b p => match y with
      | .b q => some (.b (beqb p q))
      | _ => none
    | _ => none
  | .wrap k => match x with
    | .i p => some (.i (k.wrap p))
    | _ => none
  | o => match o.intBin with
    | true => match x with
      | .i _ => match y with
        | .i _ => some (o.den x y)
        | _ => none
      | _ => none
    | false => none
/-- The bool or the number that a term stands for, where that is known. -/
def ev (pc : PC) : Tm → Option Sc
  | .bl x => some (.b x)
  | .il x => some (.i x)
  | .nil => some .nil
  | .ite c a b => match ev pc c with
    | some (.b true) => ev pc a
    | some (.b false) => ev pc b
    | _ => fact pc (.ite c a b)
  | .op o a b => match fact pc (.op o a b) with
    | some s => some s
    | none => match (match o with | .notb => true | .eqb => true | .wrap _ => true | o => o.intBin) with
      | false => none
      | true => match ev pc a with
        | none => none
        | some x => match ev pc b with
          | none => none
          | some y => evOp o x y
  | t => fact pc t
/-- A known value tells the truth of what it is known of. -/
def Sc.sim (x c : Sc) : Prop := match x with | .b v => c.toB = v | .i v => c.toI = v | _ => True
theorem nnFact_ok {E : Env} {pc : PC} (hp : PcOk E pc) {t : Tm} {x : Sc} (h : nnFact pc t = some x) : x.sim (t.den E) := by
  unfold nnFact at h
  split at h
  · rename_i o b
    split at h
    · rename_i ho hb
      cases h
      have ho' : o = .fle .f32 := Opc.n_inj (Nat.eq_of_beq_eq_true ho)
      subst ho'
      exact nnT_ok hp hb
    · cases h
  · cases h
theorem fact_ok {E : Env} {pc : PC} (hp : PcOk E pc) {t : Tm} {x : Sc} (h : fact pc t = some x) : x.sim (t.den E) := by
  unfold fact at h
  split at h
  · rename_i y hy; cases h; exact look_ok hp hy
  · split at h
    · rename_i y hy; cases h; exact eqLit_ok hp hy
    · split at h
      · rename_i y hy; cases h; exact rangeLit_ok hp hy
      · exact nnFact_ok hp h
theorem beqb_dec (p q : Bool) : beqb p q = (p == q) := by cases p <;> cases q <;> rfl
theorem evOp_ok {o : Opc} {x y a b z : Sc} (hx : x.sim a) (hy : y.sim b) (h : evOp o x y = some z) : z.sim (o.den a b) := by
  unfold evOp at h
  split at h
  · split at h
    · cases h; simp only [Sc.sim] at *; simp [Opc.den, hx]
    · cases h
  · split at h
    · split at h
      · cases h; simp only [Sc.sim] at *; simp [Opc.den, hx, hy, beqb_dec]
      · cases h
    · cases h
  · split at h
    · cases h; simp only [Sc.sim] at *; simp [Opc.den, hx]
    · cases h
  · split at h
    · rename_i ho
      split at h
      · split at h
        · cases h
          simp only [Sc.sim] at hx hy
          subst hx
          subst hy
          cases o <;> simp only [Opc.intBin, Bool.false_eq_true] at ho <;> rfl
        · cases h
      · cases h
    · cases h
theorem ev_ok {E : Env} {pc : PC} (hp : PcOk E pc) (t : Tm) : ∀ {x : Sc}, ev pc t = some x → x.sim (t.den E) := by
  induction t with
  | bl x => intro y h; cases h; rfl
  | il x => intro y h; cases h; rfl
  | nil => intro y h; cases h; trivial
  | ite c a b ihc iha ihb =>
    intro y h
    simp only [ev] at h
    split at h
    · rename_i hc
      have := ihc hc
      simp only [Sc.sim] at this
      simp only [Tm.den, this, if_true]
      exact iha h
    · rename_i hc
      have := ihc hc
      simp only [Sc.sim] at this
      simp only [Tm.den, this, Bool.false_eq_true, if_false]
      exact ihb h
    · exact fact_ok hp h
  | op o a b iha ihb =>
    intro y h
    simp only [ev] at h
    split at h
    · rename_i hf; cases h; exact fact_ok hp hf
    · split at h
      · cases h
      · split at h
        · cases h
        · rename_i x hx
          split at h
          · cases h
          · rename_i z hz
            exact evOp_ok (iha hx) (ihb hz) h
  | _ => intro y h; exact fact_ok hp h

def decB (pc : PC) (t : Tm) : Option Bool :=
  match ev pc t with
  | some (.b x) => some x
  | _ => none
theorem decB_ok {E : Env} {pc : PC} (hp : PcOk E pc) (t : Tm) {b : Bool} (h : decB pc t = some b) : (t.den E).toB = b := by
  unfold decB at h
  split at h
  · rename_i x hx; cases h; exact ev_ok hp t hx
  · cases h
def litI (pc : PC) (t : Tm) : Option Int :=
  match ev pc t with
  | some (.i x) => some x
  | _ => none
theorem litI_ok {E : Env} {pc : PC} (hp : PcOk E pc) {t : Tm} {x : Int} (h : litI pc t = some x) : (t.den E).toI = x := by
  unfold litI at h
  split at h
  · rename_i y hy; cases h; exact ev_ok hp t hy
  · cases h

def addF (pc : PC) : Tm → Bool → PC
  | .op o a b, v => match o with
    | .notb => addF pc a (!v)
    | o => (.op o a b, v) :: pc
  | .ite c x y, v => match x.bl? with
    | some z => match beqb z v with
      | false => addF (addF pc c false) y v
      | true => (.ite c x y, v) :: pc
    | none => match y.bl? with
      | some z => match beqb z v with
        | false => addF (addF pc c true) x v
        | true => (.ite c x y, v) :: pc
      | none => (.ite c x y, v) :: pc
  | t, v => (t, v) :: pc
theorem PcOk.cons {E : Env} {pc : PC} {t : Tm} {b : Bool} (hp : PcOk E pc) (h : (t.den E).toB = b) : PcOk E ((t, b) :: pc) := by
  intro p hm
  cases hm with
  | head => exact h
  | tail _ hm => exact hp p hm
theorem beqb_ne : ∀ {x y : Bool}, beqb x y = false → x = !y := by decide
theorem addF_ok {E : Env} (t : Tm) : ∀ {pc : PC} {b : Bool}, PcOk E pc → (t.den E).toB = b → PcOk E (addF pc t b) := by
  induction t with
  | op o x y ihx _ =>
    intro pc b hp h
    by_cases ho : o = .notb
    · subst ho
      show PcOk E (addF pc x (!b))
      exact ihx hp (by simp only [Tm.den, Opc.den, Sc.toB_b] at h; rw [← h]; simp)
    · have : addF pc (.op o x y) b = (.op o x y, b) :: pc := by
        cases o <;> first | rfl | exact absurd rfl ho
      rw [this]; exact hp.cons h
  | ite c x y ihc ihx ihy =>
    intro pc b hp h
    simp only [addF]
    split
    · rename_i z hx
      have hx' := Tm.bl?_some hx
      split
      · rename_i hz
        have hz' := beqb_ne hz
        cases hc : (c.den E).toB with
        | true => simp [Tm.den, hc, hx'] at h; subst h; cases z <;> simp at hz'
        | false =>
          simp [Tm.den, hc] at h
          exact ihy (ihc hp hc) h
      · exact hp.cons h
    · split
      · rename_i z hy
        have hy' := Tm.bl?_some hy
        split
        · rename_i hz
          have hz' := beqb_ne hz
          cases hc : (c.den E).toB with
          | false => simp [Tm.den, hc, hy'] at h; subst h; cases z <;> simp at hz'
          | true =>
            simp [Tm.den, hc] at h
            exact ihx (ihc hp hc) h
        · exact hp.cons h
      · exact hp.cons h
  | _ => intro pc b hp h; exact hp.cons h

/-- What is left of a term, its decided tests gone through. -/
def core (pc : PC) : Tm → Tm
  | .ite c a b => match decB pc c with
    | some true => core pc a
    | some false => core pc b
    | none => .ite c a b
  | t => t
/-- A test on which a term hangs, of which it is not known how it comes out. -/
def open_ (pc : PC) : Tm → Option Tm
  | .ite c a b => match decB pc c with
    | some true => open_ pc a
    | some false => open_ pc b
    | none => match open_ pc c with
      | some x => some x
      | none => some (core pc c)
  | .op _ a b => match open_ pc a with
    | some x => some x
    | none => open_ pc b
  | _ => none
/-- Is a term, by what is known, 'v' in every case? -/
def prove (v : Bool) : Nat → PC → Tm → Bool
  | 0, _, _ => false
  | n + 1, pc, t => match decB pc t with
    | some b => beqb b v
    | none => match open_ pc t with
      | none => false
      | some c => match prove v n (addF pc c true) t with
        | true => prove v n (addF pc c false) t
        | false => false
theorem prove_ok {E : Env} {v : Bool} : ∀ (n : Nat) {pc : PC} {t : Tm}, PcOk E pc → prove v n pc t = true → (t.den E).toB = v
  | 0, _, _, _, h => by cases h
  | n + 1, pc, t, hp, h => by
    simp only [prove] at h
    split at h
    · rename_i b hb; rw [decB_ok hp t hb]; exact beqb_eq h
    · split at h
      · cases h
      · rename_i c _
        split at h
        · rename_i h1
          cases hc : (c.den E).toB with
          | true => exact prove_ok n (addF_ok c hp hc) h1
          | false => exact prove_ok n (addF_ok c hp hc) h
        · cases h
/-- A test, known or proved. -/
def decT (pc : PC) (t : Tm) : Option Bool :=
  match decB pc t with
  | some b => some b
  | none => match prove true 30 pc t with
    | true => some true
    | false => match prove false 30 pc t with
      | true => some false
      | false => none
theorem decT_ok {E : Env} {pc : PC} (hp : PcOk E pc) {t : Tm} {b : Bool} (h : decT pc t = some b) : (t.den E).toB = b := by
  unfold decT at h
  split at h
  · rename_i hb; cases h; exact decB_ok hp t hb
  · split at h
    · rename_i h1; cases h; exact prove_ok _ hp h1
    · split at h
      · rename_i h1; cases h; exact prove_ok _ hp h1
      · cases h

/-! Trees of ways -/
inductive Out (α : Type) where
  | ret (a : α)
  | br (t : Tm) (x y : Out α)
  | bad (why : Nat)
namespace Out
def bind {α β : Type} : Out α → (α → Out β) → Out β
  | ret a, f => f a
  | br t x y, f => br t (x.bind f) (y.bind f)
  | bad n, _ => bad n
/-- The way that an environment takes. -/
def sel {α : Type} (E : Env) : Out α → Option α
  | ret a => some a
  | br t x y => if (t.den E).toB then x.sel E else y.sel E
  | bad _ => none
theorem sel_bind {α β : Type} (E : Env) (o : Out α) (f : α → Out β) : (o.bind f).sel E = (o.sel E).bind fun a => (f a).sel E := by
  induction o with
  | ret a => rfl
  | br t x y ihx ihy => simp only [bind, sel]; split <;> assumption
  | bad n => rfl
theorem sel_bind_some {α β : Type} {E : Env} {o : Out α} {f : α → Out β} {b : β} (h : (o.bind f).sel E = some b) :
    ∃ a, o.sel E = some a ∧ (f a).sel E = some b := by
  rw [sel_bind] at h
  cases ha : o.sel E with
  | none => simp [ha] at h
  | some a => exact ⟨a, rfl, by simpa [ha] using h⟩
end Out

/-- Two ways by a bool, or the one that is known. -/
def fork {α : Type} (pc : PC) (t : Tm) (x y : PC → Out α) : Out α :=
  match decB pc t with
  | some true => x pc
  | some false => y pc
  | none => .br t (x (addF pc t true)) (y (addF pc t false))
theorem fork_sel {α : Type} {E : Env} {pc : PC} {t : Tm} {x y : PC → Out α} {a : α} (hp : PcOk E pc) (h : (fork pc t x y).sel E = some a) :
    ∃ pc', PcOk E pc' ∧ (((t.den E).toB = true ∧ (x pc').sel E = some a) ∨ ((t.den E).toB = false ∧ (y pc').sel E = some a)) := by
  unfold fork at h
  split at h
  · rename_i hd; exact ⟨pc, hp, .inl ⟨decB_ok hp t hd, h⟩⟩
  · rename_i hd; exact ⟨pc, hp, .inr ⟨decB_ok hp t hd, h⟩⟩
  · simp only [Out.sel] at h
    split at h
    · rename_i ht; exact ⟨_, addF_ok t hp ht, .inl ⟨ht, h⟩⟩
    · rename_i ht
      have ht' : (t.den E).toB = false := by simpa using ht
      exact ⟨_, addF_ok t hp ht', .inr ⟨ht', h⟩⟩

end Go.Sx
