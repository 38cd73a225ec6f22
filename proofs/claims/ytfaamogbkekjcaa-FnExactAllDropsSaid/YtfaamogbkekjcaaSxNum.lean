/- What terms stand for: plain values; floats with one NaN. No condition. -/
import Derived.WalkKit
set_option linter.unusedVariables false
set_option linter.unusedSimpArgs false
noncomputable section
namespace Go.Sx
open Go

/-- What a term stands for: a bool, a whole number, the bits of a float (NaN always the same bits), a text, or a list of these. -/
inductive Sc where
  | b (x : Bool) | i (x : Int) | f (x : Nat) | s (x : List UInt8) | nil | cons (h t : Sc)
  deriving Inhabited, DecidableEq

namespace Sc
def toB : Sc → Bool | .b x => x | _ => false
def toI : Sc → Int | .i x => x | _ => 0
def toF : Sc → Nat | .f x => x | _ => 0
def toS : Sc → List UInt8 | .s x => x | _ => []
def at_ : Nat → Sc → Sc
  | 0, .cons h _ => h
  | n + 1, .cons _ t => at_ n t
  | _, _ => .nil
@[simp] theorem toB_b (x : Bool) : (Sc.b x).toB = x := rfl
@[simp] theorem toI_i (x : Int) : (Sc.i x).toI = x := rfl
@[simp] theorem toF_f (x : Nat) : (Sc.f x).toF = x := rfl
@[simp] theorem toS_s (x : List UInt8) : (Sc.s x).toS = x := rfl
/-- The list that a row of 'cons' stands for. -/
def list : Sc → List Sc
  | .cons h t => h :: list t
  | _ => []
def ofList : List Sc → Sc
  | [] => .nil
  | h :: t => .cons h (ofList t)
@[simp] theorem at_zero (h t : Sc) : at_ 0 (.cons h t) = h := rfl
@[simp] theorem at_succ (n : Nat) (h t : Sc) : at_ (n + 1) (.cons h t) = at_ n t := rfl
end Sc

/-- The one NaN. -/
def nanOf : FloatKind → Nat | .f32 => 0x7fc00000 | .f64 => 0x7ff8000000000000
def isNan (k : FloatKind) (x : Nat) : Bool := (k.format.read x).isNaN
/-- The bits of a float, those of every NaN the same. -/
def canon (k : FloatKind) (x : Nat) : Nat := if isNan k x then nanOf k else x

namespace F
def add (k : FloatKind) (x y : Nat) : Nat := (k.format.add x y).getD (nanOf k)
def sub (k : FloatKind) (x y : Nat) : Nat := (k.format.sub x y).getD (nanOf k)
def mul (k : FloatKind) (x y : Nat) : Nat := (k.format.mul x y).getD (nanOf k)
def div (k : FloatKind) (x y : Nat) : Nat := (k.format.div x y).getD (nanOf k)
def eq (k : FloatKind) (x y : Nat) : Bool := k.format.order x y == some .eq
def lt (k : FloatKind) (x y : Nat) : Bool := k.format.order x y == some .lt
def le (k : FloatKind) (x y : Nat) : Bool := k.format.order x y == some .lt || k.format.order x y == some .eq
def neg (k : FloatKind) (x : Nat) : Nat := canon k (Op.negFloat k x)
/-- A float of one kind as one of the other kind; NaN where it is NaN. -/
def conv (s d : FloatKind) (x : Nat) : Nat :=
  if s = d then x else
  match s.decode x with
  | .nan _ _ => nanOf d
  | y => d.encode y
/-- The conversion has an answer that Go fixes: no number too great for the kind. -/
def convOk (s d : FloatKind) (x : Nat) : Bool :=
  if s = d then true else
  match s.decode x with
  | .number n m e => !(d.decode (d.encode (.number n m e))).isInfinity
  | _ => true
/-- The number without its sign. -/
def abs (k : FloatKind) (x : Nat) : Nat := if isNan k x then nanOf k else x % k.format.signWeight
def fin (k : FloatKind) (x : Nat) : Bool := match k.format.read x with | .number _ _ _ => true | _ => false
def sqrt (x : Nat) : Nat := (FloatKind.f64.format.sqrt x).getD (nanOf .f64)
def floor (x : Nat) : Nat :=
  match FloatKind.f64.decode x with
  | .nan _ _ => nanOf .f64
  | d => FloatKind.f64.encode (d.integral .down)
def toInt (s : FloatKind) (x : Nat) : Int := ((s.decode x).toInt .zero).getD 0
def toIntOk (s : FloatKind) (d : IntKind) (x : Nat) : Bool :=
  match (s.decode x).toInt .zero with
  | some n => decide (d.min ≤ n) && decide (n ≤ d.max)
  | none => false
end F

/-! Numbers that are not below nought -/
/-- No NaN, and not below nought. -/
def okD : Ieee.Datum → Bool
  | .number s m _ => !s || m == 0
  | .infinity s => !s
  | .nan _ _ => false
theorem okD_signed {s : Bool} {m : Nat} (h : (!s || m == 0) = true) (u : Nat) : 0 ≤ Ieee.signed s m u := by
  unfold Ieee.signed
  cases s
  · simp only [Bool.false_eq_true, if_false]; exact Int.natCast_nonneg _
  · simp only [Bool.not_true, Bool.false_or, beq_iff_eq] at h
    subst h
    simp
theorem le0_iff (k : FloatKind) (x : Nat) : F.le k 0 x = okD (k.format.read x) := by
  have h0 : k.format.read 0 = .number false 0 k.format.leastPlace := by cases k <;> rfl
  unfold F.le Ieee.Format.order
  rw [h0]
  cases k.format.read x with
  | number s m i =>
    have e : ∀ u : Nat, Ieee.signed false 0 u = 0 := fun u => by simp [Ieee.signed]
    simp only [Ieee.Datum.order, e, okD]
    generalize (i - min k.format.leastPlace i).toNat = u
    cases s
    · have : 0 ≤ Ieee.signed false m u := okD_signed rfl u
      rcases Int.lt_or_eq_of_le this with hl | hl
      · have : compare 0 (Ieee.signed false m u) = .lt := by rw [Int.compare_eq_lt]; exact hl
        simp [this]
      · rw [← hl]; simp
    · cases m with
      | zero => simp [Ieee.signed]
      | succ m =>
        have hl : Ieee.signed true (m + 1) u < 0 := by
          have : 0 < (m + 1) <<< u := by rw [Nat.shiftLeft_eq]; exact Nat.mul_pos (Nat.succ_pos m) (Nat.pow_pos (by decide))
          simp only [Ieee.signed, if_true]
          omega
        have : compare 0 (Ieee.signed true (m + 1) u) = .gt := by rw [Int.compare_eq_gt]; exact hl
        simp [this]
  | infinity s => cases s <;> simp [Ieee.Datum.order, okD]
  | nan s t => simp [Ieee.Datum.order, okD]
theorem okD_rung (k : FloatKind) {r : Nat} (h : r ≤ k.format.infRung) : okD (k.format.read r) = true := by
  unfold Ieee.Format.read
  cases k
  · have e1 : FloatKind.f32.format.signWeight = 2147483648 := by decide
    have e2 : FloatKind.f32.format.infRung = 2139095040 := by decide
    rw [e1, e2]
    rw [e2] at h
    have hd : r / 2147483648 = 0 := by omega
    have hm : r % 2147483648 = r := by omega
    simp only [hd, hm]
    split
    · simp [okD]
    · split
      · simp [okD]
      · split
        · simp [okD]
        · omega
  · have e1 : FloatKind.f64.format.signWeight = 9223372036854775808 := by decide
    have e2 : FloatKind.f64.format.infRung = 9218868437227405312 := by decide
    rw [e1, e2]
    rw [e2] at h
    have hd : r / 9223372036854775808 = 0 := by omega
    have hm : r % 9223372036854775808 = r := by omega
    simp only [hd, hm]
    split
    · simp [okD]
    · split
      · simp [okD]
      · split
        · simp [okD]
        · omega
theorem okD_write (k : FloatKind) {d : Ieee.Datum} (h : okD d = true) : okD (k.format.read (k.format.write d)) = true := by
  cases d with
  | number s m e =>
    simp only [Ieee.Format.write, Ieee.Format.nearest, Ieee.Format.word]
    cases s
    · split
      · exact okD_rung k (Nat.zero_le _)
      · simp only [Bool.false_eq_true, if_false]
        exact okD_rung k (Nat.min_le_right ..)
    · simp only [okD, Bool.not_true, Bool.false_or, beq_iff_eq] at h
      subst h
      rw [if_pos rfl, if_pos rfl]
      cases k <;> decide
  | infinity s =>
    cases s
    · simp only [Ieee.Format.write, Ieee.Format.word, Bool.false_eq_true, if_false]
      exact okD_rung k (Nat.le_refl _)
    · simp [okD] at h
  | nan s t => simp [okD] at h
theorem add_nn {k : FloatKind} {x y : Nat} (hx : F.le k 0 x = true) (hy : F.le k 0 y = true) : F.le k 0 (F.add k x y) = true := by
  rw [le0_iff] at *
  unfold F.add Ieee.Format.add
  revert hx hy
  generalize k.format.read x = a
  generalize k.format.read y = b
  intro hx hy
  have : ∃ d, a.sum b = some d ∧ okD d = true := by
    cases a with
    | nan _ _ => simp [okD] at hx
    | infinity s =>
      cases b with
      | nan _ _ => simp [okD] at hy
      | infinity t =>
        simp only [okD, Bool.not_eq_true'] at hx hy
        subst hx; subst hy
        exact ⟨_, rfl, rfl⟩
      | number t n j => exact ⟨_, rfl, hx⟩
    | number s m i =>
      cases b with
      | nan _ _ => simp [okD] at hy
      | infinity t => exact ⟨_, rfl, hy⟩
      | number t n j =>
        refine ⟨_, rfl, ?_⟩
        have h1 := okD_signed hx (i - min i j).toNat
        have h2 := okD_signed hy (j - min i j).toNat
        simp only [okD]
        split
        · rename_i h0; rw [h0]; simp
        · rename_i h0
          have : ¬ Ieee.signed s m (i - min i j).toNat + Ieee.signed t n (j - min i j).toNat < 0 := by omega
          simp [this]
  obtain ⟨d, hd, hok⟩ := this
  rw [hd]
  exact okD_write k hok
theorem mul_nn {k : FloatKind} {x y : Nat} (hx : F.le k 0 x = true) (hy : F.le k 0 y = true) (fx : F.fin k x = true) (fy : F.fin k y = true) : F.le k 0 (F.mul k x y) = true := by
  rw [le0_iff] at *
  unfold F.fin at fx fy
  unfold F.mul Ieee.Format.mul
  revert hx hy fx fy
  generalize k.format.read x = a
  generalize k.format.read y = b
  intro hx hy fx fy
  have : ∃ d, a.product b = some d ∧ okD d = true := by
    cases a with
    | nan _ _ => simp at fx
    | infinity s => simp at fx
    | number s m i =>
      cases b with
      | nan _ _ => simp at fy
      | infinity t => simp at fy
      | number t n j =>
        refine ⟨_, rfl, ?_⟩
        simp only [okD] at hx hy ⊢
        cases s <;> cases t <;> simp_all
  obtain ⟨d, hd, hok⟩ := this
  rw [hd]
  exact okD_write k hok

open Ieee in
theorem cmp_swap (a b : Int) : (compare a b).swap = compare b a := by
  simp only [compare, compareOfLessAndEq]
  split <;> split <;> (try split) <;> first | rfl | omega | (simp only [Ordering.swap]; split <;> first | rfl | omega | (split <;> first | rfl | omega))
theorem order_swap (a b : Ieee.Datum) : (a.order b).map Ordering.swap = b.order a := by
  cases a <;> cases b <;> simp only [Ieee.Datum.order, Option.map_none, Option.map_some] <;> (try rfl)
  · rename_i s m i t n j
    rw [cmp_swap, Int.min_comm]
  · split <;> rfl
  · split <;> rfl
  · rename_i s t
    cases s <;> cases t <;> rfl
theorem F.eq_comm (k : FloatKind) (x y : Nat) : (k.format.order x y == some .eq) = (k.format.order y x == some .eq) := by
  unfold Ieee.Format.order
  rw [← order_swap (k.format.read x)]
  cases (k.format.read x).order (k.format.read y) with
  | none => rfl
  | some o => cases o <;> rfl

/-- Of a number that is not below nought: it is above nought, or it is nought. -/
theorem lt0_eq0 (k : FloatKind) (x : Nat) : (F.le k 0 x = true → F.lt k 0 x = !F.eq k x 0) ∧ (F.lt k 0 x = true → F.eq k x 0 = false) ∧ (F.eq k x 0 = true → F.lt k 0 x = false) := by
  unfold F.le F.lt F.eq
  rw [F.eq_comm k x 0]
  cases k.format.order 0 x with
  | none => simp
  | some o => cases o <;> simp
end Go.Sx
