/- What terms stand for: plain values; floats with one NaN. No condition. -/
import Derived.WalkKit
import Derived.Laws.FloatBits
set_option linter.unusedVariables false
set_option linter.unusedSimpArgs false
noncomputable section
namespace Go.Sx
open Go

/-- What a term stands for: a bool, a whole number, the bits of a float (NaN always the same bits), a text, or a list of these. -/
inductive Sc where
  | b (x : Bool) | i (x : Int) | f (x : Nat) | s (x : List UInt8) | nil | cons (h t : Sc)
  deriving Inhabited, DecidableEq

namespace Sc
def toB : Sc → Bool | .b x => x | _ => false
def toI : Sc → Int | .i x => x | _ => 0
def toF : Sc → Nat | .f x => x | _ => 0
def toS : Sc → List UInt8 | .s x => x | _ => []
def at_ : Nat → Sc → Sc
  | 0, .cons h _ => h
  | n + 1, .cons _ t => at_ n t
  | _, _ => .nil
@[simp] theorem toB_b (x : Bool) : (Sc.b x).toB = x := rfl
@[simp] theorem toI_i (x : Int) : (Sc.i x).toI = x := rfl
@[simp] theorem toF_f (x : Nat) : (Sc.f x).toF = x := rfl
@[simp] theorem toS_s (x : List UInt8) : (Sc.s x).toS = x := rfl
/-- The list that a row of 'cons' stands for. -/
def list : Sc → List Sc
  | .cons h t => h :: list t
  | _ => []
def ofList : List Sc → Sc
  | [] => .nil
  | h :: t => .cons h (ofList t)
@[simp] theorem at_zero (h t : Sc) : at_ 0 (.cons h t) = h := rfl
@[simp] theorem at_succ (n : Nat) (h t : Sc) : at_ (n + 1) (.cons h t) = at_ n t := rfl
end Sc

/-- The one NaN. -/
def nanOf : FloatKind → Nat | .f32 => 0x7fc00000 | .f64 => 0x7ff8000000000000
def isNan (k : FloatKind) (x : Nat) : Bool := (k.format.read x).isNaN
/-- The bits of a float, those of every NaN the same. -/
def canon (k : FloatKind) (x : Nat) : Nat := if isNan k x then nanOf k else x

namespace F
def add (k : FloatKind) (x y : Nat) : Nat := (k.format.add x y).getD (nanOf k)
def sub (k : FloatKind) (x y : Nat) : Nat := (k.format.sub x y).getD (nanOf k)
def mul (k : FloatKind) (x y : Nat) : Nat := (k.format.mul x y).getD (nanOf k)
def div (k : FloatKind) (x y : Nat) : Nat := (k.format.div x y).getD (nanOf k)
def eq (k : FloatKind) (x y : Nat) : Bool := k.format.order x y == some .eq
def lt (k : FloatKind) (x y : Nat) : Bool := k.format.order x y == some .lt
def le (k : FloatKind) (x y : Nat) : Bool := k.format.order x y == some .lt || k.format.order x y == some .eq
def neg (k : FloatKind) (x : Nat) : Nat := canon k (Op.negFloat k x)
/-- A float of one kind as one of the other kind; NaN where it is NaN. -/
def conv (s d : FloatKind) (x : Nat) : Nat :=
  if s = d then x else
  match s.decode x with
  | .nan _ _ => nanOf d
  | y => d.encode y
/-- The conversion has an answer that Go fixes: no number too great for the kind. -/
def convOk (s d : FloatKind) (x : Nat) : Bool :=
  if s = d then true else
  match s.decode x with
  | .number n m e => !(d.decode (d.encode (.number n m e))).isInfinity
  | _ => true
/-- The number without its sign. -/
def abs (k : FloatKind) (x : Nat) : Nat := if isNan k x then nanOf k else x % k.format.signWeight
def fin (k : FloatKind) (x : Nat) : Bool := match k.format.read x with | .number _ _ _ => true | _ => false
def sqrt (x : Nat) : Nat := (FloatKind.f64.format.sqrt x).getD (nanOf .f64)
def floor (x : Nat) : Nat :=
  match FloatKind.f64.decode x with
  | .nan _ _ => nanOf .f64
  | d => FloatKind.f64.encode (d.integral .down)
def toInt (s : FloatKind) (x : Nat) : Int := ((s.decode x).toInt .zero).getD 0
def toIntOk (s : FloatKind) (d : IntKind) (x : Nat) : Bool :=
  match (s.decode x).toInt .zero with
  | some n => decide (d.min ≤ n) && decide (n ≤ d.max)
  | none => false
end F

/-! Numbers that are not below nought -/
/-- No NaN, and not below nought. -/
def okD : Ieee.Datum → Bool
  | .number s m _ => !s || m == 0
  | .infinity s => !s
  | .nan _ _ => false
theorem okD_signed {s : Bool} {m : Nat} (h : (!s || m == 0) = true) (u : Nat) : 0 ≤ Ieee.signed s m u := by
  unfold Ieee.signed
  cases s
  · simp only [Bool.false_eq_true, if_false]; exact Int.natCast_nonneg _
  · simp only [Bool.not_true, Bool.false_or, beq_iff_eq] at h
    subst h
    simp
theorem le0_iff (k : FloatKind) (x : Nat) : F.le k 0 x = okD (k.format.read x) := by
  have h0 : k.format.read 0 = .number false 0 k.format.leastPlace := by cases k <;> rfl
  unfold F.le Ieee.Format.order
  rw [h0]
  cases k.format.read x with
  | number s m i =>
    have e : ∀ u : Nat, Ieee.signed false 0 u = 0 := fun u => by simp [Ieee.signed]
    simp only [Ieee.Datum.order, e, okD]
    generalize (i - min k.format.leastPlace i).toNat = u
    cases s
    · have : 0 ≤ Ieee.signed false m u := okD_signed rfl u
      rcases Int.lt_or_eq_of_le this with hl | hl
      · have : compare 0 (Ieee.signed false m u) = .lt := by rw [Int.compare_eq_lt]; exact hl
        simp [this]
      · rw [← hl]; simp
    · cases m with
      | zero => simp [Ieee.signed]
      | succ m =>
        have hl : Ieee.signed true (m + 1) u < 0 := by
          have : 0 < (m + 1) <<< u := by rw [Nat.shiftLeft_eq]; exact Nat.mul_pos (Nat.succ_pos m) (Nat.pow_pos (by decide))
          simp only [Ieee.signed, if_true]
          omega
        have : compare 0 (Ieee.signed true (m + 1) u) = .gt := by rw [Int.compare_eq_gt]; exact hl
        simp [this]
  | infinity s => cases s <;> simp [Ieee.Datum.order, okD]
  | nan s t => simp [Ieee.Datum.order, okD]
theorem okD_rung (k : FloatKind) {r : Nat} (h : r ≤ k.format.infRung) : okD (k.format.read r) = true := by
  unfold Ieee.Format.read
  cases k
  · have e1 : FloatKind.f32.format.signWeight = 2147483648 := by decide
    have e2 : FloatKind.f32.format.infRung = 2139095040 := by decide
    rw [e1, e2]
    rw [e2] at h
    have hd : r / 2147483648 = 0 := by omega
    have hm : r % 2147483648 = r := by omega
    simp only [hd, hm]
    split
    · simp [okD]
    · split
      · simp [okD]
      · split
        · simp [okD]
        · omega
  · have e1 : FloatKind.f64.format.signWeight = 9223372036854775808 := by decide
    have e2 : FloatKind.f64.format.infRung = 9218868437227405312 := by decide
    rw [e1, e2]
    rw [e2] at h
    have hd : r / 9223372036854775808 = 0 := by omega
    have hm : r % 9223372036854775808 = r := by omega
    simp only [hd, hm]
    split
    · simp [okD]
    · split
      · simp [okD]
      · split
        · simp [okD]
        · omega
theorem okD_write (k : FloatKind) {d : Ieee.Datum} (h : okD d = true) : okD (k.format.read (k.format.write d)) = true := by
  cases d with
  | number s m e =>
    simp only [Ieee.Format.write, Ieee.Format.nearest, Ieee.Format.word]
    cases s
    · split
      · exact okD_rung k (Nat.zero_le _)
      · simp only [Bool.false_eq_true, if_false]
        exact okD_rung k (Nat.min_le_right ..)
    · simp only [okD, Bool.not_true, Bool.false_or, beq_iff_eq] at h
      subst h
      rw [if_pos rfl, if_pos rfl]
      cases k <;> decide
  | infinity s =>
    cases s
    · simp only [Ieee.Format.write, Ieee.Format.word, Bool.false_eq_true, if_false]
      exact okD_rung k (Nat.le_refl _)
    · simp [okD] at h
  | nan s t => simp [okD] at h
theorem add_nn {k : FloatKind} {x y : Nat} (hx : F.le k 0 x = true) (hy : F.le k 0 y = true) : F.le k 0 (F.add k x y) = true := by
  rw [le0_iff] at *
  unfold F.add Ieee.Format.add
  revert hx hy
  generalize k.format.read x = a
  generalize k.format.read y = b
  intro hx hy
  have : ∃ d, a.sum b = some d ∧ okD d = true := by
    cases a with
    | nan _ _ => simp [okD] at hx
    | infinity s =>
      cases b with
      | nan _ _ => simp [okD] at hy
      | infinity t =>
        simp only [okD, Bool.not_eq_true'] at hx hy
        subst hx; subst hy
        exact ⟨_, rfl, rfl⟩
      | number t n j => exact ⟨_, rfl, hx⟩
    | number s m i =>
      cases b with
      | nan _ _ => simp [okD] at hy
      | infinity t => exact ⟨_, rfl, hy⟩
      | number t n j =>
        refine ⟨_, rfl, ?_⟩
        have h1 := okD_signed hx (i - min i j).toNat
        have h2 := okD_signed hy (j - min i j).toNat
        simp only [okD]
        split
        · rename_i h0; rw [h0]; simp
        · rename_i h0
          have : ¬ Ieee.signed s m (i - min i j).toNat + Ieee.signed t n (j - min i j).toNat < 0 := by omega
          simp [this]
  obtain ⟨d, hd, hok⟩ := this
  rw [hd]
  exact okD_write k hok
theorem mul_nn {k : FloatKind} {x y : Nat} (hx : F.le k 0 x = true) (hy : F.le k 0 y = true) (fx : F.fin k x = true) (fy : F.fin k y = true) : F.le k 0 (F.mul k x y) = true := by
  rw [le0_iff] at *
  unfold F.fin at fx fy
  unfold F.mul Ieee.Format.mul
  revert hx hy fx fy
  generalize k.format.read x = a
  generalize k.format.read y = b
  intro hx hy fx fy
  have : ∃ d, a.product b = some d ∧ okD d = true := by
    cases a with
    | nan _ _ => simp at fx
    | infinity s => simp at fx
    | number s m i =>
      cases b with
      | nan _ _ => simp at fy
      | infinity t => simp at fy
      | number t n j =>
        refine ⟨_, rfl, ?_⟩
        simp only [okD] at hx hy ⊢
        cases s <;> cases t <;> simp_all
  obtain ⟨d, hd, hok⟩ := this
  rw [hd]
  exact okD_write k hok

open Ieee in
theorem cmp_swap (a b : Int) : (compare a b).swap = compare b a := by
  simp only [compare, compareOfLessAndEq]
  split <;> split <;> (try split) <;> first | rfl | omega | (simp only [Ordering.swap]; split <;> first | rfl | omega | (split <;> first | rfl | omega))
theorem order_swap (a b : Ieee.Datum) : (a.order b).map Ordering.swap = b.order a := by
  cases a <;> cases b <;> simp only [Ieee.Datum.order, Option.map_none, Option.map_some] <;> (try rfl)
  · rename_i s m i t n j
    rw [cmp_swap, Int.min_comm]
  · split <;> rfl
  · split <;> rfl
  · rename_i s t
    cases s <;> cases t <;> rfl
theorem F.eq_comm (k : FloatKind) (x y : Nat) : (k.format.order x y == some .eq) = (k.format.order y x == some .eq) := by
  unfold Ieee.Format.order
  rw [← order_swap (k.format.read x)]
  cases (k.format.read x).order (k.format.read y) with
  | none => rfl
  | some o => cases o <;> rfl

/-- Of a number that is not below nought: it is above nought, or it is nought. -/
theorem lt0_eq0 (k : FloatKind) (x : Nat) : (F.le k 0 x = true → F.lt k 0 x = !F.eq k x 0) ∧ (F.lt k 0 x = true → F.eq k x 0 = false) ∧ (F.eq k x 0 = true → F.lt k 0 x = false) := by
  unfold F.le F.lt F.eq
  rw [F.eq_comm k x 0]
  cases k.format.order 0 x with
  | none => simp
  | some o => cases o <;> simp
end Go.Sx
set_option linter.unusedVariables false
set_option linter.unusedSimpArgs false
noncomputable section
namespace Go.Sx
open Go Ieee

/-- n / 2^d rounded, half to even. -/
def rne (n d : Nat) : Nat := n / 2 ^ d + (if 2 ^ d < 2 * (n % 2 ^ d) ∨ (2 ^ d = 2 * (n % 2 ^ d) ∧ (n / 2 ^ d) % 2 = 1) then 1 else 0)

theorem cut_rne (neg : Bool) (n d : Nat) : Toward.even.cut neg n d = rne n d := by
  have big : 2 * n < 2 ^ (n.log2 + 2) := by
    have : n < 2 ^ (n.log2 + 1) := Nat.lt_log2_self
    rw [Nat.pow_succ]; omega
  unfold Toward.cut rne
  simp only [Nat.one_shiftLeft]
  have tb : ∀ (p : Prop) [Decidable p] (b : Bool), (b = true ↔ p) → b.toNat = if p then 1 else 0 := by
    intro p _ b hb
    by_cases hp : p
    · rw [if_pos hp, hb.2 hp]; rfl
    · have : b = false := by cases b with | true => exact absurd (hb.1 rfl) hp | false => rfl
      rw [if_neg hp, this]; rfl
  by_cases hd : d ≤ n.log2 + 2
  · rw [Nat.min_eq_left hd]
    congr 1
    apply tb
    simp
  · have hd' : n.log2 + 2 ≤ d := by omega
    rw [Nat.min_eq_right hd']
    have h1 : 2 ^ (n.log2 + 2) ≤ 2 ^ d := Nat.pow_le_pow_right (by omega) hd'
    have e1 : n / 2 ^ (n.log2 + 2) = 0 := Nat.div_eq_of_lt (by omega)
    have e2 : n / 2 ^ d = 0 := Nat.div_eq_of_lt (by omega)
    have e3 : n % 2 ^ (n.log2 + 2) = n := Nat.mod_eq_of_lt (by omega)
    have e4 : n % 2 ^ d = n := Nat.mod_eq_of_lt (by omega)
    rw [e1, e2, e3, e4]
    congr 1
    apply tb
    simp
    omega

theorem rne_lo (n d : Nat) : 2 ^ d * (2 * rne n d) ≤ 2 * n + 2 ^ d ∧ (2 ^ d * (2 * rne n d) = 2 * n + 2 ^ d → rne n d % 2 = 0) := by
  have hp : 0 < 2 ^ d := Nat.pow_pos (by omega)
  have h := Nat.div_add_mod n (2 ^ d)
  have hm := Nat.mod_lt n hp
  unfold rne
  generalize n / 2 ^ d = q at *
  generalize n % 2 ^ d = r at *
  generalize 2 ^ d = p at *
  have e1 : p * (2 * (q + 1)) = 2 * (p * q) + 2 * p := by rw [← Nat.mul_assoc, Nat.mul_comm p 2, Nat.mul_assoc, Nat.mul_add, Nat.mul_add]; omega
  have e2 : p * (2 * (q + 0)) = 2 * (p * q) := by rw [Nat.add_zero, ← Nat.mul_assoc, Nat.mul_comm p 2, Nat.mul_assoc]
  split
  · rename_i hc
    rw [e1]
    refine ⟨by omega, fun he => ?_⟩
    omega
  · rw [e2]
    refine ⟨by omega, fun he => ?_⟩
    omega
theorem rne_hi (n d : Nat) : 2 * n ≤ 2 ^ d * (2 * rne n d) + 2 ^ d ∧ (2 * n = 2 ^ d * (2 * rne n d) + 2 ^ d → rne n d % 2 = 0) := by
  have hp : 0 < 2 ^ d := Nat.pow_pos (by omega)
  have h := Nat.div_add_mod n (2 ^ d)
  have hm := Nat.mod_lt n hp
  unfold rne
  generalize n / 2 ^ d = q at *
  generalize n % 2 ^ d = r at *
  generalize 2 ^ d = p at *
  have e1 : p * (2 * (q + 1)) = 2 * (p * q) + 2 * p := by rw [← Nat.mul_assoc, Nat.mul_comm p 2, Nat.mul_assoc, Nat.mul_add, Nat.mul_add]; omega
  have e2 : p * (2 * (q + 0)) = 2 * (p * q) := by rw [Nat.add_zero, ← Nat.mul_assoc, Nat.mul_comm p 2, Nat.mul_assoc]
  split
  · rename_i hc
    rw [e1]
    refine ⟨by omega, fun he => ?_⟩
    omega
  · rename_i hc
    rw [e2]
    refine ⟨by omega, fun he => ?_⟩
    omega
theorem rne_mono {n m d : Nat} (h : n ≤ m) : rne n d ≤ rne m d := by
  have hp : 0 < 2 ^ d := Nat.pow_pos (by omega)
  obtain ⟨h1, h2⟩ := rne_lo n d
  obtain ⟨h3, h4⟩ := rne_hi m d
  rcases Nat.lt_or_ge (rne m d) (rne n d) with hlt | hge
  · exfalso
    generalize rne n d = a at *
    generalize rne m d = b at *
    generalize 2 ^ d = p at *
    have hb : p * (2 * (b + 1)) ≤ p * (2 * a) := Nat.mul_le_mul_left _ (by omega)
    have e1 : p * (2 * (b + 1)) = p * (2 * b) + 2 * p := by rw [Nat.mul_add, Nat.mul_add]; omega
    have h5 : p * (2 * a) = p * (2 * (b + 1)) := by omega
    have h6 : 2 * a = 2 * (b + 1) := Nat.eq_of_mul_eq_mul_left hp h5
    have := h2 (by omega)
    have := h4 (by omega)
    omega
  · exact hge
theorem rne_exact {n d : Nat} : rne (n * 2 ^ d) d = n := by
  have hp : 0 < 2 ^ d := Nat.pow_pos (by omega)
  unfold rne
  rw [Nat.mul_div_cancel _ hp, Nat.mul_mod_left]
  rw [if_neg (by omega)]
  rfl
theorem rne_scale (n d s : Nat) : rne (n * 2 ^ s) (d + s) = rne n d := by
  have hs : 0 < 2 ^ s := Nat.pow_pos (by omega)
  unfold rne
  rw [Nat.pow_add, Nat.mul_div_mul_right _ _ hs, Nat.mul_mod_mul_right]
  have e1 : (2 ^ d * 2 ^ s < 2 * (n % 2 ^ d * 2 ^ s)) ↔ 2 ^ d < 2 * (n % 2 ^ d) := by
    rw [← Nat.mul_assoc]; exact Nat.mul_lt_mul_right hs
  have e2 : (2 ^ d * 2 ^ s = 2 * (n % 2 ^ d * 2 ^ s)) ↔ 2 ^ d = 2 * (n % 2 ^ d) := by
    rw [← Nat.mul_assoc]; exact Nat.mul_left_inj (by omega)
  simp only [e1, e2]
theorem rne_le {n d k : Nat} (h : n ≤ k * 2 ^ d) : rne n d ≤ k := by
  have := rne_mono (d := d) h
  rwa [rne_exact] at this
theorem rne_ge {n d k : Nat} (h : k * 2 ^ d ≤ n) : k ≤ rne n d := by
  have := rne_mono (d := d) h
  rwa [rne_exact] at this

/-- The rung of N * 2^b. -/
def lastP (f : Format) (N : Nat) (b : Int) : Int := max (b + N.log2 - f.fractionBits) f.leastPlace
def Rg (f : Format) (N : Nat) (b : Int) : Nat := (lastP f N b - f.leastPlace).toNat * f.binade + rne N (lastP f N b - b).toNat

theorem log2_shift {m : Nat} (hm : m ≠ 0) (s : Nat) : (m * 2 ^ s).log2 = m.log2 + s := by
  have h0 : m * 2 ^ s ≠ 0 := Nat.mul_ne_zero hm (Nat.ne_of_gt (Nat.pow_pos (by omega)))
  have h1 : 2 ^ m.log2 ≤ m := Nat.log2_self_le hm
  have h2 : m < 2 ^ (m.log2 + 1) := Nat.lt_log2_self
  have hs : 0 < 2 ^ s := Nat.pow_pos (by omega)
  have a1 : 2 ^ (m.log2 + s) ≤ m * 2 ^ s := by rw [Nat.pow_add]; exact Nat.mul_le_mul_right _ h1
  have a2 : m * 2 ^ s < 2 ^ (m.log2 + s + 1) := by
    rw [show m.log2 + s + 1 = (m.log2 + 1) + s by omega, Nat.pow_add]
    exact (Nat.mul_lt_mul_right hs).2 h2
  have b1 : (m * 2 ^ s).log2 < m.log2 + s + 1 := (Nat.log2_lt h0).2 a2
  have b2 : m.log2 + s ≤ (m * 2 ^ s).log2 := (Nat.le_log2 h0).2 a1
  omega
theorem nearest_Rg (f : Format) (neg : Bool) {mag : Nat} (hm : mag ≠ 0) {place b : Int} (h1 : b ≤ place) (h2 : b ≤ f.leastPlace) :
    f.nearest neg mag place = f.word neg (min (Rg f (mag * 2 ^ (place - b).toNat) b) f.infRung) := by
  unfold Format.nearest Rg
  rw [if_neg hm]
  have el : lastP f (mag * 2 ^ (place - b).toNat) b = max (place + mag.log2 - f.fractionBits) f.leastPlace := by
    unfold lastP
    rw [log2_shift hm]
    congr 1
    omega
  rw [el]
  simp only []
  generalize hL : max (place + (mag.log2 : Int) - f.fractionBits) f.leastPlace = last
  have hge : f.leastPlace ≤ last := by rw [← hL]; exact Int.le_max_right ..
  rw [cut_rne]
  congr 3
  rcases Int.le_total last place with hc | hc
  · have e1 : (last - place).toNat = 0 := by omega
    rw [e1, Nat.shiftLeft_eq]
    have e2 : (place - b).toNat = (place - last).toNat + (last - b).toNat := by omega
    rw [e2, Nat.pow_add, ← Nat.mul_assoc, rne_exact]
    have := rne_exact (n := mag * 2 ^ (place - last).toNat) (d := 0)
    simpa using this
  · have e1 : (place - last).toNat = 0 := by omega
    rw [e1]
    have e2 : (last - b).toNat = (last - place).toNat + (place - b).toNat := by omega
    rw [e2, rne_scale]
    simp

theorem Rg_mono (f : Format) {N M : Nat} {b : Int} (hb : b ≤ f.leastPlace) (hN : N ≠ 0) (h : N ≤ M) : Rg f N b ≤ Rg f M b := by
  have hM : M ≠ 0 := by omega
  have hlog : N.log2 ≤ M.log2 := (Nat.le_log2 hM).2 (Nat.le_trans (Nat.log2_self_le hN) h)
  have hl : lastP f N b ≤ lastP f M b := by unfold lastP; omega
  unfold Rg
  rcases Int.lt_or_eq_of_le hl with hlt | heq
  · -- another binade
    have hM' : lastP f M b = b + M.log2 - f.fractionBits := by unfold lastP at hlt ⊢; omega
    have hN1 : b + N.log2 - f.fractionBits ≤ lastP f N b := by unfold lastP; exact Int.le_max_left ..
    have hN2 : f.leastPlace ≤ lastP f N b := by unfold lastP; exact Int.le_max_right ..
    -- below: at most two binades' worth
    have k1 : rne N (lastP f N b - b).toNat ≤ 2 * f.binade := by
      apply rne_le
      have : N < 2 ^ (N.log2 + 1) := Nat.lt_log2_self
      have e : 2 * f.binade * 2 ^ (lastP f N b - b).toNat = 2 ^ (f.fractionBits + 1 + (lastP f N b - b).toNat) := by
        unfold Format.binade
        rw [Nat.pow_add, Nat.pow_succ]
        congr 1
        omega
      rw [e]
      have : 2 ^ (N.log2 + 1) ≤ 2 ^ (f.fractionBits + 1 + (lastP f N b - b).toNat) := Nat.pow_le_pow_right (by omega) (by omega)
      omega
    have k2 : f.binade ≤ rne M (lastP f M b - b).toNat := by
      apply rne_ge
      unfold Format.binade
      rw [← Nat.pow_add]
      have : f.fractionBits + (lastP f M b - b).toNat ≤ M.log2 := by omega
      exact Nat.le_trans (Nat.pow_le_pow_right (by omega) this) (Nat.log2_self_le hM)
    have k3 : (lastP f N b - f.leastPlace).toNat + 1 ≤ (lastP f M b - f.leastPlace).toNat := by omega
    have k4 : ((lastP f N b - f.leastPlace).toNat + 1) * f.binade ≤ (lastP f M b - f.leastPlace).toNat * f.binade := Nat.mul_le_mul_right _ k3
    rw [Nat.add_mul, Nat.one_mul] at k4
    omega
  · rw [heq]
    exact Nat.add_le_add_left (rne_mono h) _
end Go.Sx
set_option linter.unusedVariables false
set_option linter.unusedSimpArgs false
noncomputable section
namespace Go.Sx
open Go Ieee

theorem word_pos (f : Format) (r : Nat) : f.word false r = r := by simp [Format.word]
theorem inf_lt_sign (f : Format) : f.infRung < f.signWeight := f.infRung_lt

/-- What a word stands for that is not below nought and finite, in units of the format's least place. -/
def valN (f : Format) (x : Nat) : Nat := if x < f.binade then x else (f.binade + x % f.binade) * 2 ^ (x / f.binade - 1)
theorem binade_pos (f : Format) : 0 < f.binade := Nat.pow_pos (by omega)
/-- What is read of such a word. -/
theorem read_pos (f : Format) {x : Nat} (h : x < f.infRung) : ∃ m e, f.read x = .number false m e ∧ f.leastPlace ≤ e ∧ m * 2 ^ (e - f.leastPlace).toNat = valN f x := by
  have hs := inf_lt_sign f
  have h1 : x / f.signWeight = 0 := Nat.div_eq_of_lt (by omega)
  have h2 : x % f.signWeight = x := Nat.mod_eq_of_lt (by omega)
  unfold Format.read valN
  simp only [h1, h2]
  by_cases hb : x < f.binade
  · rw [if_pos hb, if_pos hb]
    exact ⟨x, _, rfl, Int.le_refl _, by simp⟩
  · rw [if_neg hb, if_pos h, if_neg hb]
    exact ⟨_, _, rfl, by omega, by congr 2; omega⟩
theorem valN_zero {f : Format} {x : Nat} : valN f x = 0 ↔ x = 0 := by
  have hp := binade_pos f
  unfold valN
  by_cases hb : x < f.binade
  · rw [if_pos hb]
  · rw [if_neg hb]
    constructor
    · intro h
      have := Nat.mul_eq_zero.1 h
      rcases this with h | h
      · omega
      · have : 0 < 2 ^ (x / f.binade - 1) := Nat.pow_pos (by omega)
        omega
    · intro h; omega
/-- A word that is read is written again. -/
theorem Rg_valN (f : Format) {x : Nat} (h0 : x ≠ 0) : Rg f (valN f x) f.leastPlace = x := by
  have hp := binade_pos f
  unfold Rg lastP valN
  by_cases hb : x < f.binade
  · rw [if_pos hb]
    have hl : x.log2 < f.fractionBits := (Nat.log2_lt h0).2 (by unfold Format.binade at hb; exact hb)
    have e : max (f.leastPlace + (x.log2 : Int) - f.fractionBits) f.leastPlace = f.leastPlace := by omega
    rw [e]
    have := rne_exact (n := x) (d := 0)
    simpa using this
  · rw [if_neg hb]
    have hm : x % f.binade < f.binade := Nat.mod_lt _ hp
    have hm0 : f.binade + x % f.binade ≠ 0 := by omega
    have hlg : (f.binade + x % f.binade).log2 = f.fractionBits := by
      have a1 : f.fractionBits ≤ (f.binade + x % f.binade).log2 := (Nat.le_log2 hm0).2 (by show f.binade ≤ _; omega)
      have a2 : (f.binade + x % f.binade).log2 < f.fractionBits + 1 := (Nat.log2_lt hm0).2 (by rw [Nat.pow_succ]; show _ < f.binade * 2; omega)
      omega
    rw [log2_shift hm0, hlg]
    have hq : 1 ≤ x / f.binade := (Nat.le_div_iff_mul_le hp).2 (by omega)
    have e : max (f.leastPlace + ((f.fractionBits + (x / f.binade - 1) : Nat) : Int) - f.fractionBits) f.leastPlace = f.leastPlace + ((x / f.binade - 1 : Nat) : Int) := by omega
    rw [e]
    have e2 : (f.leastPlace + ((x / f.binade - 1 : Nat) : Int) - f.leastPlace).toNat = x / f.binade - 1 := by omega
    rw [e2, rne_exact]
    have := Nat.div_add_mod x f.binade
    have h3 : (x / f.binade - 1) * f.binade + f.binade = x / f.binade * f.binade := by
      rw [← Nat.succ_mul]; congr 1; omega
    rw [Nat.mul_comm] at this
    omega
theorem valN_lt {f : Format} {x y : Nat} (h : x < y) : valN f x < valN f y := by
  rcases Nat.lt_or_ge (valN f x) (valN f y) with h1 | h1
  · exact h1
  · exfalso
    have hy : y ≠ 0 := by omega
    have hvy : valN f y ≠ 0 := fun e => hy (valN_zero.1 e)
    have hvx : valN f x ≠ 0 := by omega
    have hx : x ≠ 0 := fun e => hvx (valN_zero.2 e)
    have := Rg_mono f (Int.le_refl _) hvy h1
    rw [Rg_valN f hy, Rg_valN f hx] at this
    omega
theorem valN_le {f : Format} {x y : Nat} : valN f x ≤ valN f y ↔ x ≤ y := by
  constructor
  · intro h
    rcases Nat.lt_or_ge y x with h1 | h1
    · have := valN_lt (f := f) h1; omega
    · exact h1
  · intro h
    rcases Nat.eq_or_lt_of_le h with h1 | h1
    · subst h1; exact Nat.le_refl _
    · exact Nat.le_of_lt (valN_lt h1)

/-- A whole number of least units as a word. -/
def RgN (f : Format) (N : Nat) (b : Int) : Nat := if N = 0 then 0 else min (Rg f N b) f.infRung
theorem RgN_mono (f : Format) {N M : Nat} {b : Int} (hb : b ≤ f.leastPlace) (h : N ≤ M) : RgN f N b ≤ RgN f M b := by
  unfold RgN
  by_cases h0 : N = 0
  · rw [if_pos h0]; exact Nat.zero_le _
  · rw [if_neg h0, if_neg (by omega)]
    have := Rg_mono f hb h0 h
    omega
theorem RgN_le (f : Format) (N : Nat) (b : Int) : RgN f N b ≤ f.infRung := by
  unfold RgN
  split
  · exact Nat.zero_le _
  · exact Nat.min_le_right ..
theorem nearest_RgN (f : Format) {mag : Nat} {place b : Int} (h1 : b ≤ place) (h2 : b ≤ f.leastPlace) : f.nearest false mag place = RgN f (mag * 2 ^ (place - b).toNat) b := by
  unfold RgN
  by_cases hm : mag = 0
  · subst hm; simp [Format.nearest, word_pos]
  · rw [nearest_Rg f false hm h1 h2, word_pos, if_neg (Nat.mul_ne_zero hm (Nat.ne_of_gt (Nat.pow_pos (by omega))))]

theorem fin_pos {k : FloatKind} {x : Nat} (h : x < k.format.infRung) : F.fin k x = true := by
  obtain ⟨m, e, h1, _⟩ := read_pos k.format h
  unfold F.fin
  rw [h1]
theorem signed_pos (m u : Nat) : signed false m u = ((m * 2 ^ u : Nat) : Int) := by simp [signed, Nat.shiftLeft_eq]
/-- The order of words is the order of what they stand for. -/
theorem order_pos {k : FloatKind} {x y : Nat} (hx : x < k.format.infRung) (hy : y < k.format.infRung) : k.format.order x y = some (compare x y) := by
  obtain ⟨m, i, h1, h2, h3⟩ := read_pos k.format hx
  obtain ⟨n, j, g1, g2, g3⟩ := read_pos k.format hy
  unfold Format.order
  rw [h1, g1]
  simp only [Datum.order, signed_pos]
  congr 1
  have hp : 0 < 2 ^ (min i j - k.format.leastPlace).toNat := Nat.pow_pos (by omega)
  have e1 : m * 2 ^ (i - min i j).toNat * 2 ^ (min i j - k.format.leastPlace).toNat = valN k.format x := by
    rw [← h3, Nat.mul_assoc, ← Nat.pow_add]; congr 2; omega
  have e2 : n * 2 ^ (j - min i j).toNat * 2 ^ (min i j - k.format.leastPlace).toNat = valN k.format y := by
    rw [← g3, Nat.mul_assoc, ← Nat.pow_add]; congr 2; omega
  generalize m * 2 ^ (i - min i j).toNat = A at *
  generalize n * 2 ^ (j - min i j).toNat = B at *
  generalize 2 ^ (min i j - k.format.leastPlace).toNat = p at *
  rcases Nat.lt_trichotomy x y with h | h | h
  · have := valN_lt (f := k.format) h
    rw [← e1, ← e2] at this
    have hAB : A < B := Nat.lt_of_mul_lt_mul_right this
    rw [Nat.compare_eq_lt.2 h]
    exact Int.compare_eq_lt.2 (by omega)
  · subst h
    rw [← e2] at e1
    have hAB : A = B := Nat.eq_of_mul_eq_mul_right hp e1
    subst hAB
    rw [Nat.compare_eq_eq.2 rfl]
    exact Int.compare_eq_eq.2 rfl
  · have := valN_lt (f := k.format) h
    rw [← e1, ← e2] at this
    have hAB : B < A := Nat.lt_of_mul_lt_mul_right this
    rw [Nat.compare_eq_gt.2 h]
    exact Int.compare_eq_gt.2 (by omega)
theorem le_pos {k : FloatKind} {x y : Nat} (hx : x < k.format.infRung) (hy : y < k.format.infRung) : F.le k x y = decide (x ≤ y) := by
  unfold F.le
  rw [order_pos hx hy]
  rcases Nat.lt_trichotomy x y with h | h | h
  · rw [Nat.compare_eq_lt.2 h]; simp; omega
  · rw [Nat.compare_eq_eq.2 h]; simp; omega
  · rw [Nat.compare_eq_gt.2 h]; simp; omega
theorem lt_pos {k : FloatKind} {x y : Nat} (hx : x < k.format.infRung) (hy : y < k.format.infRung) : F.lt k x y = decide (x < y) := by
  unfold F.lt
  rw [order_pos hx hy]
  rcases Nat.lt_trichotomy x y with h | h | h
  · rw [Nat.compare_eq_lt.2 h]; simp; omega
  · rw [Nat.compare_eq_eq.2 h]; simp; omega
  · rw [Nat.compare_eq_gt.2 h]; simp; omega

theorem add_pos {k : FloatKind} {x y : Nat} (hx : x < k.format.infRung) (hy : y < k.format.infRung) : F.add k x y = RgN k.format (valN k.format x + valN k.format y) k.format.leastPlace := by
  obtain ⟨m, i, h1, h2, h3⟩ := read_pos k.format hx
  obtain ⟨n, j, g1, g2, g3⟩ := read_pos k.format hy
  unfold F.add Format.add
  rw [h1, g1]
  simp only [Datum.sum, signed_pos, Option.map_some, Option.getD_some, Bool.and_self]
  have e0 : (if ((m * 2 ^ (i - min i j).toNat : Nat) : Int) + ((n * 2 ^ (j - min i j).toNat : Nat) : Int) = 0 then false else decide (((m * 2 ^ (i - min i j).toNat : Nat) : Int) + ((n * 2 ^ (j - min i j).toNat : Nat) : Int) < 0)) = false := by
    split
    · rfl
    · exact decide_eq_false (by omega)
  rw [e0]
  simp only [Format.write]
  rw [nearest_RgN k.format (b := k.format.leastPlace) (by omega) (Int.le_refl _)]
  congr 1
  have e1 : (((m * 2 ^ (i - min i j).toNat : Nat) : Int) + ((n * 2 ^ (j - min i j).toNat : Nat) : Int)).natAbs = m * 2 ^ (i - min i j).toNat + n * 2 ^ (j - min i j).toNat := by omega
  rw [e1, Nat.add_mul, Nat.mul_assoc, Nat.mul_assoc, ← Nat.pow_add, ← Nat.pow_add, ← h3, ← g3]
  congr 3 <;> omega
theorem mul_pos {k : FloatKind} {x y : Nat} (hx : x < k.format.infRung) (hy : y < k.format.infRung) : F.mul k x y = RgN k.format (valN k.format x * valN k.format y) (k.format.leastPlace + k.format.leastPlace) := by
  have hlp : k.format.leastPlace ≤ 0 := by cases k <;> decide
  obtain ⟨m, i, h1, h2, h3⟩ := read_pos k.format hx
  obtain ⟨n, j, g1, g2, g3⟩ := read_pos k.format hy
  unfold F.mul Format.mul
  rw [h1, g1]
  simp only [Datum.product, Option.map_some, Option.getD_some, Bool.xor_self, Format.write]
  rw [nearest_RgN k.format (b := k.format.leastPlace + k.format.leastPlace) (by omega) (by omega)]
  congr 1
  rw [← h3, ← g3]
  have : (i + j - (k.format.leastPlace + k.format.leastPlace)).toNat = (i - k.format.leastPlace).toNat + (j - k.format.leastPlace).toNat := by omega
  rw [this, Nat.pow_add, Nat.mul_mul_mul_comm]
theorem add_bits {k : FloatKind} {x y x' y' : Nat} (hx : x ≤ x') (hy : y ≤ y') (hx' : x' < k.format.infRung) (hy' : y' < k.format.infRung) : F.add k x y ≤ F.add k x' y' := by
  rw [add_pos (by omega) (by omega), add_pos hx' hy']
  exact RgN_mono _ (Int.le_refl _) (Nat.add_le_add (valN_le.2 hx) (valN_le.2 hy))
theorem mul_bits {k : FloatKind} {x y x' y' : Nat} (hx : x ≤ x') (hy : y ≤ y') (hx' : x' < k.format.infRung) (hy' : y' < k.format.infRung) : F.mul k x y ≤ F.mul k x' y' := by
  have hlp : k.format.leastPlace ≤ 0 := by cases k <;> decide
  rw [mul_pos (by omega) (by omega), mul_pos hx' hy']
  exact RgN_mono _ (by omega) (Nat.mul_le_mul (valN_le.2 hx) (valN_le.2 hy))
theorem add_top {k : FloatKind} {x y : Nat} (hx : x < k.format.infRung) (hy : y < k.format.infRung) : F.add k x y ≤ k.format.infRung := by
  rw [add_pos hx hy]; exact RgN_le ..
theorem mul_top {k : FloatKind} {x y : Nat} (hx : x < k.format.infRung) (hy : y < k.format.infRung) : F.mul k x y ≤ k.format.infRung := by
  rw [mul_pos hx hy]; exact RgN_le ..
theorem int_bits {k : FloatKind} {a b : Int} (ha : 0 ≤ a) (h : a ≤ b) : k.nearest a ≤ k.nearest b ∧ k.nearest b ≤ k.format.infRung := by
  have hlp : k.format.leastPlace ≤ 0 := by cases k <;> decide
  have key : ∀ n : Int, 0 ≤ n → k.nearest n = RgN k.format (n.natAbs * 2 ^ (0 - k.format.leastPlace).toNat) k.format.leastPlace := fun n hn => by
    unfold FloatKind.nearest FloatKind.encode Format.write
    have : decide (n < 0) = false := decide_eq_false (by omega)
    rw [this]
    exact nearest_RgN k.format (by omega) (Int.le_refl _)
  rw [key a ha, key b (by omega)]
  exact ⟨RgN_mono _ (Int.le_refl _) (Nat.mul_le_mul_right _ (by omega)), RgN_le ..⟩
/-- A quotient by one or more is at most twice the number. -/
theorem div_bits {k : FloatKind} {x y : Nat} (hx : x < k.format.infRung) (hy : y < k.format.infRung) (h1 : 2 ^ (0 - k.format.leastPlace).toNat ≤ valN k.format y) : F.div k x y ≤ RgN k.format (valN k.format x + valN k.format x) k.format.leastPlace := by
  have hlp : k.format.leastPlace ≤ 0 := by cases k <;> decide
  obtain ⟨m, i, h1', h2, h3⟩ := read_pos k.format hx
  obtain ⟨n, j, g1, g2, g3⟩ := read_pos k.format hy
  have hn : n ≠ 0 := by
    rintro rfl
    have : 0 < 2 ^ (0 - k.format.leastPlace).toNat := Nat.pow_pos (by omega)
    rw [← g3] at h1
    omega
  unfold F.div Format.div
  rw [h1', g1]
  simp only [Datum.quotient, if_neg hn, Option.map_some, Option.getD_some, Bool.xor_self, Format.write, Nat.shiftLeft_eq]
  by_cases hm : m = 0
  · subst hm
    have e : (2 * (0 * 2 ^ (k.format.fractionBits + 2 + n.log2 - Nat.log2 0) / n) + (0 * 2 ^ (k.format.fractionBits + 2 + n.log2 - Nat.log2 0) % n != 0).toNat) = 0 := by simp
    rw [e]
    have : k.format.nearest false 0 (i - j - (k.format.fractionBits + 2 + n.log2 - Nat.log2 0 : Nat) - 1) = 0 := by simp [Format.nearest, word_pos]
    rw [this]; exact Nat.zero_le _
  have hmore : n ≤ m * 2 ^ (k.format.fractionBits + 2 + n.log2 - m.log2) := by
    have a1 : 2 ^ m.log2 ≤ m := Nat.log2_self_le hm
    have a2 : n < 2 ^ (n.log2 + 1) := Nat.lt_log2_self
    have a3 : 2 ^ (n.log2 + 1) ≤ 2 ^ (m.log2 + (k.format.fractionBits + 2 + n.log2 - m.log2)) := Nat.pow_le_pow_right (by omega) (by omega)
    rw [Nat.pow_add 2 m.log2] at a3
    have a4 := Nat.mul_le_mul_right (2 ^ (k.format.fractionBits + 2 + n.log2 - m.log2)) a1
    omega
  revert hmore
  generalize k.format.fractionBits + 2 + n.log2 - m.log2 = more
  intro hmore
  -- a place far below
  have hb : ∃ b : Int, b ≤ i - j - more - 1 ∧ b ≤ k.format.leastPlace + k.format.leastPlace := ⟨min (i - j - more - 1) (k.format.leastPlace + k.format.leastPlace), by omega, by omega⟩
  obtain ⟨b, hb1, hb2⟩ := hb
  rw [nearest_RgN k.format (b := b) hb1 (by omega)]
  have e : RgN k.format (valN k.format x + valN k.format x) k.format.leastPlace = RgN k.format ((2 * m) * 2 ^ (i - b).toNat) b := by
    have e1 : valN k.format x + valN k.format x = (2 * m) * 2 ^ (i - k.format.leastPlace).toNat := by rw [← h3, Nat.mul_assoc]; omega
    rw [e1, ← nearest_RgN k.format h2 (Int.le_refl _), nearest_RgN k.format (b := b) (by omega) (by omega)]
  rw [e]
  apply RgN_mono _ (by omega)
  generalize hs : (m * 2 ^ more % n != 0).toNat = s
  have hs1 : s ≤ 1 := by rw [← hs]; exact Bool.toNat_le _
  have hS : (2 * (m * 2 ^ more / n) + s) * n ≤ 4 * (m * 2 ^ more) := by
    have h4 := Nat.div_mul_le_self (m * 2 ^ more) n
    have h5 := Nat.mul_le_mul_right n hs1
    generalize m * 2 ^ more / n = q at *
    rw [Nat.add_mul, Nat.mul_assoc]
    generalize q * n = qn at *
    generalize s * n = sn at *
    omega
  generalize 2 * (m * 2 ^ more / n) + s = A at *
  have hL : 0 < 2 ^ (0 - k.format.leastPlace).toNat := Nat.pow_pos (by omega)
  apply Nat.le_of_mul_le_mul_right _ hL
  have q1 : A * 2 ^ (0 - k.format.leastPlace).toNat ≤ A * (n * 2 ^ (j - k.format.leastPlace).toNat) := Nat.mul_le_mul_left _ (by rw [g3]; exact h1)
  have q2 : A * (n * 2 ^ (j - k.format.leastPlace).toNat) ≤ 4 * (m * 2 ^ more) * 2 ^ (j - k.format.leastPlace).toNat := by rw [← Nat.mul_assoc]; exact Nat.mul_le_mul_right _ hS
  have q3 := Nat.mul_le_mul_right (2 ^ (i - j - more - 1 - b).toNat) (Nat.le_trans q1 q2)
  have e5 : A * 2 ^ (i - j - more - 1 - b).toNat * 2 ^ (0 - k.format.leastPlace).toNat = A * 2 ^ (0 - k.format.leastPlace).toNat * 2 ^ (i - j - more - 1 - b).toNat := by
    rw [Nat.mul_assoc, Nat.mul_assoc]; congr 1; exact Nat.mul_comm ..
  have e6 : 2 * m * 2 ^ (i - b).toNat * 2 ^ (0 - k.format.leastPlace).toNat = 4 * (m * 2 ^ more) * 2 ^ (j - k.format.leastPlace).toNat * 2 ^ (i - j - more - 1 - b).toNat := by
    have p1 : 2 ^ (i - b).toNat * 2 ^ (0 - k.format.leastPlace).toNat = 2 ^ 1 * 2 ^ more * 2 ^ (j - k.format.leastPlace).toNat * 2 ^ (i - j - more - 1 - b).toNat := by
      rw [← Nat.pow_add, ← Nat.pow_add, ← Nat.pow_add, ← Nat.pow_add]; congr 1; omega
    rw [Nat.mul_assoc, p1]
    have : 4 * (m * 2 ^ more) = 2 * m * (2 ^ 1 * 2 ^ more) := by
      rw [Nat.pow_one, ← Nat.mul_assoc (2 * m), Nat.mul_right_comm 2 m 2, Nat.mul_assoc]
    rw [this]
    simp only [Nat.mul_assoc]
  rw [e5, e6]
  exact q3
theorem fin_word {k : FloatKind} {neg : Bool} {r : Nat} (h : r < k.format.infRung) : F.fin k (k.format.word neg r) = true := by
  have hs := inf_lt_sign k.format
  cases neg with
  | false => rw [word_pos]; exact fin_pos h
  | true =>
    have e : k.format.word true r = k.format.signWeight + r := by simp [Format.word]
    have e1 : (k.format.signWeight + r) % k.format.signWeight = r := by rw [Nat.add_mod_left]; exact Nat.mod_eq_of_lt (by omega)
    unfold F.fin Format.read
    rw [e]
    simp only [e1]
    by_cases hb : r < k.format.binade
    · rw [if_pos hb]
    · rw [if_neg hb, if_pos h]
/-- What a word stands for that is finite and not below nought (it may be the other nought). -/
theorem okfin_val {k : FloatKind} {x : Nat} (h0 : F.le k 0 x = true) (hf : F.fin k x = true) : ∃ s m i, k.format.read x = .number s m i ∧ k.format.leastPlace ≤ i ∧ (s = true → m = 0) ∧ m * 2 ^ (i - k.format.leastPlace).toNat ≤ valN k.format (k.format.infRung - 1) := by
  rw [le0_iff] at h0
  unfold F.fin at hf
  have key : ∀ s m i, k.format.read x = .number s m i → k.format.leastPlace ≤ i ∧ m * 2 ^ (i - k.format.leastPlace).toNat ≤ valN k.format (k.format.infRung - 1) := by
    intro s m i hr
    have hlt : x % k.format.signWeight < k.format.infRung := by
      rcases Nat.lt_or_ge (x % k.format.signWeight) k.format.infRung with h | h
      · exact h
      · exfalso
        have hb : k.format.binade ≤ k.format.infRung := by cases k <;> decide
        unfold Format.read at hr
        simp only at hr
        rw [if_neg (by omega), if_neg (by omega)] at hr
        split at hr <;> cases hr
    have hmod : (x % k.format.signWeight) % k.format.signWeight = x % k.format.signWeight := Nat.mod_mod ..
    obtain ⟨m', i', g1, g2, g3⟩ := read_pos k.format hlt
    have same : ∃ s', k.format.read x = .number s' m' i' := by
      unfold Format.read at g1 ⊢
      simp only [hmod] at g1 ⊢
      by_cases hb : x % k.format.signWeight < k.format.binade
      · rw [if_pos hb] at g1 ⊢
        simp only [Datum.number.injEq] at g1
        obtain ⟨_, rfl, rfl⟩ := g1
        exact ⟨_, rfl⟩
      · rw [if_neg hb, if_pos hlt] at g1 ⊢
        simp only [Datum.number.injEq] at g1
        obtain ⟨_, rfl, rfl⟩ := g1
        exact ⟨_, rfl⟩
    obtain ⟨s', hs'⟩ := same
    rw [hr] at hs'
    cases hs'
    exact ⟨g2, by rw [g3]; exact valN_le.2 (by omega)⟩
  cases hr : k.format.read x with
  | number s m i =>
    obtain ⟨g1, g2⟩ := key s m i hr
    refine ⟨s, m, i, rfl, g1, fun hs => ?_, g2⟩
    rw [hr] at h0
    simpa [okD, hs] using h0
  | infinity s => rw [hr] at hf; cases hf
  | nan s t => rw [hr] at hf; cases hf
/-- The difference of two such numbers is finite. -/
theorem sub_fin {k : FloatKind} {x y : Nat} (hx : F.le k 0 x = true) (fx : F.fin k x = true) (hy : F.le k 0 y = true) (fy : F.fin k y = true) : F.fin k (F.sub k x y) = true := by
  obtain ⟨s, m, i, h1, h2, h3, h4⟩ := okfin_val hx fx
  obtain ⟨t, n, j, g1, g2, g3, g4⟩ := okfin_val hy fy
  unfold F.sub Format.sub
  rw [h1, g1]
  simp only [Datum.opposite, Datum.sum, Option.map_some, Option.getD_some, Format.write]
  generalize hneg : (if signed s m (i - min i j).toNat + signed (!t) n (j - min i j).toNat = 0 then s && !t else decide (signed s m (i - min i j).toNat + signed (!t) n (j - min i j).toNat < 0)) = neg
  have a1 : signed s m (i - min i j).toNat = ((m * 2 ^ (i - min i j).toNat : Nat) : Int) := by
    cases s with
    | false => exact signed_pos m _
    | true => rw [h3 rfl]; simp [signed]
  have a2 : signed (!t) n (j - min i j).toNat = -((n * 2 ^ (j - min i j).toNat : Nat) : Int) := by
    cases t with
    | false => simp [signed, Nat.shiftLeft_eq]
    | true => rw [g3 rfl]; simp [signed]
  rw [a1, a2]
  have hmax : (((m * 2 ^ (i - min i j).toNat : Nat) : Int) + -((n * 2 ^ (j - min i j).toNat : Nat) : Int)).natAbs ≤ max (m * 2 ^ (i - min i j).toNat) (n * 2 ^ (j - min i j).toNat) := by omega
  generalize (((m * 2 ^ (i - min i j).toNat : Nat) : Int) + -((n * 2 ^ (j - min i j).toNat : Nat) : Int)).natAbs = mag at *
  by_cases hm : mag = 0
  · subst hm
    have e : k.format.nearest neg 0 (min i j) = k.format.word neg 0 := by simp [Format.nearest]
    rw [e]
    exact fin_word (by cases k <;> decide)
  · rw [nearest_Rg k.format neg hm (b := k.format.leastPlace) (by omega) (Int.le_refl _)]
    apply fin_word
    have e1 : m * 2 ^ (i - min i j).toNat * 2 ^ (min i j - k.format.leastPlace).toNat = m * 2 ^ (i - k.format.leastPlace).toNat := by
      rw [Nat.mul_assoc, ← Nat.pow_add]; congr 2; omega
    have e2 : n * 2 ^ (j - min i j).toNat * 2 ^ (min i j - k.format.leastPlace).toNat = n * 2 ^ (j - k.format.leastPlace).toNat := by
      rw [Nat.mul_assoc, ← Nat.pow_add]; congr 2; omega
    have e3 : mag * 2 ^ (min i j - k.format.leastPlace).toNat ≤ valN k.format (k.format.infRung - 1) := by
      rcases Nat.le_total (m * 2 ^ (i - min i j).toNat) (n * 2 ^ (j - min i j).toNat) with hc | hc
      · rw [Nat.max_eq_right hc] at hmax
        have := Nat.mul_le_mul_right (2 ^ (min i j - k.format.leastPlace).toNat) hmax
        rw [e2] at this
        omega
      · rw [Nat.max_eq_left hc] at hmax
        have := Nat.mul_le_mul_right (2 ^ (min i j - k.format.leastPlace).toNat) hmax
        rw [e1] at this
        omega
    have e4 := Rg_mono k.format (Int.le_refl _) (Nat.mul_ne_zero hm (Nat.ne_of_gt (Nat.pow_pos (by omega)))) e3
    have hi : 1 < k.format.infRung := by cases k <;> decide
    rw [Rg_valN k.format (by omega)] at e4
    omega
/-- The difference of two such numbers is not below nought, where the first is not the less. -/
theorem sub_nn {k : FloatKind} {x y : Nat} (hx : F.le k 0 x = true) (fx : F.fin k x = true) (hy : F.le k 0 y = true) (fy : F.fin k y = true) (hl : F.lt k x y = false) : F.le k 0 (F.sub k x y) = true := by
  obtain ⟨s, m, i, h1, h2, h3, h4⟩ := okfin_val hx fx
  obtain ⟨t, n, j, g1, g2, g3, g4⟩ := okfin_val hy fy
  have a0 : ∀ u, signed s m u = ((m * 2 ^ u : Nat) : Int) := fun u => by
    cases s with
    | false => exact signed_pos m _
    | true => rw [h3 rfl]; simp [signed]
  have b0 : ∀ u, signed t n u = ((n * 2 ^ u : Nat) : Int) := fun u => by
    cases t with
    | false => exact signed_pos n _
    | true => rw [g3 rfl]; simp [signed]
  have a2 : ∀ u, signed (!t) n u = -((n * 2 ^ u : Nat) : Int) := fun u => by
    cases t with
    | false => simp [signed, Nat.shiftLeft_eq]
    | true => rw [g3 rfl]; simp [signed]
  have hge : ((n * 2 ^ (j - min i j).toNat : Nat) : Int) ≤ ((m * 2 ^ (i - min i j).toNat : Nat) : Int) := by
    unfold F.lt Format.order at hl
    rw [h1, g1] at hl
    simp only [Datum.order, a0, b0] at hl
    rcases Int.lt_or_le ((m * 2 ^ (i - min i j).toNat : Nat) : Int) ((n * 2 ^ (j - min i j).toNat : Nat) : Int) with h | h
    · rw [Int.compare_eq_lt.2 h] at hl
      cases hl
    · exact h
  rw [le0_iff]
  unfold F.sub Format.sub
  rw [h1, g1]
  simp only [Datum.opposite, Datum.sum, Option.map_some, Option.getD_some]
  apply okD_write
  rw [a0, a2]
  simp only [okD]
  generalize ((m * 2 ^ (i - min i j).toNat : Nat) : Int) = A at *
  generalize ((n * 2 ^ (j - min i j).toNat : Nat) : Int) = B at *
  by_cases hz : A + -B = 0
  · rw [hz]; simp
  · rw [if_neg hz]
    have : ¬ A + -B < 0 := by omega
    simp [this]
theorem lt_self (k : FloatKind) (x : Nat) : F.lt k x x = false := by
  unfold F.lt Format.order
  cases k.format.read x with
  | number s m e => simp [Datum.order]
  | infinity s => cases s <;> simp [Datum.order]
  | nan s t => simp [Datum.order]
end Go.Sx
set_option linter.unusedVariables false
set_option linter.unusedSimpArgs false
noncomputable section
namespace Go.Sx
open Go Ieee

theorem rootFrom_le (n : Nat) : ∀ (todo root : Nat), Datum.rootFrom n todo root + 1 ≤ root + 2 ^ todo
  | 0, root => by simp [Datum.rootFrom]
  | todo + 1, root => by
    simp only [Datum.rootFrom, Nat.one_shiftLeft]
    rw [Nat.pow_succ]
    split
    · have := rootFrom_le n todo (root + 2 ^ todo)
      omega
    · have := rootFrom_le n todo root
      omega

/-- The greatest double that a single can be. -/
def topY : Nat := 5183643170566569984
/-- A root of it. -/
def topR : Nat := 5080060379673919488
theorem narrow_pos {w : Nat} (h : w < double.infRung) : ∃ m e, double.read w = .number false m e ∧ single.write (double.read w) = RgN single (valN double w) (-1074) := by
  obtain ⟨m, e, h1, h2, h3⟩ := read_pos double h
  have hlp : double.leastPlace = -1074 := by decide
  rw [hlp] at h2 h3
  refine ⟨m, e, h1, ?_⟩
  rw [h1]
  show single.nearest false m e = _
  rw [nearest_RgN single (b := -1074) h2 (by decide), ← h3]
theorem narrow_ok {w : Nat} (h : w ≤ topR) : F.convOk .f64 .f32 w = true := by
  have hlt : w < double.infRung := Nat.lt_of_le_of_lt h (by decide)
  obtain ⟨m, e, h1, h2⟩ := narrow_pos hlt
  have h3 : RgN single (valN double w) (-1074) ≤ RgN single (valN double topR) (-1074) := RgN_mono single (by decide) (valN_le.2 h)
  have h4 : RgN single (valN double topR) (-1074) < single.infRung := by decide +kernel
  unfold F.convOk
  simp only [reduceCtorEq, if_false]
  show (match double.read w with
    | .number n m e => !(single.read (single.write (.number n m e))).isInfinity
    | _ => true) = true
  have h5 := h2
  rw [h1] at h5 ⊢
  simp only
  rw [h5]
  obtain ⟨m', e', g1, _⟩ := read_pos single (x := RgN single (valN double w) (-1074)) (by omega)
  rw [g1]
  rfl
theorem k1 : Nat.ble (RgN double (2 ^ (66 + 1074)) (-1074)) topR = true := by kernel_rfl
theorem k2 : Nat.beq (Rg double (valN single (single.infRung - 1) * 2 ^ 925) (-1074)) topY = true := by kernel_rfl
theorem k3 : Nat.blt (valN double topY) (2 ^ (128 + 1074)) = true := by kernel_rfl
theorem root_small {m : Nat} {i : Int} {d : Datum} (hm : m ≠ 0) (hb : (m.log2 : Int) + i ≤ 127) (hi : -1074 ≤ i) (h : Datum.root 54 (.number false m i) = some d) : double.write d ≤ topR := by
  simp only [Datum.root, if_neg hm, Bool.false_eq_true, if_false, Option.some.injEq] at h
  subst h
  simp only [Format.write]
  generalize hmore : (2 * 54 - m.log2 + ((i - (2 * 54 - m.log2 : Nat)) % 2).toNat) = more
  have heven : (i - (more : Int)) % 2 = 0 := by rw [← hmore]; omega
  have hsm : more ≤ 109 := by rw [← hmore]; omega
  generalize hw : Datum.rootFrom (m <<< more) ((m <<< more).log2 / 2 + 1) 0 = whole
  have hlog : (m <<< more).log2 = m.log2 + more := by rw [Nat.shiftLeft_eq, log2_shift hm]
  have hwl : whole + 1 ≤ 2 ^ ((m.log2 + more) / 2 + 1) := by
    have := rootFrom_le (m <<< more) ((m <<< more).log2 / 2 + 1) 0
    rw [hw, hlog] at this
    omega
  generalize hb' : (whole * whole != m <<< more).toNat = s
  have hs : s ≤ 1 := by rw [← hb']; exact Bool.toNat_le _
  have hmag : 2 * whole + s ≤ 2 ^ ((m.log2 + more) / 2 + 2) := by
    rw [Nat.pow_succ]; omega
  by_cases hz : 2 * whole + s = 0
  · rw [hz]
    have : double.nearest false 0 ((i - more) / 2 - 1) = 0 := by simp [Format.nearest, Format.word]
    rw [this]; exact Nat.zero_le _
  have hp : -1074 ≤ (i - (more : Int)) / 2 - 1 := by omega
  rw [nearest_RgN double (b := -1074) hp (by decide)]
  have h1 : ∀ q : Nat, q = 66 + 1074 → (2 * whole + s) * 2 ^ ((i - (more : Int)) / 2 - 1 - -1074).toNat ≤ 2 ^ q := by
    intro q hq
    refine Nat.le_trans (Nat.mul_le_mul_right _ hmag) ?_
    rw [← Nat.pow_add]
    exact Nat.pow_le_pow_right (by omega) (by omega)
  exact Nat.le_trans (RgN_mono double (by decide) (h1 _ rfl)) (Nat.le_of_ble_eq_true k1)
theorem sqrt_narrow (x : Nat) : F.convOk .f64 .f32 (F.sqrt (F.conv .f32 .f64 x)) = true := by
  have hnan : F.convOk .f64 .f32 (nanOf .f64) = true := by decide +kernel
  unfold F.conv
  simp only [reduceCtorEq, if_false]
  have hslp : single.leastPlace = -149 := by decide
  have hdlp : double.leastPlace = -1074 := by decide
  split
  · decide +kernel
  · rename_i d hd
    show F.convOk .f64 .f32 (F.sqrt (double.write (single.read x))) = true
    cases hr : single.read x with
    | nan s t => exact absurd hr (hd s t)
    | infinity s => cases s <;> decide +kernel
    | number s m e =>
      -- what the single is
      have hval : -149 ≤ e ∧ m * 2 ^ (e + 149).toNat ≤ valN single (single.infRung - 1) := by
        have hlt : x % single.signWeight < single.infRung := by
          rcases Nat.lt_or_ge (x % single.signWeight) single.infRung with h | h
          · exact h
          · exfalso
            have hb : single.binade ≤ single.infRung := by decide
            unfold Format.read at hr
            simp only at hr
            rw [if_neg (by omega), if_neg (by omega)] at hr
            split at hr <;> cases hr
        have hmod : (x % single.signWeight) % single.signWeight = x % single.signWeight := Nat.mod_mod ..
        obtain ⟨m', i', g1, g2, g3⟩ := read_pos single hlt
        have same : ∃ s', single.read x = .number s' m' i' := by
          unfold Format.read at g1 ⊢
          simp only [hmod] at g1 ⊢
          by_cases hb : x % single.signWeight < single.binade
          · rw [if_pos hb] at g1 ⊢
            simp only [Datum.number.injEq] at g1
            obtain ⟨_, rfl, rfl⟩ := g1
            exact ⟨_, rfl⟩
          · rw [if_neg hb, if_pos hlt] at g1 ⊢
            simp only [Datum.number.injEq] at g1
            obtain ⟨_, rfl, rfl⟩ := g1
            exact ⟨_, rfl⟩
        obtain ⟨s', hs'⟩ := same
        rw [hr] at hs'
        cases hs'
        rw [hslp] at g2 g3
        refine ⟨g2, ?_⟩
        have : (e - -149).toNat = (e + 149).toNat := by omega
        rw [this] at g3
        rw [g3]
        exact valN_le.2 (by omega)
      obtain ⟨he, hv⟩ := hval
      by_cases hm : m = 0
      · subst hm
        have e1 : double.write (.number s 0 e) = double.word s 0 := by simp [Format.write, Format.nearest]
        rw [e1]
        cases s <;> decide +kernel
      · have e1 : double.write (.number s m e) = double.word s (min (Rg double (m * 2 ^ (e - -1074).toNat) (-1074)) double.infRung) := nearest_Rg double s hm (by omega) (by decide)
        rw [e1]
        have hY : min (Rg double (m * 2 ^ (e - -1074).toNat) (-1074)) double.infRung ≤ topY := by
          have a1 : ∀ q : Nat, q = 925 → m * 2 ^ (e - -1074).toNat ≤ valN single (single.infRung - 1) * 2 ^ q := by
            intro q hq
            have : m * 2 ^ (e - -1074).toNat = m * 2 ^ (e + 149).toNat * 2 ^ q := by
              rw [Nat.mul_assoc, ← Nat.pow_add]; congr 2; omega
            rw [this]
            exact Nat.mul_le_mul_right _ hv
          have a2 := Rg_mono double (b := -1074) (by decide) (Nat.mul_ne_zero hm (Nat.ne_of_gt (Nat.pow_pos (by omega)))) (a1 _ rfl)
          have a3 : Rg double (valN single (single.infRung - 1) * 2 ^ 925) (-1074) = topY := Nat.eq_of_beq_eq_true k2
          rw [a3] at a2
          exact Nat.le_trans (Nat.min_le_left ..) a2
        have hY0 : 0 < min (Rg double (m * 2 ^ (e - -1074).toNat) (-1074)) double.infRung := by
          have a1 : 1 ≤ m * 2 ^ (e - -1074).toNat := Nat.mul_pos (Nat.pos_of_ne_zero hm) (Nat.pow_pos (by omega))
          have a2 := Rg_mono double (b := -1074) (by decide) (by decide) a1
          have a3 : Rg double 1 (-1074) = 1 := by decide +kernel
          have a4 : 1 < double.infRung := by decide
          omega
        generalize min (Rg double (m * 2 ^ (e - -1074).toNat) (-1074)) double.infRung = r at hY hY0
        have hlt : r < double.infRung := Nat.lt_of_le_of_lt hY (by decide)
        obtain ⟨m', i', g1, g2, g3⟩ := read_pos double hlt
        rw [hdlp] at g2 g3
        have hm' : m' ≠ 0 := by
          rintro rfl
          rw [Nat.zero_mul] at g3
          have := valN_zero.1 g3.symm
          omega
        cases s with
        | true =>
          -- below nought: no root
          have hrd : ∃ m2 i2, m2 ≠ 0 ∧ double.read (double.word true r) = .number true m2 i2 := by
            have e2 : double.word true r = double.signWeight + r := by simp [Format.word]
            have hs := inf_lt_sign double
            have e3 : (double.signWeight + r) % double.signWeight = r := by rw [Nat.add_mod_left]; exact Nat.mod_eq_of_lt (by omega)
            have e4 : (double.signWeight + r) / double.signWeight = 1 := by
              rw [Nat.add_div_left _ (by omega), Nat.div_eq_of_lt (by omega)]
            rw [e2]
            unfold Format.read
            simp only [e3, e4]
            by_cases hb : r < double.binade
            · rw [if_pos hb]; exact ⟨r, _, by omega, rfl⟩
            · rw [if_neg hb, if_pos hlt]; exact ⟨_, _, by have := binade_pos double; omega, rfl⟩
          obtain ⟨m2, i2, hm2, hrd⟩ := hrd
          have : F.sqrt (double.word true r) = nanOf .f64 := by
            show ((Datum.root 54 (double.read (double.word true r))).map double.write).getD (nanOf .f64) = _
            rw [hrd]
            simp [Datum.root, hm2]
          rw [this]; exact hnan
        | false =>
          rw [word_pos]
          have hb : (m'.log2 : Int) + i' ≤ 127 := by
            have a1 : 2 ^ m'.log2 ≤ m' := Nat.log2_self_le hm'
            have a2 : 2 ^ m'.log2 * 2 ^ (i' - -1074).toNat ≤ valN double topY := by
              refine Nat.le_trans (Nat.mul_le_mul_right _ a1) ?_
              rw [g3]; exact valN_le.2 hY
            rw [← Nat.pow_add] at a2
            have a4 : ∀ q : Nat, Nat.blt (valN double topY) (2 ^ q) = true → m'.log2 + (i' - -1074).toNat < q := fun q hq =>
              (Nat.pow_lt_pow_iff_right (by omega : 1 < 2)).1 (Nat.lt_of_le_of_lt a2 (by simpa [Nat.blt_eq] using hq))
            have a5 := a4 _ k3
            omega
          show F.convOk .f64 .f32 (((Datum.root 54 (double.read r)).map double.write).getD (nanOf .f64)) = true
          rw [g1]
          cases hd' : Datum.root 54 (.number false m' i') with
          | none => exact hnan
          | some d => exact narrow_ok (root_small hm' hb (by omega) hd')
end Go.Sx
