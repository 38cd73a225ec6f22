/- Is a float finite? What the program's tests come to. No condition. -/
import Derived.Test.YtfdpcmijifdfeaaGreatSxF
set_option linter.unusedVariables false
set_option linter.unusedSimpArgs false
noncomputable section
namespace Go.Sx
open Go Ieee

theorem write_zero (f : Format) (i : Int) : f.write (.number false 0 i) = 0 := by
  simp [Format.write, Format.nearest, Format.word]
theorem read_zero (k : FloatKind) : k.format.read 0 = .number false 0 k.format.leastPlace := by
  cases k <;> rfl
theorem sub_self_fin (k : FloatKind) (x : Nat) : F.eq k (F.sub k x x) 0 = F.fin k x := by
  unfold F.eq F.sub F.fin Format.sub Format.order
  cases h : k.format.read x with
  | number s m i =>
    have e : (Datum.number s m i).sum (Datum.number s m i).opposite = some (.number false 0 i) := by
      simp only [Datum.opposite, Datum.sum, Int.min_self, Int.sub_self, Int.toNat_zero, signed, Nat.shiftLeft_zero]
      cases s
      · have h0 : (m : Int) + -(m : Int) = 0 := by omega
        simp [h0]
      · have h0 : -(m : Int) + (m : Int) = 0 := by omega
        simp [h0]
    rw [e]
    simp only [Option.map_some, Option.getD_some, write_zero, read_zero]
    rw [order_self _ rfl]
    rfl
  | infinity s => cases s <;> cases k <;> decide
  | nan s t =>
    rw [sum_nan_l rfl]
    show _ = false
    cases k <;> decide
theorem double_read (x : Nat) {s : Bool} {m : Nat} {e : Int} (h : double.read x = .number s m e) : m < 2 ^ 53 ∧ e ≤ 971 := by
  have e1 : double.binade = 4503599627370496 := by decide
  have e2 : double.infRung = 9218868437227405312 := by decide
  have e3 : double.leastPlace = -1074 := by decide
  unfold Format.read at h
  simp only [e1, e2, e3] at h
  generalize x % double.signWeight = r at h
  split at h
  · cases h; omega
  · split at h
    · cases h; omega
    · split at h <;> cases h
theorem read_abs (k : FloatKind) (y : Nat) : k.format.read (y % k.format.signWeight) = (match k.format.read y with | .number _ m e => .number false m e | .infinity _ => .infinity false | .nan _ t => .nan false t) := by
  have hw : y % k.format.signWeight / k.format.signWeight % 2 = 0 := by
    have h0 : 0 < k.format.signWeight := by cases k <;> decide
    rw [Nat.div_eq_of_lt (Nat.mod_lt _ h0)]
  unfold Format.read
  simp only [Nat.mod_mod, hw]
  split
  · rfl
  · split
    · rfl
    · split <;> rfl
/-- No finite double is greater than the greatest one. -/
theorem max_double (y : Nat) {s : Bool} {m : Nat} {e : Int} (h : double.read y = .number s m e) : F.lt .f64 9218868437227405311 (y % double.signWeight) = false := by
  obtain ⟨h1, h2⟩ := double_read y h
  have hr := read_abs .f64 y
  have hd : FloatKind.f64.format = double := rfl
  rw [hd, h] at hr
  unfold F.lt Format.order
  rw [hd, hr]
  have hm : double.read 9218868437227405311 = .number false 9007199254740991 971 := by decide +kernel
  rw [hm]
  simp only [Datum.order, signed, Int.min_eq_right h2, Int.sub_self, Int.toNat_zero, Nat.shiftLeft_zero, Bool.false_eq_true, if_false]
  have hle : m ≤ 9007199254740991 <<< (971 - e).toNat := by
    rw [Nat.shiftLeft_eq]
    have : 1 ≤ 2 ^ (971 - e).toNat := Nat.one_le_two_pow
    calc m ≤ 9007199254740991 * 1 := by omega
      _ ≤ _ := Nat.mul_le_mul_left _ this
  generalize 9007199254740991 <<< (971 - e).toNat = z at hle
  simp only [compare, compareOfLessAndEq]
  split
  · omega
  · split <;> rfl
/-- 'NaN, or of a size beyond the greatest double', of a single widened: it is not finite. -/
theorem wide_fin (x : Nat) : (isNan .f64 (F.conv .f32 .f64 x) || F.lt .f64 9218868437227405311 (F.abs .f64 (F.conv .f32 .f64 x))) = !F.fin .f32 x := by
  have hok := convOk_32_64 x
  unfold F.convOk at hok
  unfold F.conv F.fin
  rw [if_neg (by decide)] at hok ⊢
  have hdec : FloatKind.f32.decode x = FloatKind.f32.format.read x := rfl
  rw [hdec] at hok ⊢
  cases h : FloatKind.f32.format.read x with
  | number s m e =>
    rw [h] at hok
    simp only at hok ⊢
    have hn : isNan .f64 (FloatKind.f64.encode (.number s m e)) = false := write_notNan .f64 _ rfl
    generalize hy : FloatKind.f64.encode (.number s m e) = y at hok hn
    rw [hn]
    unfold F.abs
    rw [hn]
    have hr : FloatKind.f64.decode y = double.read y := rfl
    rw [hr] at hok
    cases hd : double.read y with
    | number s' m' e' => have := max_double y hd; show (false || F.lt .f64 9218868437227405311 (y % double.signWeight)) = !true; rw [this]; rfl
    | infinity s' => rw [hd] at hok; cases hok
    | nan s' t' =>
      have : isNan .f64 y = true := by rw [isNan_eq]; show isNanD (double.read y) = true; rw [hd]; rfl
      rw [hn] at this; cases this
  | infinity s => cases s <;> decide +kernel
  | nan s t => simp only; decide +kernel
theorem andnot_top (x : Nat) : Go.bits .andNot .u64 (x : Int) 9223372036854775808 = ((x % 9223372036854775808 : Nat) : Int) := by
  have h : (BitVec.ofInt IntKind.u64.bits (x : Int) &&& ~~~ (BitVec.ofInt IntKind.u64.bits 9223372036854775808)).toNat = x % 9223372036854775808 := by
    have e : ~~~ (BitVec.ofInt IntKind.u64.bits 9223372036854775808) = BitVec.ofNat IntKind.u64.bits (2 ^ 63 - 1) := by decide
    rw [e, BitVec.toNat_and]
    have e2 : (BitVec.ofInt IntKind.u64.bits (x : Int)).toNat = x % 2 ^ 64 := by
      rw [BitVec.toNat_ofInt]
      show ((x : Int) % ((2 ^ 64 : Nat) : Int)).toNat = _
      omega
    have e3 : (BitVec.ofNat IntKind.u64.bits (2 ^ 63 - 1)).toNat = 2 ^ 63 - 1 := by decide
    rw [e2, e3, Nat.and_two_pow_sub_one_eq_mod]
    omega
  unfold Go.bits
  simp only []
  rw [h]
  have hlt : x % 9223372036854775808 < 9223372036854775808 := Nat.mod_lt _ (by decide)
  generalize x % 9223372036854775808 = y at hlt
  simp [IntKind.wrap, IntKind.bits, IntKind.signed]
  omega
theorem abs_canon (x : Nat) : canon .f64 (x % 9223372036854775808) = F.abs .f64 (canon .f64 x) := by
  have hw : FloatKind.f64.format.signWeight = 9223372036854775808 := by decide
  have hr := read_abs .f64 x
  rw [hw] at hr
  have hn : isNan .f64 (x % 9223372036854775808) = isNan .f64 x := by
    rw [isNan_eq, isNan_eq, hr]
    cases FloatKind.f64.format.read x <;> rfl
  unfold F.abs
  rw [isNan_canon, hw]
  cases hx : isNan .f64 x with
  | true => rw [hx] at hn; rw [canon_nan _ _ hn]; rfl
  | false => rw [hx] at hn; rw [canon_not _ _ hn, canon_not _ _ hx]; rfl
end Go.Sx
