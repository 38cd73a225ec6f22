/- A part of a sum is at most one; its floor, times a small number, is a small whole number. No condition. -/
import Derived.Test.YtfdpcmijifdfeaaGreatSxTm
import Derived.Test.YtfdpcmijifdfeaaGreatSxSound
import Derived.Test.YtfdpcmijifdfeaaGreatSxPat
import Derived.Test.YtfdpcmijifdfeaaGreatSxRes
set_option linter.unusedVariables false
set_option linter.unusedSimpArgs false
noncomputable section
namespace Go.Sx
open Go Ieee

/-- A quotient by a number no less than it is at most one. -/
theorem div_one {k : FloatKind} {x y : Nat} (hy : y < k.format.infRung) (h0 : y ≠ 0) (hxy : x ≤ y) : F.div k x y ≤ k.nearest 1 := by
  have hlp : k.format.leastPlace ≤ 0 := by cases k <;> decide
  obtain ⟨m, i, h1', h2, h3⟩ := read_pos k.format (x := x) (by omega)
  obtain ⟨n, j, g1, g2, g3⟩ := read_pos k.format hy
  have hn : n ≠ 0 := by
    rintro rfl
    rw [Nat.zero_mul] at g3
    exact h0 (valN_zero.1 g3.symm)
  have hv : valN k.format x ≤ valN k.format y := valN_le.2 hxy
  rw [← h3, ← g3] at hv
  unfold F.div Format.div
  rw [h1', g1]
  simp only [Datum.quotient, if_neg hn, Option.map_some, Option.getD_some, Bool.xor_self, Format.write, Nat.shiftLeft_eq]
  by_cases hm : m = 0
  · subst hm
    have e : (2 * (0 * 2 ^ (k.format.fractionBits + 2 + n.log2 - Nat.log2 0) / n) + (0 * 2 ^ (k.format.fractionBits + 2 + n.log2 - Nat.log2 0) % n != 0).toNat) = 0 := by simp
    rw [e]
    have : k.format.nearest false 0 (i - j - (k.format.fractionBits + 2 + n.log2 - Nat.log2 0 : Nat) - 1) = 0 := by simp [Format.nearest, word_pos]
    rw [this]; exact Nat.zero_le _
  have hmore : n ≤ m * 2 ^ (k.format.fractionBits + 2 + n.log2 - m.log2) := by
    have a1 : 2 ^ m.log2 ≤ m := Nat.log2_self_le hm
    have a2 : n < 2 ^ (n.log2 + 1) := Nat.lt_log2_self
    have a3 : 2 ^ (n.log2 + 1) ≤ 2 ^ (m.log2 + (k.format.fractionBits + 2 + n.log2 - m.log2)) := Nat.pow_le_pow_right (by omega) (by omega)
    rw [Nat.pow_add 2 m.log2] at a3
    have a4 := Nat.mul_le_mul_right (2 ^ (k.format.fractionBits + 2 + n.log2 - m.log2)) a1
    omega
  revert hmore
  generalize k.format.fractionBits + 2 + n.log2 - m.log2 = more
  intro hmore
  have hb : ∃ b : Int, b ≤ i - j - more - 1 ∧ b ≤ k.format.leastPlace := ⟨min (i - j - more - 1) k.format.leastPlace, by omega, by omega⟩
  obtain ⟨b, hb1, hb2⟩ := hb
  rw [nearest_RgN k.format (b := b) hb1 (by omega)]
  have e : k.nearest 1 = RgN k.format (1 * 2 ^ (0 - b).toNat) b := by
    unfold FloatKind.nearest FloatKind.encode Format.write
    have : decide ((1 : Int) < 0) = false := by decide
    rw [this]
    exact nearest_RgN k.format (by omega) (by omega)
  rw [e]
  apply RgN_mono _ (by omega)
  have hpos : 0 < 2 ^ (i - k.format.leastPlace).toNat := Nat.pow_pos (by omega)
  -- m * 2^more ≤ n * 2^(more + j - i)
  have hmn : 0 ≤ more + j - i ∧ m * 2 ^ more ≤ n * 2 ^ (more + j - i).toNat := by
    have p0 : m * 2 ^ more * 2 ^ (i - k.format.leastPlace).toNat ≤ n * 2 ^ more * 2 ^ (j - k.format.leastPlace).toNat := by
      have := Nat.mul_le_mul_right (2 ^ more) hv
      rw [Nat.mul_right_comm m, Nat.mul_right_comm n]
      exact this
    by_cases hc : 0 ≤ more + j - i
    · refine ⟨hc, ?_⟩
      apply Nat.le_of_mul_le_mul_right _ hpos
      refine Nat.le_trans p0 (Nat.le_of_eq ?_)
      rw [Nat.mul_assoc, Nat.mul_assoc, ← Nat.pow_add, ← Nat.pow_add]
      congr 2
      omega
    · exfalso
      have q0 : n * 2 ^ (i - k.format.leastPlace).toNat ≤ n * (2 ^ more * 2 ^ (j - k.format.leastPlace).toNat) := by
        rw [← Nat.mul_assoc]
        exact Nat.le_trans (Nat.mul_le_mul_right _ hmore) p0
      have q1 := Nat.le_of_mul_le_mul_left q0 (by omega)
      rw [← Nat.pow_add] at q1
      have q2 := (Nat.pow_le_pow_iff_right (a := 2) (by omega)).1 q1
      omega
  obtain ⟨hc, hmn⟩ := hmn
  generalize m * 2 ^ more = M at *
  have hA : 2 * (M / n) + (M % n != 0).toNat ≤ 2 * 2 ^ (more + j - i).toNat := by
    have d1 := Nat.div_add_mod M n
    have d2 : M / n ≤ 2 ^ (more + j - i).toNat := by
      apply Nat.div_le_of_le_mul
      exact hmn
    by_cases hr : M % n = 0
    · have : (M % n != 0).toNat = 0 := by rw [hr]; rfl
      omega
    · have hlt : M / n < 2 ^ (more + j - i).toNat := by
        rcases Nat.lt_or_ge (M / n) (2 ^ (more + j - i).toNat) with h | h
        · exact h
        · exfalso
          have := Nat.mul_le_mul_left n h
          omega
      have := Bool.toNat_le (M % n != 0)
      omega
  refine Nat.le_trans (Nat.mul_le_mul_right _ hA) (Nat.le_of_eq ?_)
  have e2 : 2 * 2 ^ (more + j - i).toNat = 2 ^ ((more + j - i).toNat + 1) := by rw [Nat.pow_succ]; omega
  rw [e2, ← Nat.pow_add, Nat.one_mul]
  congr 1
  omega
/-- What a word reads as that is finite and not below nought. -/
theorem read_norm {k : FloatKind} {x : Nat} (h0 : F.le k 0 x = true) (hf : F.fin k x = true) : x % k.format.signWeight < k.format.infRung ∧
    (k.format.read x = k.format.read (x % k.format.signWeight) ∨ x % k.format.signWeight = 0 ∧ k.format.read x = .number true 0 k.format.leastPlace) := by
  have hs := inf_lt_sign k.format
  have hmod : (x % k.format.signWeight) % k.format.signWeight = x % k.format.signWeight := Nat.mod_mod ..
  have hlt : x % k.format.signWeight < k.format.infRung := by
    rcases Nat.lt_or_ge (x % k.format.signWeight) k.format.infRung with h | h
    · exact h
    · exfalso
      have hb : k.format.binade ≤ k.format.infRung := by cases k <;> decide
      unfold F.fin Format.read at hf
      simp only at hf
      rw [if_neg (by omega), if_neg (by omega)] at hf
      split at hf
      · rename_i q
        split at q <;> cases q
      · cases hf
  refine ⟨hlt, ?_⟩
  have hdiv : x % k.format.signWeight / k.format.signWeight = 0 := Nat.div_eq_of_lt (by omega)
  rw [le0_iff] at h0
  cases hneg : (x / k.format.signWeight % 2 == 1) with
  | false =>
    left
    unfold Format.read
    simp only [hmod, hneg, hdiv, Nat.zero_mod]
    rfl
  | true =>
    right
    unfold Format.read at h0 ⊢
    simp only [hneg] at h0 ⊢
    by_cases hb : x % k.format.signWeight < k.format.binade
    · rw [if_pos hb] at h0 ⊢
      simp only [okD, Bool.not_true, Bool.false_or, beq_iff_eq] at h0
      rw [h0]
      exact ⟨rfl, rfl⟩
    · rw [if_neg hb, if_pos hlt] at h0
      simp only [okD, Bool.not_true, Bool.false_or, beq_iff_eq] at h0
      have := binade_pos k.format
      omega
theorem mod_self {k : FloatKind} {x : Nat} (h : x ≤ k.format.infRung) : x % k.format.signWeight = x := Nat.mod_eq_of_lt (Nat.lt_of_le_of_lt h (inf_lt_sign _))
theorem zero_inf (k : FloatKind) : 0 < k.format.infRung := by cases k <;> decide
theorem read_zero (k : FloatKind) : k.format.read 0 = .number false 0 k.format.leastPlace := by cases k <;> rfl
/-- A sum is no less than each of its two numbers. -/
theorem add_ge {k : FloatKind} {x y : Nat} (hx : F.le k 0 x = true) (hy : F.le k 0 y = true) (hf : F.fin k (F.add k x y) = true) :
    x % k.format.signWeight ≤ F.add k x y % k.format.signWeight ∧ y % k.format.signWeight ≤ F.add k x y % k.format.signWeight := by
  have fx : F.fin k x = true := by
    cases h : F.fin k x with
    | true => rfl
    | false => rw [add_nf (.inl h)] at hf; cases hf
  have fy : F.fin k y = true := by
    cases h : F.fin k y with
    | true => rfl
    | false => rw [add_nf (.inr h)] at hf; cases hf
  obtain ⟨x1, x2⟩ := read_norm hx fx
  obtain ⟨y1, y2⟩ := read_norm hy fy
  have norm : F.add k x y = F.add k (x % k.format.signWeight) (y % k.format.signWeight) →
      x % k.format.signWeight ≤ F.add k x y % k.format.signWeight ∧ y % k.format.signWeight ≤ F.add k x y % k.format.signWeight := by
    intro h
    rw [h, mod_self (add_top x1 y1), add_pos x1 y1]
    have key : ∀ z w : Nat, z < k.format.infRung → z ≤ RgN k.format (valN k.format z + w) k.format.leastPlace := by
      intro z w hz
      by_cases h0 : z = 0
      · omega
      · have e : RgN k.format (valN k.format z) k.format.leastPlace = z := by
          unfold RgN
          rw [if_neg (fun h => h0 (valN_zero.1 h)), Rg_valN _ h0]
          omega
        have := RgN_mono k.format (Int.le_refl _) (show valN k.format z ≤ valN k.format z + w by omega)
        rw [e] at this
        exact this
    refine ⟨key _ _ x1, ?_⟩
    rw [Nat.add_comm]
    exact key _ _ y1
  have sg : ∀ (b : Bool) (u : Nat), signed b 0 u = 0 := fun b u => by cases b <;> simp [signed]
  rcases x2 with x2 | ⟨x2, x3⟩ <;> rcases y2 with y2 | ⟨y2, y3⟩
  · exact norm (by unfold F.add Format.add; rw [x2, y2])
  · refine norm ?_
    obtain ⟨m, i, r1, _⟩ := read_pos k.format x1
    unfold F.add Format.add
    rw [x2, y3, y2, read_zero, r1]
    simp only [Datum.sum, sg, Bool.and_true, Bool.false_and]
  · refine norm ?_
    obtain ⟨m, i, r1, _⟩ := read_pos k.format y1
    unfold F.add Format.add
    rw [y2, x3, x2, read_zero, r1]
    simp only [Datum.sum, sg, Bool.and_false]
  · rw [x2, y2]
    exact ⟨Nat.zero_le _, Nat.zero_le _⟩
theorem lt_nz {k : FloatKind} {x : Nat} (h : F.lt k 0 x = true) : x % k.format.signWeight ≠ 0 := by
  intro h0
  have hr : ∃ b, k.format.read x = .number b 0 k.format.leastPlace := by
    refine ⟨x / k.format.signWeight % 2 == 1, ?_⟩
    unfold Format.read
    simp only [h0]
    rw [if_pos (binade_pos _)]
  obtain ⟨b, hr⟩ := hr
  unfold F.lt Format.order at h
  rw [read_zero, hr] at h
  have sg : ∀ (b : Bool) (u : Nat), signed b 0 u = 0 := fun b u => by cases b <;> simp [signed]
  simp only [Datum.order, sg] at h
  revert h
  simp
theorem lt_le0 {k : FloatKind} {x : Nat} (h : F.lt k 0 x = true) : F.le k 0 x = true := by
  unfold F.lt at h
  unfold F.le
  rw [h]; rfl
theorem div_part {k : FloatKind} {p s : Nat} (hp : F.le k 0 p = true) (fp : F.fin k p = true) (hs : F.le k 0 s = true) (fs : F.fin k s = true) (h0 : s % k.format.signWeight ≠ 0)
    (hle : p % k.format.signWeight ≤ s % k.format.signWeight) : F.div k p s ≤ k.nearest 1 ∨ F.div k p s = k.format.signWeight := by
  obtain ⟨p1, p2⟩ := read_norm hp fp
  obtain ⟨s1, s2⟩ := read_norm hs fs
  have s3 : k.format.read s = k.format.read (s % k.format.signWeight) := by
    rcases s2 with h | ⟨h, _⟩
    · exact h
    · exact absurd h h0
  rcases p2 with p2 | ⟨p2, p3⟩
  · left
    have : F.div k p s = F.div k (p % k.format.signWeight) (s % k.format.signWeight) := by unfold F.div Format.div; rw [p2, s3]
    rw [this]
    exact div_one s1 h0 hle
  · right
    obtain ⟨m, i, r1, r2, r3⟩ := read_pos k.format s1
    have hm : m ≠ 0 := by
      rintro rfl
      rw [Nat.zero_mul] at r3
      exact h0 (valN_zero.1 r3.symm)
    unfold F.div Format.div
    rw [p3, s3, r1]
    simp only [Datum.quotient, if_neg hm, Option.map_some, Option.getD_some, Format.write, Nat.shiftLeft_eq, Nat.zero_mul, Nat.zero_div, Nat.zero_mod]
    simp [Format.nearest, Format.word]
theorem mul_part {q : Nat} {t : Int} (hq : q ≤ FloatKind.f32.nearest 1 ∨ q = FloatKind.f32.format.signWeight) (t0 : 0 ≤ t) (t1 : t ≤ 1000) :
    F.mul .f32 q (FloatKind.f32.nearest t) ≤ 1148846080 ∨ F.mul .f32 q (FloatKind.f32.nearest t) = FloatKind.f32.format.signWeight := by
  obtain ⟨n1, _⟩ := int_bits (k := .f32) t0 t1
  have e1 : FloatKind.f32.nearest 1 = 1065353216 := by decide +kernel
  have e2 : FloatKind.f32.nearest 1000 = 1148846080 := by decide +kernel
  have e3 : FloatKind.f32.format.infRung = 2139095040 := by decide +kernel
  rcases hq with hq | hq
  · left
    have h := mul_bits (k := .f32) hq n1 (by rw [e1, e3]; omega) (by rw [e2, e3]; omega)
    have e4 : F.mul .f32 (FloatKind.f32.nearest 1) (FloatKind.f32.nearest 1000) = 1148846080 := by decide +kernel
    rw [e4] at h
    exact h
  · right
    obtain ⟨m, i, r1, _⟩ := read_pos FloatKind.f32.format (x := FloatKind.f32.nearest t) (by rw [e2] at n1; rw [e3]; omega)
    have r2 : FloatKind.f32.format.read FloatKind.f32.format.signWeight = .number true 0 FloatKind.f32.format.leastPlace := by decide +kernel
    rw [hq]
    unfold F.mul Format.mul
    rw [r1, r2]
    simp [Datum.product, Format.write, Format.nearest, Format.word]
theorem cut_down {n d : Nat} : Toward.down.cut false n d = n / 2 ^ d ∧ Toward.zero.cut false n d = n / 2 ^ d := by
  have h : n / (1 <<< min d (n.log2 + 2)) = n / 2 ^ d := by
    rw [Nat.shiftLeft_eq, Nat.one_mul]
    by_cases h : d ≤ n.log2 + 2
    · rw [Nat.min_eq_left h]
    · rw [Nat.min_eq_right (by omega)]
      have a : n < 2 ^ (n.log2 + 1) := Nat.lt_log2_self
      have b : 2 ^ (n.log2 + 1) ≤ 2 ^ (n.log2 + 2) := Nat.pow_le_pow_right (by omega) (by omega)
      have c : 2 ^ (n.log2 + 1) ≤ 2 ^ d := Nat.pow_le_pow_right (by omega) (by omega)
      rw [Nat.div_eq_of_lt (by omega), Nat.div_eq_of_lt (by omega)]
  unfold Toward.cut
  simp only [h, Bool.false_and, Bool.not_false, Bool.true_and]
  exact ⟨rfl, rfl⟩
theorem valN_thousand : valN FloatKind.f64.format 4652007308841189376 = 1000 * 2 ^ (0 - FloatKind.f64.format.leastPlace).toNat := Nat.eq_of_beq_eq_true (by kernel_rfl)
/-- A double of at most a thousand, and its whole part. -/
theorem whole {x : Nat} (h : x ≤ 4652007308841189376) : ∃ m e, FloatKind.f64.format.read x = .number false m e ∧ (m <<< e.toNat) / 2 ^ (-e).toNat ≤ 1000 := by
  have ei : FloatKind.f64.format.infRung = 9218868437227405312 := by decide +kernel
  obtain ⟨L, hL⟩ : ∃ L : Nat, FloatKind.f64.format.leastPlace = -(L : Int) := ⟨1074, by decide +kernel⟩
  obtain ⟨m, e, h1, h2, h3⟩ := read_pos FloatKind.f64.format (x := x) (by rw [ei]; omega)
  have hv : valN FloatKind.f64.format x ≤ valN FloatKind.f64.format 4652007308841189376 := valN_le.2 h
  have e0 : (0 - -(L : Int)).toNat = L := by omega
  rw [← h3, valN_thousand, hL, e0] at hv
  rw [hL] at h2
  refine ⟨m, e, h1, ?_⟩
  rw [Nat.shiftLeft_eq]
  by_cases hc : 0 ≤ e
  · have e1 : (-e).toNat = 0 := by omega
    rw [e1, Nat.pow_zero, Nat.div_one]
    have e2 : (e - -(L : Int)).toNat = e.toNat + L := by omega
    rw [e2, Nat.pow_add, ← Nat.mul_assoc] at hv
    exact Nat.le_of_mul_le_mul_right hv (Nat.pow_pos (by omega))
  · have e1 : e.toNat = 0 := by omega
    rw [e1, Nat.pow_zero, Nat.mul_one]
    have e2 : 2 ^ L = 2 ^ (-e).toNat * 2 ^ (e - -(L : Int)).toNat := by
      rw [← Nat.pow_add]
      congr 1
      omega
    rw [e2, ← Nat.mul_assoc] at hv
    have hv2 := Nat.le_of_mul_le_mul_right hv (Nat.pow_pos (by omega))
    apply Nat.div_le_of_le_mul
    rw [Nat.mul_comm]
    exact hv2
theorem floor_le {x : Nat} (h : x ≤ 4652007308841189376) : F.floor x ≤ 4652007308841189376 := by
  obtain ⟨m, e, h1, h2⟩ := whole h
  unfold F.floor FloatKind.decode
  rw [h1]
  simp only [Datum.integral, cut_down.1]
  generalize (m <<< e.toNat) / 2 ^ (-e).toNat = K at *
  have e1 : FloatKind.f64.nearest 1000 = 4652007308841189376 := by decide +kernel
  have h3 := (int_bits (k := .f64) (a := ((K : Nat) : Int)) (b := 1000) (Int.natCast_nonneg _) (by omega)).1
  rw [e1] at h3
  have e2 : FloatKind.f64.nearest ((K : Nat) : Int) = FloatKind.f64.encode (.number false K 0) := by
    unfold FloatKind.nearest
    have : decide (((K : Nat) : Int) < 0) = false := decide_eq_false (by omega)
    rw [this, Int.natAbs_natCast]
  rw [e2] at h3
  exact h3
theorem toInt_le {x : Nat} (h : x ≤ 4652007308841189376) : F.toIntOk .f64 .i64 x = true ∧ 0 ≤ F.toInt .f64 x ∧ F.toInt .f64 x ≤ 1000 := by
  obtain ⟨m, e, h1, h2⟩ := whole h
  have h3 : (FloatKind.f64.decode x).toInt .zero = some (((m <<< e.toNat) / 2 ^ (-e).toNat : Nat) : Int) := by
    unfold FloatKind.decode
    rw [h1]
    simp only [Datum.toInt, Datum.integral, cut_down.2, signed, Nat.shiftLeft_zero, Bool.false_eq_true, if_false]
  unfold F.toIntOk F.toInt
  rw [h3]
  generalize (m <<< e.toNat) / 2 ^ (-e).toNat = K at *
  simp only [Option.getD_some]
  have e1 : IntKind.i64.min = -9223372036854775808 := by decide
  have e2 : IntKind.i64.max = 9223372036854775807 := by decide
  rw [e1, e2]
  refine ⟨?_, Int.natCast_nonneg _, by omega⟩
  rw [Bool.and_eq_true]
  exact ⟨decide_eq_true (by omega), decide_eq_true (by omega)⟩
theorem conv_le {x : Nat} (h : x ≤ 1148846080) : F.conv .f32 .f64 x ≤ 4652007308841189376 := by
  have ei : FloatKind.f32.format.infRung = 2139095040 := by decide +kernel
  have el : FloatKind.f64.format.leastPlace ≤ FloatKind.f32.format.leastPlace := by decide +kernel
  have key : ∀ z, z < FloatKind.f32.format.infRung → F.conv .f32 .f64 z = RgN FloatKind.f64.format (valN FloatKind.f32.format z * 2 ^ (FloatKind.f32.format.leastPlace - FloatKind.f64.format.leastPlace).toNat) FloatKind.f64.format.leastPlace := by
    intro z hz
    obtain ⟨m, e, h1, h2, h3⟩ := read_pos FloatKind.f32.format hz
    unfold F.conv FloatKind.decode
    rw [if_neg (by decide), h1]
    show FloatKind.f64.format.nearest false m e = _
    rw [nearest_RgN FloatKind.f64.format (b := FloatKind.f64.format.leastPlace) (by omega) (Int.le_refl _), ← h3, Nat.mul_assoc, ← Nat.pow_add]
    congr 3
    omega
  have e1 : F.conv .f32 .f64 1148846080 = 4652007308841189376 := by decide +kernel
  rw [← e1, key _ (by rw [ei]; omega), key _ (by rw [ei]; omega)]
  exact RgN_mono _ (Int.le_refl _) (Nat.mul_le_mul_right _ (valN_le.2 h))
/-- The floor of a part of a sum times a number up to a thousand. -/
theorem part_ok {p s : Nat} {t : Int} (hp : F.le .f32 0 p = true) (fp : F.fin .f32 p = true) (hs : F.le .f32 0 s = true) (fs : F.fin .f32 s = true) (h0 : s % FloatKind.f32.format.signWeight ≠ 0)
    (hle : p % FloatKind.f32.format.signWeight ≤ s % FloatKind.f32.format.signWeight) (t0 : 0 ≤ t) (t1 : t ≤ 1000) :
    isNan .f64 (F.conv .f32 .f64 (F.mul .f32 (F.div .f32 p s) (FloatKind.f32.nearest t))) = false ∧
    F.toIntOk .f64 .i64 (F.floor (F.conv .f32 .f64 (F.mul .f32 (F.div .f32 p s) (FloatKind.f32.nearest t)))) = true ∧
    0 ≤ F.toInt .f64 (F.floor (F.conv .f32 .f64 (F.mul .f32 (F.div .f32 p s) (FloatKind.f32.nearest t)))) ∧
    F.toInt .f64 (F.floor (F.conv .f32 .f64 (F.mul .f32 (F.div .f32 p s) (FloatKind.f32.nearest t)))) ≤ 1000 := by
  have ei : FloatKind.f64.format.infRung = 9218868437227405312 := by decide +kernel
  rcases mul_part (div_part hp fp hs fs h0 hle) t0 t1 with h | h
  · have h1 := conv_le h
    exact ⟨nan_pos (by rw [ei]; omega), toInt_le (floor_le h1)⟩
  · rw [h]
    decide +kernel
/-! Parts of sums, in terms -/
/-- Is a number one of the summands? -/
def inSum (pc : PC) (p : Tm) : Tm → Bool
  | .op o a b => match p.beq (.op o a b) with
    | true => true
    | false => match Nat.beq o.n (Opc.fadd .f32).n, nnT pc .f32 a, nnT pc .f32 b with
      | true, true, true => match inSum pc p a with
        | true => true
        | false => inSum pc p b
      | _, _, _ => false
  | t => p.beq t
theorem inSum_ok {E : Env} {pc : PC} (hp : PcOk E pc) {p : Tm} : ∀ {s : Tm}, inSum pc p s = true → F.le .f32 0 (s.den E).toF = true → F.fin .f32 (s.den E).toF = true →
    F.le .f32 0 (p.den E).toF = true ∧ F.fin .f32 (p.den E).toF = true ∧ (p.den E).toF % FloatKind.f32.format.signWeight ≤ (s.den E).toF % FloatKind.f32.format.signWeight := by
  have base : ∀ {s : Tm}, p.beq s = true → F.le .f32 0 (s.den E).toF = true → F.fin .f32 (s.den E).toF = true →
      F.le .f32 0 (p.den E).toF = true ∧ F.fin .f32 (p.den E).toF = true ∧ (p.den E).toF % FloatKind.f32.format.signWeight ≤ (s.den E).toF % FloatKind.f32.format.signWeight := by
    intro s h h1 h2
    rw [Tm.beq_eq h]
    exact ⟨h1, h2, Nat.le_refl _⟩
  intro s
  induction s with
  | op o a b iha ihb =>
    intro h h1 h2
    simp only [inSum] at h
    split at h
    · rename_i hb
      exact base hb h1 h2
    · split at h
      · rename_i ho ha hb
        have ho' : o = .fadd .f32 := Opc.n_inj (Nat.eq_of_beq_eq_true ho)
        subst ho'
        have a0 := nnT_ok hp ha
        have b0 := nnT_ok hp hb
        have h3 : F.fin .f32 (F.add .f32 (a.den E).toF (b.den E).toF) = true := h2
        have fx : F.fin .f32 (a.den E).toF = true := by
          cases hh : F.fin .f32 (a.den E).toF with
          | true => rfl
          | false => rw [add_nf (.inl hh)] at h3; cases h3
        have fy : F.fin .f32 (b.den E).toF = true := by
          cases hh : F.fin .f32 (b.den E).toF with
          | true => rfl
          | false => rw [add_nf (.inr hh)] at h3; cases h3
        obtain ⟨g1, g2⟩ := add_ge a0 b0 h3
        split at h
        · rename_i hh
          obtain ⟨q1, q2, q3⟩ := iha hh a0 fx
          exact ⟨q1, q2, Nat.le_trans q3 g1⟩
        · obtain ⟨q1, q2, q3⟩ := ihb h b0 fy
          exact ⟨q1, q2, Nat.le_trans q3 g2⟩
      · cases h
  | _ => intro h h1 h2; exact base h h1 h2
/-- Is some summand known to be above nought? -/
def posIn (pc : PC) (s : Tm) : PC → Bool
  | [] => false
  | (.op o (.fl z) x, true) :: r => match Nat.beq o.n (Opc.flt .f32).n, Nat.beq z 0, inSum pc x s with
    | true, true, true => true
    | _, _, _ => posIn pc s r
  | _ :: r => posIn pc s r
theorem posIn_ok {E : Env} {pc : PC} (hp : PcOk E pc) {s : Tm} (h1 : F.le .f32 0 (s.den E).toF = true) (h2 : F.fin .f32 (s.den E).toF = true) : ∀ {l : PC}, PcOk E l → posIn pc s l = true → (s.den E).toF % FloatKind.f32.format.signWeight ≠ 0 := by
  intro l
  induction l with
  | nil => intro _ h; cases h
  | cons a r ih =>
    intro hl h
    have hr : PcOk E r := fun p hp => hl p (List.mem_cons_of_mem _ hp)
    unfold posIn at h
    split at h
    · rename_i q; cases q
    · rename_i o z x r' q
      cases q
      split at h
      · rename_i q1 q2 q3
        have ho : o = .flt .f32 := Opc.n_inj (Nat.eq_of_beq_eq_true q1)
        have hz := Nat.eq_of_beq_eq_true q2
        subst ho hz
        have h3 : F.lt .f32 0 (x.den E).toF = true := hl _ (List.mem_cons_self ..)
        obtain ⟨_, _, g⟩ := inSum_ok hp q3 h1 h2
        have := lt_nz h3
        omega
      · exact ih hr h
    · rename_i q
      cases q
      exact ih hr h
/-- The part of a sum, times a small number: what is known of its floor. -/
def partT (pc : PC) : Tm → Bool
  | .op o1 (.op o2 (.op o3 p s) (.op o4 n _)) _ => match Nat.beq o1.n (Opc.conv .f32 .f64).n, Nat.beq o2.n (Opc.fmul .f32).n, Nat.beq o3.n (Opc.fdiv .f32).n, Nat.beq o4.n (Opc.i2f .f32).n with
    | true, true, true, true => match nnT pc .f32 s, fin0 pc .f32 s, inSum pc p s, posIn pc s pc, decB pc (.op .lei (.il 0) n), decB pc (.op .lei n (.il 1000)) with
      | true, true, true, true, some true, some true => true
      | _, _, _, _, _, _ => false
    | _, _, _, _ => false
  | _ => false
def partF (q : Tm) : PC := [(.op (.fnan .f64) q .nil, false), (.op (.f2iok .f64 .i64) (.op .ffloor q .nil) .nil, true), (.op .lei (.il 0) (.op (.f2i .f64) (.op .ffloor q .nil) .nil), true), (.op .lei (.op (.f2i .f64) (.op .ffloor q .nil) .nil) (.il 1000), true)]
theorem partF_ok {E : Env} {pc : PC} (hp : PcOk E pc) {q : Tm} (h : partT pc q = true) : PcOk E (partF q ++ pc) := by
  unfold partT at h
  split at h
  · rename_i o1 o2 o3 p s o4 n z4 z1
    split at h
    · rename_i q1 q2 q3 q4
      have e1 : o1 = .conv .f32 .f64 := Opc.n_inj (Nat.eq_of_beq_eq_true q1)
      have e2 : o2 = .fmul .f32 := Opc.n_inj (Nat.eq_of_beq_eq_true q2)
      have e3 : o3 = .fdiv .f32 := Opc.n_inj (Nat.eq_of_beq_eq_true q3)
      have e4 : o4 = .i2f .f32 := Opc.n_inj (Nat.eq_of_beq_eq_true q4)
      subst e1 e2 e3 e4
      split at h
      · rename_i r1 r2 r3 r4 r5 r6
        have s0 := nnT_ok hp r1
        have sf := fin0_ok hp r2
        obtain ⟨p0, pf, ple⟩ := inSum_ok hp r3 s0 sf
        have sp := posIn_ok hp s0 sf hp r4
        have n0 : (0 : Int) ≤ (n.den E).toI := of_decide_eq_true (decB_ok hp _ r5)
        have n1 : (n.den E).toI ≤ 1000 := of_decide_eq_true (decB_ok hp _ r6)
        obtain ⟨k1, k2, k3, k4⟩ := part_ok p0 pf s0 sf sp ple n0 n1
        intro x hx
        simp only [partF, List.cons_append, List.nil_append, List.mem_cons] at hx
        rcases hx with rfl | rfl | rfl | rfl | hx
        · exact k1
        · exact k2
        · exact decide_eq_true k3
        · exact decide_eq_true k4
        · exact hp x hx
      · cases h
    · cases h
  · cases h
end Go.Sx
set_option linter.unusedVariables false
set_option linter.unusedSimpArgs false
noncomputable section
namespace Go.Sx
open Go Ieee

theorem sg0 (b : Bool) (u : Nat) : signed b 0 u = 0 := by cases b <;> simp [signed]
/-- What a word reads as that is no NaN and not below nought. -/
theorem read_le0 {k : FloatKind} {x : Nat} (h : F.le k 0 x = true) : (∃ s m i, k.format.read x = .number s m i ∧ (s = true → m = 0)) ∨ (k.format.read x = .infinity false ∧ x % k.format.signWeight = k.format.infRung) := by
  rw [le0_iff] at h
  cases hr : k.format.read x with
  | number s m i =>
    left
    refine ⟨s, m, i, rfl, fun hs => ?_⟩
    rw [hr] at h
    simpa [okD, hs] using h
  | infinity s =>
    right
    rw [hr] at h
    have hs : s = false := by simpa [okD] using h
    subst hs
    refine ⟨rfl, ?_⟩
    unfold Format.read at hr
    simp only at hr
    split at hr
    · cases hr
    · split at hr
      · cases hr
      · split at hr
        · rename_i h; exact h
        · cases hr
  | nan s t => rw [hr] at h; cases h
/-- A sum of two such numbers is a word of its own, or the other nought. -/
theorem add_word {k : FloatKind} {x y : Nat} (hx : F.le k 0 x = true) (hy : F.le k 0 y = true) : F.add k x y ≤ k.format.infRung ∨ F.add k x y = k.format.signWeight := by
  have inf : ∀ b : Bool, b = false → k.format.write (.infinity b) ≤ k.format.infRung := by
    rintro b rfl
    simp [Format.write, Format.word]
  have near : ∀ (mag : Nat) (e : Int), k.format.nearest false mag e ≤ k.format.infRung := by
    intro mag e
    unfold Format.nearest
    split
    · simp [Format.word]
    · simp only [word_pos]
      exact Nat.min_le_right ..
  rcases read_le0 hx with ⟨s, m, i, h1, h2⟩ | ⟨h1, _⟩ <;> rcases read_le0 hy with ⟨t, n, j, g1, g2⟩ | ⟨g1, _⟩
  · unfold F.add Format.add
    rw [h1, g1]
    simp only [Datum.sum, Option.map_some, Option.getD_some, Format.write]
    have a1 : 0 ≤ signed s m (i - min i j).toNat := okD_signed (by cases s <;> simp_all) _
    have a2 : 0 ≤ signed t n (j - min i j).toNat := okD_signed (by cases t <;> simp_all) _
    generalize signed s m (i - min i j).toNat = A at *
    generalize signed t n (j - min i j).toNat = B at *
    by_cases h0 : A + B = 0
    · rw [h0, if_pos rfl]
      simp only [Format.nearest, Int.natAbs_zero, if_true]
      cases s && t
      · left; simp [Format.word]
      · right; simp [Format.word]
    · rw [if_neg h0, decide_eq_false (show ¬ A + B < 0 by omega)]
      left
      exact near _ _
  · left
    unfold F.add Format.add
    rw [h1, g1]
    exact inf _ rfl
  · left
    unfold F.add Format.add
    rw [h1, g1]
    exact inf _ rfl
  · left
    unfold F.add Format.add
    rw [h1, g1]
    exact inf _ rfl
/-- A word that equals nought reads as a nought. -/
theorem read_eq0 {k : FloatKind} {b : Nat} (h : F.eq k b 0 = true) : ∃ t, k.format.read b = .number t 0 k.format.leastPlace := by
  unfold F.eq Format.order at h
  rw [read_zero] at h
  cases hr : k.format.read b with
  | number t m i =>
    rw [hr] at h
    simp only [Datum.order, sg0] at h
    have hlp : k.format.leastPlace ≤ i := by
      unfold Format.read at hr
      simp only at hr
      split at hr
      · simp only [Datum.number.injEq] at hr; omega
      · split at hr
        · simp only [Datum.number.injEq] at hr; omega
        · split at hr <;> cases hr
    have hz : signed t m (i - min i k.format.leastPlace).toNat = 0 := by
      have h2 : compare (signed t m (i - min i k.format.leastPlace).toNat) 0 = .eq := by simpa using h
      exact Int.compare_eq_eq.1 h2
    have hm : m = 0 := by
      unfold signed at hz
      rw [Nat.shiftLeft_eq] at hz
      have hp : 0 < 2 ^ (i - min i k.format.leastPlace).toNat := Nat.pow_pos (by omega)
      have hz2 : m * 2 ^ (i - min i k.format.leastPlace).toNat = 0 := by
        cases t <;> simp only [Bool.false_eq_true, if_true, if_false] at hz <;> omega
      rcases Nat.mul_eq_zero.1 hz2 with h3 | h3
      · exact h3
      · omega
    subst hm
    refine ⟨t, ?_⟩
    have : i = k.format.leastPlace := by
      unfold Format.read at hr
      simp only at hr
      have hb := binade_pos k.format
      split at hr
      · simp only [Datum.number.injEq] at hr; omega
      · split at hr
        · simp only [Datum.number.injEq] at hr; omega
        · split at hr <;> cases hr
    rw [this]
  | infinity s => rw [hr] at h; simp [Datum.order] at h; cases s <;> simp at h
  | nan s t => rw [hr] at h; simp [Datum.order] at h
/-- Nought, added to a number above nought. -/
theorem add_nought {k : FloatKind} {a b : Nat} (ha : F.le k 0 a = true) (h0 : a % k.format.signWeight ≠ 0) (hb : F.eq k b 0 = true) : F.add k a b = a % k.format.signWeight := by
  obtain ⟨t, hr⟩ := read_eq0 hb
  cases hf : F.fin k a with
  | true =>
    obtain ⟨a1, a2⟩ := read_norm ha hf
    have a3 : k.format.read a = k.format.read (a % k.format.signWeight) := by
      rcases a2 with h | ⟨h, _⟩
      · exact h
      · exact absurd h h0
    have e : F.add k a b = F.add k (a % k.format.signWeight) 0 := by
      obtain ⟨m, i, r1, _⟩ := read_pos k.format a1
      unfold F.add Format.add
      rw [hr, a3, read_zero, r1]
      simp only [Datum.sum, sg0, Bool.false_and]
    rw [e, add_pos a1 (zero_inf k)]
    have e2 : valN k.format 0 = 0 := valN_zero.2 rfl
    rw [e2, Nat.add_zero]
    unfold RgN
    rw [if_neg (fun h => h0 (valN_zero.1 h)), Rg_valN _ h0]
    omega
  | false =>
    rcases read_le0 ha with ⟨s, m, i, h1, _⟩ | ⟨h1, h2⟩
    · exfalso
      unfold F.fin at hf
      rw [h1] at hf
      cases hf
    · rw [h2]
      unfold F.add Format.add
      rw [h1, hr]
      simp [Datum.sum, Format.write, Format.word]
/-! Sums with noughts behind, in terms -/
/-- Is a term a sum of two numbers that are no NaN and not below nought? -/
def sumT (pc : PC) : Tm → Bool
  | .op o a b => match Nat.beq o.n (Opc.fadd .f32).n, nnT pc .f32 a, nnT pc .f32 b with
    | true, true, true => true
    | _, _, _ => false
  | _ => false
theorem sumT_ok {E : Env} {pc : PC} (hp : PcOk E pc) {t : Tm} (h : sumT pc t = true) : F.le .f32 0 (t.den E).toF = true ∧ ∃ x, t.den E = .f x ∧ (x ≤ FloatKind.f32.format.infRung ∨ x = FloatKind.f32.format.signWeight) := by
  unfold sumT at h
  split at h
  · rename_i o a b
    split at h
    · rename_i h1 h2 h3
      have ho : o = .fadd .f32 := Opc.n_inj (Nat.eq_of_beq_eq_true h1)
      subst ho
      exact ⟨add_nn (nnT_ok hp h2) (nnT_ok hp h3), _, rfl, add_word (nnT_ok hp h2) (nnT_ok hp h3)⟩
    · cases h
  · cases h
/-- A summand that is not below nought, in a sum that need not be finite: is the sum above nought? -/
def posS (pc : PC) : Tm → Bool
  | .op o a b => match Nat.beq o.n (Opc.fadd .f32).n, nnT pc .f32 a, nnT pc .f32 b with
    | true, true, true => match posS pc a with
      | true => true
      | false => posS pc b
    | _, _, _ => match decB pc (.op (.flt .f32) (.fl 0) (.op o a b)) with
      | some true => true
      | _ => false
  | t => match decB pc (.op (.flt .f32) (.fl 0) t) with
    | some true => true
    | _ => false
theorem add_nz {x y : Nat} (hx : F.le .f32 0 x = true) (hy : F.le .f32 0 y = true) (h : x % FloatKind.f32.format.signWeight ≠ 0 ∨ y % FloatKind.f32.format.signWeight ≠ 0) : F.add .f32 x y % FloatKind.f32.format.signWeight ≠ 0 := by
  cases hf : F.fin .f32 (F.add .f32 x y) with
  | true =>
    have := add_ge hx hy hf
    omega
  | false =>
    rcases read_le0 (add_nn hx hy) with ⟨s, m, i, h1, _⟩ | ⟨_, h2⟩
    · exfalso
      unfold F.fin at hf
      rw [h1] at hf
      cases hf
    · rw [h2]
      have := zero_inf .f32
      omega
theorem posS_ok {E : Env} {pc : PC} (hp : PcOk E pc) : ∀ {t : Tm}, posS pc t = true → (t.den E).toF % FloatKind.f32.format.signWeight ≠ 0 := by
  have base : ∀ {t : Tm}, decB pc (.op (.flt .f32) (.fl 0) t) = some true → (t.den E).toF % FloatKind.f32.format.signWeight ≠ 0 := fun h => lt_nz (decB_ok hp _ h)
  have base2 : ∀ {t : Tm}, (match decB pc (.op (.flt .f32) (.fl 0) t) with | some true => true | _ => false) = true → (t.den E).toF % FloatKind.f32.format.signWeight ≠ 0 := by
    intro t h
    split at h
    · rename_i hh; exact base hh
    · cases h
  intro t
  induction t with
  | op o a b iha ihb =>
    intro h
    simp only [posS] at h
    split at h
    · rename_i h1 h2 h3
      have ho : o = .fadd .f32 := Opc.n_inj (Nat.eq_of_beq_eq_true h1)
      subst ho
      split at h
      · rename_i h4
        exact add_nz (nnT_ok hp h2) (nnT_ok hp h3) (.inl (iha h4))
      · exact add_nz (nnT_ok hp h2) (nnT_ok hp h3) (.inr (ihb h))
    · exact base2 h
  | _ => intro h; exact base2 h
/-- A sum without the noughts behind. -/
def trim (pc : PC) : Tm → Tm
  | .op o a b => match Nat.beq o.n (Opc.fadd .f32).n, sumT pc a, posS pc a, decB pc (.op (.feq .f32) b (.fl 0)) with
    | true, true, true, some true => trim pc a
    | _, _, _, _ => .op o a b
  | t => t
theorem trim_ok {E : Env} {pc : PC} (hp : PcOk E pc) : ∀ {t : Tm}, (trim pc t).den E = t.den E := by
  intro t
  induction t with
  | op o a b iha _ =>
    simp only [trim]
    split
    · rename_i h1 h2 h3 h4
      have ho : o = .fadd .f32 := Opc.n_inj (Nat.eq_of_beq_eq_true h1)
      subst ho
      rw [iha]
      obtain ⟨g1, x, g2, g3⟩ := sumT_ok hp h2
      have g4 := posS_ok hp h3
      have g5 : F.eq .f32 (b.den E).toF 0 = true := decB_ok hp _ h4
      show a.den E = .f (F.add .f32 (a.den E).toF (b.den E).toF)
      rw [add_nought g1 g4 g5]
      rw [g2] at g4 ⊢
      simp only [Sc.toF_f] at g4 ⊢
      rcases g3 with g3 | g3
      · rw [mod_self g3]
      · exfalso
        rw [g3, Nat.mod_self] at g4
        exact g4 rfl
    · rfl
  | _ => rfl
/-- The word of a number above nought, without its sign, reads as the number does. -/
theorem read_word {k : FloatKind} {a : Nat} (ha : F.le k 0 a = true) (h0 : a % k.format.signWeight ≠ 0) : k.format.read (a % k.format.signWeight) = k.format.read a := by
  cases hf : F.fin k a with
  | true =>
    obtain ⟨_, a2⟩ := read_norm ha hf
    rcases a2 with h | ⟨h, _⟩
    · exact h.symm
    · exact absurd h h0
  | false =>
    rcases read_le0 ha with ⟨s, m, i, h1, _⟩ | ⟨h1, h2⟩
    · exfalso
      unfold F.fin at hf
      rw [h1] at hf
      cases hf
    · rw [h1, h2]
      cases k <;> rfl
/-- Is a sum one number above nought and a nought? Then this number. -/
def oneOf (pc : PC) : Tm → Option Tm
  | .op o a b => match Nat.beq o.n (Opc.fadd .f32).n, nnT pc .f32 a, posS pc a, decB pc (.op (.feq .f32) b (.fl 0)) with
    | true, true, true, some true => some a
    | _, _, _, _ => none
  | _ => none
theorem oneOf_ok {E : Env} {pc : PC} (hp : PcOk E pc) {t a : Tm} (h : oneOf pc t = some a) : FloatKind.f32.format.read (t.den E).toF = FloatKind.f32.format.read (a.den E).toF := by
  unfold oneOf at h
  split at h
  · rename_i o x b
    split at h
    · rename_i h1 h2 h3 h4
      cases h
      have ho : o = .fadd .f32 := Opc.n_inj (Nat.eq_of_beq_eq_true h1)
      subst ho
      have g1 := nnT_ok hp h2
      have g4 := posS_ok hp h3
      have g5 : F.eq .f32 (b.den E).toF 0 = true := decB_ok hp _ h4
      show FloatKind.f32.format.read (F.add .f32 (a.den E).toF (b.den E).toF) = _
      rw [add_nought g1 g4 g5]
      exact read_word g1 g4
    · cases h
  · cases h
/-- A quotient by such a sum. -/
def divOne (pc : PC) : Tm → Tm
  | .op o p s => match Nat.beq o.n (Opc.fdiv .f32).n, oneOf pc s with
    | true, some a => .op o p a
    | _, _ => .op o p s
  | t => t
theorem divOne_ok {E : Env} {pc : PC} (hp : PcOk E pc) {t : Tm} : (divOne pc t).den E = t.den E := by
  unfold divOne
  split
  · rename_i o p s
    split
    · rename_i h1 h2
      have ho : o = .fdiv .f32 := Opc.n_inj (Nat.eq_of_beq_eq_true h1)
      subst ho
      have h3 := oneOf_ok hp h2
      rename_i a
      show Sc.f (F.div .f32 (p.den E).toF (a.den E).toF) = Sc.f (F.div .f32 (p.den E).toF (s.den E).toF)
      unfold F.div Format.div
      rw [h3]
    · rfl
  · rfl
/-- What is known of such a sum. -/
def oneFin (pc : PC) (t : Tm) : PC := match oneOf pc t with
  | some a => match decB pc (.op (.ffin .f32) a .nil) with
    | some true => (.op (.ffin .f32) t .nil, true) :: pc
    | _ => pc
  | none => pc
theorem oneFin_ok {E : Env} {pc : PC} (hp : PcOk E pc) {t : Tm} : PcOk E (oneFin pc t) := by
  unfold oneFin
  split
  · rename_i a h
    split
    · rename_i h2
      refine hp.cons ?_
      have h3 : F.fin .f32 (a.den E).toF = true := decB_ok hp _ h2
      show F.fin .f32 (t.den E).toF = true
      unfold F.fin at h3 ⊢
      rw [oneOf_ok hp h]
      exact h3
    · exact hp
  · exact hp
end Go.Sx
set_option linter.unusedVariables false
set_option linter.unusedSimpArgs false
noncomputable section
namespace Go.Sx
open Go Ieee
theorem nz_eq {k : FloatKind} {x : Nat} (h : x % k.format.signWeight ≠ 0) : F.eq k x 0 = false := by
  cases hc : F.eq k x 0 with
  | false => rfl
  | true =>
    exfalso
    obtain ⟨t, hr⟩ := read_eq0 hc
    have hb := binade_pos k.format
    unfold Format.read at hr
    simp only at hr
    split at hr
    · simp only [Datum.number.injEq] at hr; omega
    · split at hr
      · simp only [Datum.number.injEq] at hr; omega
      · split at hr <;> cases hr
theorem nz_lt {k : FloatKind} {x : Nat} (h0 : F.le k 0 x = true) (h : x % k.format.signWeight ≠ 0) : F.lt k 0 x = true := by
  rw [(lt0_eq0 k x).1 h0, nz_eq h]; rfl
/-- What is taken away, and leaves nought of a number above nought, is above nought. -/
theorem sub_nz {k : FloatKind} {z m : Nat} (hz : F.le k 0 z = true) (z0 : z % k.format.signWeight ≠ 0) (hm : F.le k 0 m = true) (h : F.eq k (F.sub k z m) 0 = true) : m % k.format.signWeight ≠ 0 := by
  intro h0
  have hb := binade_pos k.format
  have hr : ∃ t, k.format.read m = .number t 0 k.format.leastPlace := by
    refine ⟨m / k.format.signWeight % 2 == 1, ?_⟩
    unfold Format.read
    simp only [h0]
    rw [if_pos hb]
  obtain ⟨t, hr⟩ := hr
  have hy : ∃ y, k.format.read y = .number (!t) 0 k.format.leastPlace ∧ F.eq k y 0 = true := by
    have e : ∀ y b, k.format.read y = .number b 0 k.format.leastPlace → F.eq k y 0 = true := fun y b hr => by
      unfold F.eq Format.order
      rw [hr, read_zero]
      simp [Datum.order, sg0]
    cases t with
    | true => exact ⟨0, read_zero k, e _ _ (read_zero k)⟩
    | false =>
      have h1 : k.format.read k.format.signWeight = .number true 0 k.format.leastPlace := by cases k <;> rfl
      exact ⟨k.format.signWeight, h1, e _ _ h1⟩
  obtain ⟨y, y1, y2⟩ := hy
  have es : F.sub k z m = F.add k z y := by
    unfold F.sub F.add Format.sub Format.add
    rw [hr, y1]
    rfl
  rw [es, add_nought hz z0 y2] at h
  have : F.eq k (z % k.format.signWeight) 0 = false := nz_eq (by rw [Nat.mod_mod]; exact z0)
  rw [this] at h
  cases h
section
variable {P : Program} {E : Env}
def nzFacts (pc : PC) : List Tm → PC
  | [] => []
  | u :: r => match posS pc u with
    | true => (.op (.feq .f32) u (.fl 0), false) :: nzFacts pc r
    | false => nzFacts pc r
theorem nzFacts_ok {pc : PC} (hp : PcOk E pc) : ∀ {l : List Tm}, PcOk E (nzFacts pc l)
  | [] => fun p hp => by cases hp
  | u :: r => by
    simp only [nzFacts]
    split
    · rename_i h
      exact (nzFacts_ok hp).cons (nz_eq (posS_ok hp h))
    · exact nzFacts_ok hp
/-- A difference of a number above nought and another one that is not below. -/
def subOf (pc : PC) : List Tm → Option (Tm × Tm)
  | [] => none
  | u :: r => match u with
    | .op o z m => match Nat.beq o.n (Opc.fsub .f32).n, nnT pc .f32 z, posS pc z, nnT pc .f32 m with
      | true, true, true, true => some (.op o z m, m)
      | _, _, _, _ => subOf pc r
    | _ => subOf pc r
theorem subOf_ok {pc : PC} (hp : PcOk E pc) {u m : Tm} : ∀ {l : List Tm}, subOf pc l = some (u, m) → ((Tm.op (.feq .f32) u (.fl 0)).den E).toB = true → ((Tm.op (.flt .f32) (.fl 0) m).den E).toB = true
  | [], h, _ => by cases h
  | u' :: r, h, he => by
    unfold subOf at h
    split at h
    · rename_i o z m'
      split at h
      · rename_i q1 q2 q3 q4
        cases h
        have ho : o = .fsub .f32 := Opc.n_inj (Nat.eq_of_beq_eq_true q1)
        subst ho
        exact nz_lt (nnT_ok hp q4) (sub_nz (nnT_ok hp q2) (posS_ok hp q3) (nnT_ok hp q4) he)
      · exact subOf_ok hp h he
    · exact subOf_ok hp h he
def f32s : List SV → Option (List Tm)
  | [] => some []
  | s :: r => match s with
    | .sc (.float .f32) t => match f32s r with
      | some l => some (t :: l)
      | none => none
    | _ => none
def partsArg : List SV → List Tm
  | [_, .agg cs] => match f32s cs with
    | some l => l
    | none => []
  | _ => []
def isNil64 (o : Out Res) : Bool := match o with
  | .ret r => match r.v with
    | .sc (.int .i64) (.il 0) => true
    | _ => false
  | _ => false
theorem isNil64_ok {o : Out Res} (h : isNil64 o = true) : ∃ r, o = .ret r ∧ r.v = .sc (.int .i64) (.il 0) := by
  unfold isNil64 at h
  split at h
  · rename_i r
    split at h
    · rename_i hv; exact ⟨r, rfl, hv⟩
    · cases h
  · cases h
/-- A test of parts: it is known that they are not all nought. -/
def shiftX (S : Sum) : Sum := fun args m pc =>
  match subOf pc (partsArg args) with
  | some (u, a) => match isNil64 (S args m (nzFacts ((.op (.feq .f32) u (.fl 0), true) :: (.op (.flt .f32) (.fl 0) a, true) :: pc) (partsArg args) ++ ((.op (.feq .f32) u (.fl 0), true) :: (.op (.flt .f32) (.fl 0) a, true) :: pc))), isNil64 (S args m ((.op (.feq .f32) u (.fl 0), false) :: (nzFacts pc (partsArg args) ++ pc))) with
    | true, true => val m pc (.sc (.int .i64) (.il 0))
    | _, _ => S args m (nzFacts pc (partsArg args) ++ pc)
  | none => S args m (nzFacts pc (partsArg args) ++ pc)
theorem pcApp {a b : PC} (ha : PcOk E a) (hb : PcOk E b) : PcOk E (a ++ b) := fun p hp => by
  rcases List.mem_append.1 hp with hp | hp
  · exact ha p hp
  · exact hb p hp
theorem shiftX_ok {f : Nat} {S : Sum} (hS : SumOk P E f S) : SumOk P E f (shiftX S) := by
  intro args m pc r hr
  have more : ∀ {pc' : PC} {r' : Res}, (PcOk E pc → PcOk E pc') → (S args m pc').sel E = some r' → CallOk P E f args m pc r' := fun h hr β w vals h1 h2 h3 h4 hp => hS args m _ _ hr β w vals h1 h2 h3 h4 (h hp)
  unfold shiftX at hr
  split at hr
  · rename_i u a hs
    split at hr
    · rename_i k1 k2
      obtain ⟨r1, e1, v1⟩ := isNil64_ok k1
      obtain ⟨r2, e2, v2⟩ := isNil64_ok k2
      simp only [val, Out.sel, Option.some.injEq] at hr
      subst hr
      intro β w vals h1 h2 h3 h4 hp
      have fin : ∀ {pc' : PC} {r' : Res}, PcOk E pc' → S args m pc' = .ret r' → r'.v = .sc (.int .i64) (.il 0) →
          (PcOk E pc ∧ m.nxt ≤ m.lim ∧ (∃ fn, P.funcs[f]? = some fn ∧ fn.body.isSome = true) ∧ Calls P f vals.toArray w fun e w' => ∃ v β', e = .returned v ∧ SV.rep E β' (.sc (.int .i64) (.il 0)) v ∧ Step E β β' w w' m.nxt m.nxt []) := fun hp' e hv => by
        obtain ⟨_, _, g3, g4⟩ := hS args m _ _ (by rw [e]; rfl) β w vals h1 h2 h3 h4 hp'
        refine ⟨hp, h4, g3, g4.mono fun e w' ⟨v, β', he, hr, hst⟩ => ⟨v, β, he, ?_, Step.same _ hst.below⟩⟩
        rw [hv] at hr
        simp only [SV.rep] at hr ⊢
        exact hr
      cases hd : ((Tm.op (.feq .f32) u (.fl 0)).den E).toB with
      | true =>
        have hp1 : PcOk E ((.op (.feq .f32) u (.fl 0), true) :: (.op (.flt .f32) (.fl 0) a, true) :: pc) := (hp.cons (subOf_ok hp hs hd)).cons hd
        exact fin (pcApp (nzFacts_ok hp1) hp1) e1 v1
      | false => exact fin ((pcApp (nzFacts_ok hp) hp).cons hd) e2 v2
    · exact more (fun hp => pcApp (nzFacts_ok hp) hp) hr
  · exact more (fun hp => pcApp (nzFacts_ok hp) hp) hr
theorem shiftX_pc {S : Sum} (hS : ∀ args m pc, PcOk E pc → Pcs E Res.pc (S args m pc)) (args : List SV) (m : Mm) (pc : PC) (hp : PcOk E pc) : Pcs E Res.pc (shiftX S args m pc) := by
  unfold shiftX
  split
  · split
    · exact .ret hp
    · exact hS _ _ _ (pcApp (nzFacts_ok hp) hp)
  · exact hS _ _ _ (pcApp (nzFacts_ok hp) hp)
end
end Go.Sx
set_option linter.unusedVariables false
set_option linter.unusedSimpArgs false
noncomputable section
namespace Go.Sx
open Go Ieee
section
variable {P : Program} {E : Env}
/-! Not all of the shifted parts are nought, since not all parts are -/
def allZ : List Tm → Tm
  | [] => .bl true
  | u :: r => mkIteB (mkFeq .f32 u (.fl 0)) (allZ r) (.bl false)
def baseOne (m u : Tm) : Tm := match u with
  | .op o a b => match b.beq m with
    | true => match Nat.beq o.n (Opc.fsub .f32).n, Nat.beq o.n (Opc.fadd .f32).n with
      | false, false => .op o a b
      | _, _ => a
    | false => .op o a b
  | u => u
def okOne (pc : PC) (m u : Tm) : Bool := match u with
  | .op o a b => match b.beq m with
    | true => match Nat.beq o.n (Opc.fsub .f32).n, Nat.beq o.n (Opc.fadd .f32).n with
      | false, false => true
      | _, _ => nnT pc .f32 a
    | false => true
  | _ => true
def isAdd (pc : PC) (m u : Tm) : Bool := match u with
  | .op o a b => match Nat.beq o.n (Opc.fadd .f32).n with
    | true => match b.beq m with
      | true => nnT pc .f32 a
      | false => false
    | false => false
  | _ => false
def okAllZ (pc : PC) (m : Tm) : List Tm → Bool
  | [] => true
  | u :: r => match okOne pc m u with | true => okAllZ pc m r | false => false
def hasAdd (pc : PC) (m : Tm) : List Tm → Bool
  | [] => false
  | u :: r => match isAdd pc m u with | true => true | false => hasAdd pc m r
def mapB (m : Tm) : List Tm → List Tm
  | [] => []
  | u :: r => baseOne m u :: mapB m r
def subM : List Tm → Option Tm
  | [] => none
  | u :: r => match u with
    | .op o _ m => match Nat.beq o.n (Opc.fsub .f32).n with
      | true => some m
      | false => subM r
    | _ => subM r
theorem eq_z {k : FloatKind} {x : Nat} : F.eq k x 0 = true ↔ x % k.format.signWeight = 0 := by
  constructor
  · intro h
    rcases Nat.eq_zero_or_pos (x % k.format.signWeight) with h0 | h0
    · exact h0
    · rw [nz_eq (by omega)] at h; cases h
  · intro h0
    have hb := binade_pos k.format
    have hr : ∃ t, k.format.read x = .number t 0 k.format.leastPlace := by
      refine ⟨x / k.format.signWeight % 2 == 1, ?_⟩
      unfold Format.read
      simp only [h0]
      rw [if_pos hb]
    obtain ⟨t, hr⟩ := hr
    unfold F.eq Format.order
    rw [hr, read_zero]
    simp [Datum.order, sg0]
theorem allZ_den {l : List Tm} : ((allZ l).den E).toB = true ↔ ∀ u, u ∈ l → (u.den E).toF % FloatKind.f32.format.signWeight = 0 := by
  induction l with
  | nil => simp [allZ, Tm.den]
  | cons u r ih =>
    simp only [allZ, mkIteB_den, mkFeq_den, List.mem_cons, forall_eq_or_imp, ← ih]
    have e0 : ((Tm.fl 0).den E).toF = 0 := rfl
    rw [e0]
    cases h : F.eq .f32 (u.den E).toF 0 with
    | true => simp [eq_z.1 h]
    | false =>
      have : ¬ (u.den E).toF % FloatKind.f32.format.signWeight = 0 := fun h0 => by rw [eq_z.2 h0] at h; cases h
      simp [this, Tm.den]
theorem hasAdd_ok {pc : PC} (hp : PcOk E pc) {m : Tm} : ∀ {l : List Tm}, hasAdd pc m l = true → ∃ a, (Tm.op (.fadd .f32) a m) ∈ l ∧ F.le .f32 0 (a.den E).toF = true
  | [], h => by cases h
  | u :: r, h => by
    simp only [hasAdd] at h
    split at h
    · rename_i hi
      unfold isAdd at hi
      split at hi
      · rename_i o a b
        split at hi
        · rename_i ho
          split at hi
          · rename_i hb
            have ho' : o = .fadd .f32 := Opc.n_inj (Nat.eq_of_beq_eq_true ho)
            subst ho'
            rw [Tm.beq_eq hb]
            exact ⟨a, List.mem_cons_self .., nnT_ok hp hi⟩
          · cases hi
        · cases hi
      · cases hi
    · obtain ⟨a, ha, hn⟩ := hasAdd_ok hp h
      exact ⟨a, List.mem_cons_of_mem _ ha, hn⟩
theorem okAllZ_mem {pc : PC} {m : Tm} : ∀ {l : List Tm}, okAllZ pc m l = true → ∀ u, u ∈ l → okOne pc m u = true
  | [], _, u, hu => by cases hu
  | v :: r, h, u, hu => by
    simp only [okAllZ] at h
    split at h
    · rename_i h1
      rcases List.mem_cons.1 hu with rfl | hu
      · exact h1
      · exact okAllZ_mem h u hu
    · cases h
theorem mapB_mem {m : Tm} : ∀ {l : List Tm} {v : Tm}, v ∈ mapB m l → ∃ u, u ∈ l ∧ v = baseOne m u
  | [], v, h => by cases h
  | u :: r, v, h => by
    simp only [mapB, List.mem_cons] at h
    rcases h with rfl | h
    · exact ⟨u, List.mem_cons_self .., rfl⟩
    · obtain ⟨u', h1, h2⟩ := mapB_mem h
      exact ⟨u', List.mem_cons_of_mem _ h1, h2⟩
theorem base_zero {pc : PC} (hp : PcOk E pc) {m u : Tm} (hm : F.le .f32 0 (m.den E).toF = true) (hok : okOne pc m u = true) (h0 : (m.den E).toF % FloatKind.f32.format.signWeight = 0) (hu : (u.den E).toF % FloatKind.f32.format.signWeight = 0) :
    ((baseOne m u).den E).toF % FloatKind.f32.format.signWeight = 0 := by
  unfold okOne at hok
  unfold baseOne
  split
  · rename_i o a b
    simp only at hok
    split
    · rename_i hb
      have hb' := Tm.beq_eq hb
      subst hb'
      rw [hb] at hok
      simp only at hok
      split
      · exact hu
      · rename_i hne
        have ha : F.le .f32 0 (a.den E).toF = true := by
          split at hok
          · rename_i q1 q2; exact absurd q2 (hne q1)
          · exact nnT_ok hp hok
        cases hs : Nat.beq o.n (Opc.fsub .f32).n with
        | true =>
          have ho : o = .fsub .f32 := Opc.n_inj (Nat.eq_of_beq_eq_true hs)
          subst ho
          rcases Nat.eq_zero_or_pos ((a.den E).toF % FloatKind.f32.format.signWeight) with hz | hz
          · exact hz
          · exact absurd h0 (sub_nz ha (by omega) hm (eq_z.2 hu))
        | false => cases hd : Nat.beq o.n (Opc.fadd .f32).n with
          | true =>
            have ho : o = .fadd .f32 := Opc.n_inj (Nat.eq_of_beq_eq_true hd)
            subst ho
            rcases Nat.eq_zero_or_pos ((a.den E).toF % FloatKind.f32.format.signWeight) with hz | hz
            · exact hz
            · exact absurd hu (add_nz ha hm (.inl (by omega)))
          | false => exact absurd hd (hne hs)
    · exact hu
  · exact hu
/-- Not all of shifted parts are nought. -/
def shiftB (pc : PC) (l : List Tm) : Bool := match subM l with
  | some m => match nnT pc .f32 m, okAllZ pc m l, hasAdd pc m l, look pc (allZ (mapB m l)) with
    | true, true, true, some false => true
    | _, _, _, _ => false
  | none => false
theorem shiftB_ok {pc : PC} (hp : PcOk E pc) {l : List Tm} (h : shiftB pc l = true) : ((allZ l).den E).toB = false := by
  unfold shiftB at h
  split at h
  · rename_i m hm
    split at h
    · rename_i q1 q2 q3 q4
      have hb := look_ok hp q4
      cases hc : ((allZ l).den E).toB with
      | false => rfl
      | true =>
        exfalso
        have hall := allZ_den.1 hc
        obtain ⟨a, ha, ha0⟩ := hasAdd_ok hp q3
        have hok := okAllZ_mem q2
        have m0 : (m.den E).toF % FloatKind.f32.format.signWeight = 0 := by
          have h1 := hall _ ha
          rcases Nat.eq_zero_or_pos ((m.den E).toF % FloatKind.f32.format.signWeight) with hz | hz
          · exact hz
          · exact absurd h1 (add_nz ha0 (nnT_ok hp q1) (.inr (by omega)))
        have : ((allZ (mapB m l)).den E).toB = true := allZ_den.2 fun v hv => by
          obtain ⟨u, hu, rfl⟩ := mapB_mem hv
          exact base_zero hp (nnT_ok hp q1) (hok u hu) m0 (hall u hu)
        rw [this] at hb
        cases hb
    · cases h
  · cases h
def shiftY (S : Sum) : Sum := fun args m pc => match shiftB pc (partsArg args) with
  | true => S args m ((allZ (partsArg args), false) :: pc)
  | false => S args m pc
theorem shiftY_ok {f : Nat} {S : Sum} (hS : SumOk P E f S) : SumOk P E f (shiftY S) := by
  intro args m pc r hr
  unfold shiftY at hr
  split at hr
  · rename_i h
    exact fun β w vals h1 h2 h3 h4 hp => hS args m _ _ hr β w vals h1 h2 h3 h4 (hp.cons (shiftB_ok hp h))
  · exact hS args m _ _ hr
theorem shiftY_pc {S : Sum} (hS : ∀ args m pc, PcOk E pc → Pcs E Res.pc (S args m pc)) (args : List SV) (m : Mm) (pc : PC) (hp : PcOk E pc) : Pcs E Res.pc (shiftY S args m pc) := by
  unfold shiftY
  split
  · rename_i h; exact hS _ _ _ (hp.cons (shiftB_ok hp h))
  · exact hS _ _ _ hp
end
end Go.Sx
set_option linter.unusedVariables false
set_option linter.unusedSimpArgs false
noncomputable section
namespace Go.Sx
open Go
def tmAt : List Tm → Nat → Tm
  | [], _ => .nil
  | t :: _, 0 => t
  | _ :: r, i + 1 => tmAt r i
theorem tmAt_get : ∀ {l : List Tm} {i : Nat} {t : Tm}, l[i]? = some t → tmAt l i = t
  | [], i, t, h => by simp at h
  | u :: r, 0, t, h => by simp at h; exact h
  | u :: r, i + 1, t, h => tmAt_get (l := r) (by simpa using h)
def selT (ts : List Tm) : List Nat → List Tm
  | [] => []
  | i :: r => tmAt ts i :: selT ts r
def selV : List Nat → List Tm
  | [] => []
  | i :: r => .var i :: selV r
def allLt (n : Nat) : List Nat → Bool
  | [] => true
  | i :: r => match Nat.blt i n with | true => allLt n r | false => false
theorem selV_get : ∀ {π : List Nat} {i : Nat} {t : Tm}, (selV π)[i]? = some t → ∃ p, π[i]? = some p ∧ t = .var p
  | [], i, t, h => by simp [selV] at h
  | p :: r, 0, t, h => by simp [selV] at h; exact ⟨p, rfl, h.symm⟩
  | p :: r, i + 1, t, h => by
    obtain ⟨q, h1, h2⟩ := selV_get (π := r) (i := i) (by simpa [selV] using h)
    exact ⟨q, by simpa using h1, h2⟩
theorem selT_get {ts : List Tm} : ∀ {π : List Nat} {i p : Nat}, π[i]? = some p → (selT ts π)[i]? = some (tmAt ts p)
  | [], i, p, h => by simp at h
  | q :: r, 0, p, h => by simp at h; subst h; rfl
  | q :: r, i + 1, p, h => by simpa [selT] using selT_get (ts := ts) (π := r) (i := i) (by simpa using h)
theorem allLt_get {n : Nat} : ∀ {π : List Nat} {i p : Nat}, allLt n π = true → π[i]? = some p → p < n
  | q :: r, i, p, h, hp => by
    simp only [allLt] at h
    split at h
    · rename_i h1
      cases i with
      | zero => simp at hp; subst hp; simpa [Nat.blt_eq] using h1
      | succ i => exact allLt_get h (by simpa using hp)
    · cases h
theorem selV_len : ∀ {π : List Nat}, (selV π).length = π.length
  | [] => rfl
  | _ :: r => by simp [selV, selV_len (π := r)]
def sumRp (ps : List Pa) (as : PC) (rp : Rp) (N id : Nat) (π : List Nat) (els : Sum) : Sum := sumQ ps as (fun ts => mkR rp (nths (.app id (listT (selT ts π))) N 0)) els
theorem sumRp_ok {P : Program} {E : Env} {ctx : Ctx} {n f N id : Nat} {π : List Nat} {ps : List Pa} {as pcx : PC} {rp : Rp} {D : Tm} {els : Sum} (hC : ∀ E' : Env, E'.fn = E.fn → CtxOk P E' ctx ∧ CtxPc E' ctx)
    (hN : Named P) (hmix : P.follows .mixedOrders = true) (hD : ∀ c, E.fn id c = D.den ⟨fun i => c.at_ i, E.fn⟩)
    (hj : ((Nat.ble (bldP ps 0 0).j 1000 && undersF (bldP ps 0 0).n as) && ((D.under π.length && Nat.beq N (sizeR rp.2)) && allLt (bldP ps 0 0).n π)) = true)
    (hx : ∀ E' : Env, E'.fn = E.fn → PcOk E' as → PcOk E' pcx)
    (hk : treeIs rp (callQ P ctx n f ps pcx) (D.subst (selV π)) = true) (hels : SumOk P E f els) : SumOk P E f (sumRp ps as rp N id π els) := by
  simp only [Bool.and_eq_true] at hj
  obtain ⟨⟨j1, j2⟩, ⟨j3, j4⟩, j5⟩ := hj
  refine sumW_ok (n := n) hC hN hmix (by simp only [j1, j2, Bool.and_self]) hx (fun E' ts hfn has hp hn hE => ?_) hels
  unfold treeIs at hk
  split at hk
  · rename_i T' hT'
    have e := Tm.beq_eq hk
    subst e
    obtain ⟨r, cs, h1, h2, h3⟩ := treeT_sel (E := E') hT'
    refine ⟨r, h1, fun β' β v hv => ?_⟩
    have hlen := unR_length h2
    have hN' : N = sizeR rp.2 := Nat.eq_of_beq_eq_true j4
    refine unR_rep h2 hv ⟨by rw [nths_length]; omega, fun i t u g1 g2 => ?_⟩
    have eu := nths_get g2
    rw [Nat.zero_add] at eu
    subst eu
    simp only [Tm.den]
    rw [hD]
    have e2 : (D.subst (selV π)).den E' = D.den ⟨fun i => ((listT (selT ts π)).den E).at_ i, E.fn⟩ := subst_den (E := E') (E' := ⟨fun i => ((listT (selT ts π)).den E).at_ i, E.fn⟩) (fun i t ht => by
      obtain ⟨p, hp', rfl⟩ := selV_get ht
      have hlt : p < ts.length := by rw [← hn]; exact allLt_get j5 hp'
      have g := selT_get (ts := ts) hp'
      have e3 := tmAt_get (List.getElem?_eq_getElem hlt)
      rw [e3] at g
      show ((listT (selT ts π)).den E).at_ i = E'.v p
      rw [hE p _ (List.getElem?_eq_getElem hlt)]
      exact listT_at g) (by rw [hfn]) (by rw [selV_len]; exact j3)
    rw [← e2, h3]
    exact listT_at g1
  · cases hk
def partsArg3 : List SV → List Tm
  | [_, .agg cs, _] => match f32s cs with
    | some l => l
    | none => []
  | _ => []
def shiftW (S : Sum) : Sum := fun args m pc => match shiftB pc (partsArg3 args) with
  | true => S args m ((allZ (partsArg3 args), false) :: pc)
  | false => S args m pc
theorem shiftW_ok {P : Program} {E : Env} {f : Nat} {S : Sum} (hS : SumOk P E f S) : SumOk P E f (shiftW S) := by
  intro args m pc r hr
  unfold shiftW at hr
  split at hr
  · rename_i h
    exact fun β w vals h1 h2 h3 h4 hp => hS args m _ _ hr β w vals h1 h2 h3 h4 (hp.cons (shiftB_ok hp h))
  · exact hS args m _ _ hr
theorem shiftW_pc {E : Env} {S : Sum} (hS : ∀ args m pc, PcOk E pc → Pcs E Res.pc (S args m pc)) (args : List SV) (m : Mm) (pc : PC) (hp : PcOk E pc) : Pcs E Res.pc (shiftW S args m pc) := by
  unfold shiftW
  split
  · rename_i h; exact hS _ _ _ (hp.cons (shiftB_ok hp h))
  · exact hS _ _ _ hp
end Go.Sx
set_option linter.unusedVariables false
set_option linter.unusedSimpArgs false
noncomputable section
namespace Go.Sx
open Go Go.RowKit
/-- The kinds of a row's cells, the row's type, how many cells; does a code (nought) come with it? -/
structure Fo where
  ks : List SK
  e : Nat
  z : Nat
  tp : Bool
def ogOf (F : Fo) (r : Res) : SV → Option (Tm × Tm)
  | .og j ks n t => match beqKs F.ks ks, find r.nb j with
    | true, some sb => match sb.cs, sb.row with
      | [], some (e', z', m') => match Nat.beq e' F.e, Nat.beq z' F.z, Nat.beq m' 0 with
        | true, true, true => some (n, t)
        | _, _, _ => none
      | _, _ => none
    | _, _ => none
  | _ => none
def leafO (F : Fo) (r : Res) : Option (Tm × Tm) := match F.tp with
  | false => ogOf F r r.v
  | true => match r.v with
    | .tup [s, .sc k c] => match beqK k (.int .i64), isZ c with
      | true, true => ogOf F r s
      | _, _ => none
    | _ => none
def leafQ (F : Fo) (o : Out Res) : Option (Tm × Tm) := match o with
  | .ret r => leafO F r
  | _ => none
def vO (F : Fo) (A : Tm) (j : Nat) : SV := match F.tp with
  | true => .tup [.og j F.ks (.nth 0 A) (.nth 1 A), .sc (.int .i64) (.il 0)]
  | false => .og j F.ks (.nth 0 A) (.nth 1 A)
def okO (F : Fo) (A : Tm) (m : Mm) (pc : PC) : Res := ⟨vO F A m.nxt, [(m.nxt, ⟨[], some (F.e, F.z, 0)⟩)], m.nxt + 1, pc⟩
/-- The contract: a new open list, its length and its cells parts of the named function's value; `ex`: what else is known then. -/
def sumO (F : Fo) (id : Nat) (ps : List Pa) (as ex : PC) (els : Sum) : Sum := fun args m pc =>
  match matchP m.mem pc ps args, Nat.blt m.nxt m.lim with
  | some ts, true => match Nat.beq ts.length (bldP ps 0 0).n with
    | true => forkAs (fun pc => .ret (okO F (.app id (listT ts)) m (substF ts ex ++ pc))) (els args m) (substF ts as) pc
    | false => els args m pc
  | _, _ => els args m pc
section
variable {P : Program} {E : Env}
theorem substF_ok' {E' : Env} {ts : List Tm} (hv : ∀ (i : Nat) (t : Tm), ts[i]? = some t → E'.v i = t.den E) (hf : E'.fn = E.fn) : ∀ {as : PC}, undersF ts.length as = true → PcOk E' as → PcOk E (substF ts as)
  | [], _, _ => fun p hp => by cases hp
  | (t, b) :: r, hu, h => by
    simp only [undersF] at hu
    split at hu
    · rename_i h1
      intro p hp
      rcases List.mem_cons.1 hp with rfl | hp
      · have := h _ (List.mem_cons_self ..)
        simp only [subst_den hv hf h1]
        exact this
      · exact substF_ok' hv hf hu (fun q hq => h q (List.mem_cons_of_mem _ hq)) p hp
    · cases hu
theorem ogOf_ok {E' : Env} {F : Fo} {r0 : Res} {s : SV} {n t A : Tm} {m : Mm} {β β'' β0 : Pl} {w w' : World} {v : Value} {n0 : Nat} (hs : ogOf F r0 s = some (n, t)) (hn : (A.den E).at_ 0 = n.den E') (ht : (A.den E).at_ 1 = t.den E')
    (hv : SV.rep E' β'' s v) (hst : Step E' β0 β'' w w' n0 r0.nxt r0.nb) (hf : Fresh β m.nxt m.lim) (hlt : m.nxt < m.lim) :
    ∃ β2, SV.rep E β2 (.og m.nxt F.ks (.nth 0 A) (.nth 1 A)) v ∧ Step E β β2 w w' m.nxt (m.nxt + 1) [(m.nxt, ⟨[], some (F.e, F.z, 0)⟩)] := by
  unfold ogOf at hs
  split at hs
  · rename_i j ks n' t'
    split at hs
    · rename_i sb hk hsb
      have e := beqKs_eq hk
      subst e
      split at hs
      · rename_i e' z' m' hcs hrow
        split at hs
        · rename_i he hz hm
          have he' := Nat.eq_of_beq_eq_true he
          have hz' := Nat.eq_of_beq_eq_true hz
          have hm' := Nat.eq_of_beq_eq_true hm
          subst he' hz' hm'
          simp only [Option.some.injEq, Prod.mk.injEq] at hs
          obtain ⟨rfl, rfl⟩ := hs
          simp only [SV.rep] at hv
          obtain ⟨b, l, hb, rfl, hlc, hlm, hln, hval, hrows⟩ := hv
          obtain ⟨b2, hb2, hreads, hB, h0, arr, e, hh, hrw⟩ := hst.new.ent j sb (find_mem hsb)
          rw [hb] at hb2; cases hb2
          refine ⟨upd β m.nxt b, ?_, step_new1 (β' := β'') hf hlt hst.below ⟨hreads.1, fun i s2 hi => by simp at hi, hreads.3.imp id fun h => ⟨rfl, h.2⟩, fun e2 s2 h => ?_⟩ hB ⟨h0, arr, e, hh, ?_⟩⟩
          · simp only [SV.rep, Tm.den, hn, ht]
            exact ⟨b, l, by simp [upd], rfl, hlc, hlm, hln, hval, hrows⟩
          · cases h
            exact hreads.zc _ _ hrow
          · rw [hrow] at hrw
            simp only at hrw ⊢
            exact ⟨hrw.1, hrw.2.1, Nat.zero_le _, hrw.2.2.2.1, by simp⟩
        · cases hs
      · cases hs
    · cases hs
  · cases hs
theorem leafO_ok {E' : Env} {F : Fo} {r0 : Res} {n t A : Tm} {m : Mm} {pc : PC} {β β'' β0 : Pl} {w w' : World} {v : Value} {n0 : Nat} (hl : leafO F r0 = some (n, t)) (hn : (A.den E).at_ 0 = n.den E') (ht : (A.den E).at_ 1 = t.den E')
    (hv : SV.rep E' β'' r0.v v) (hst : Step E' β0 β'' w w' n0 r0.nxt r0.nb) (hf : Fresh β m.nxt m.lim) (hlt : m.nxt < m.lim) :
    ∃ β2, SV.rep E β2 (okO F A m pc).v v ∧ Step E β β2 w w' m.nxt (okO F A m pc).nxt (okO F A m pc).nb := by
  unfold leafO at hl
  unfold okO vO
  split at hl
  · rename_i hF
    rw [hF]
    exact ogOf_ok hl hn ht hv hst hf hlt
  · rename_i hF
    rw [hF]
    split at hl
    · rename_i s k c hrv
      split at hl
      · rename_i hk hz
        have hk' := beqK_eq hk
        have hz' := isZ_eq hz
        subst hk' hz'
        rw [hrv] at hv
        simp only [SV.rep, SV.reps] at hv
        obtain ⟨vs, rfl, v1, rest1, e1, hv1, v2, rest2, e2, hv2, e3⟩ := hv
        subst e3 e2
        obtain ⟨β2, q1, q2⟩ := ogOf_ok hl hn ht hv1 hst hf hlt
        refine ⟨β2, ?_, q2⟩
        simp only [SV.rep, SV.reps] at q1 ⊢
        exact ⟨vs, rfl, v1, _, e1, q1, v2, [], rfl, by simpa [SK.rep, Tm.den] using hv2, rfl⟩
      · cases hl
    · cases hl
theorem sumO_ok {ctx : Ctx} {n f id : Nat} {ps : List Pa} {as ex pcx : PC} {F : Fo} {D T0 T1 : Tm} {els : Sum} (hC : ∀ E' : Env, E'.fn = E.fn → CtxOk P E' ctx ∧ CtxPc E' ctx)
    (hN : Named P) (hmix : P.follows .mixedOrders = true) (hD : ∀ c, E.fn id c = D.den ⟨fun i => c.at_ i, E.fn⟩)
    (hj : ((Nat.ble (bldP ps 0 0).j 1000 && undersF (bldP ps 0 0).n as) && (D.under (bldP ps 0 0).n && undersF (bldP ps 0 0).n ex)) = true)
    (hx : ∀ E' : Env, E'.fn = E.fn → PcOk E' as → PcOk E' pcx)
    (he : ∀ E' : Env, E'.fn = E.fn → PcOk E' as → PcOk E' ex)
    (hk : leafQ F (callQ P ctx n f ps pcx) = some (T0, T1))
    (hT : ∀ E' : Env, E'.fn = E.fn → PcOk E' as → (D.den E').at_ 0 = T0.den E' ∧ (D.den E').at_ 1 = T1.den E')
    (hels : SumOk P E f els) : SumOk P E f (sumO F id ps as ex els) := by
  simp only [Bool.and_eq_true] at hj
  obtain ⟨⟨j1, j2⟩, j3, j4⟩ := hj
  intro args m pc r hr β w vals hreps hm hf hl hp
  unfold sumO at hr
  split at hr
  · rename_i ts hts hlt0
    have hlt : m.nxt < m.lim := Nat.le_of_ble_eq_true hlt0
    split at hr
    rotate_left
    · exact hels args m pc r hr β w vals hreps hm hf hl hp
    rename_i hlen0
    obtain ⟨pc1, hp1, hc⟩ := forkAs_sel hp hr
    rcases hc with ⟨has, hr⟩ | hr
    · simp only [Out.sel, Option.some.injEq] at hr
      subst hr
      obtain ⟨e1, bss, e2, hall⟩ := matchP_ok P hp hm (n := 0) (j := 0) hts hreps
      rw [Nat.zero_add] at e1 e2
      let E' : Env := ⟨fun i => (ts[i]?.map (Tm.den E)).getD .nil, E.fn⟩
      let β' : Pl := fun i => bss[i]?
      have hE : ∀ (i : Nat) (t : Tm), ts[i]? = some t → E'.v i = t.den E := fun i t hi => by simp [E', hi]
      obtain ⟨g1, g2, g3⟩ := hall E' β' (fun i t hi => by rw [Nat.zero_add]; exact hE i t hi) (fun i x hi => by rw [Nat.zero_add]; exact hi)
      have has' : PcOk E' as := substF_ok hE rfl (by rw [← e1]; exact j2) has
      have hpx : PcOk E' (pcx ++ (bldP ps 0 0).pc) := fun p hp => by
        rcases List.mem_append.1 hp with hp | hp
        · exact hx E' rfl has' p hp
        · exact g3 p hp
      unfold leafQ at hk
      split at hk
      · rename_i r0 hr0
        unfold callQ at hr0
        obtain ⟨_, _, hfn, hcalls⟩ := call_ok (hC E' rfl).1 (hC E' rfl).2 hN hmix n f (bldP ps 0 0).svs ⟨(bldP ps 0 0).mem, (bldP ps 0 0).j, 2 ^ 256, 2 ^ 200⟩ (pcx ++ (bldP ps 0 0).pc) r0 (by rw [hr0]; rfl) β' w vals g1 g2
          (fun i hi _ => by simp only [β']; exact List.getElem?_eq_none (by simp only at hi; omega)) (Nat.le_trans (Nat.le_of_ble_eq_true j1) (show 1000 ≤ 2 ^ 256 by decide)) hpx
        have hA : (Tm.app id (listT ts)).den E = D.den E' := by
          show E.fn id ((listT ts).den E) = _
          rw [hD]
          exact under_den (E := ⟨fun i => ((listT ts).den E).at_ i, E.fn⟩) (E' := E') (n := (bldP ps 0 0).n) (fun i hi => by
            rw [e1] at hi
            have ht : ts[i]? = some ts[i] := List.getElem?_eq_getElem hi
            rw [hE i _ ht]
            exact listT_at ht) rfl j3
        obtain ⟨t0, t1⟩ := hT E' rfl has'
        refine ⟨pc_app (substF_ok' hE rfl (by rw [← e1]; exact j4) (he E' rfl has')) hp1, hlt, hfn, hcalls.mono fun e w' ⟨v, β'', he, hv, hst⟩ => ?_⟩
        obtain ⟨β2, q1, q2⟩ := leafO_ok (m := m) (pc := substF ts ex ++ pc1) (β := β) (A := .app id (listT ts)) (E := E) hk (by rw [hA]; exact t0) (by rw [hA]; exact t1) hv hst hf hlt
        exact ⟨v, β2, he, q1, q2⟩
      · cases hk
    · exact hels args m pc1 r hr β w vals hreps hm hf hl hp1
  · exact hels args m pc r hr β w vals hreps hm hf hl hp
where
  pc_app {E : Env} {a b : PC} (ha : PcOk E a) (hb : PcOk E b) : PcOk E (a ++ b) := fun p hp => (List.mem_append.1 hp).elim (ha p) (hb p)
theorem sumO_pc {id : Nat} {ps : List Pa} {as ex : PC} {F : Fo} {els : Sum}
    (hj : (undersF (bldP ps 0 0).n as && undersF (bldP ps 0 0).n ex) = true)
    (he : ∀ E' : Env, E'.fn = E.fn → PcOk E' as → PcOk E' ex)
    (hels : ∀ args m pc, PcOk E pc → Pcs E Res.pc (els args m pc)) (args : List SV) (m : Mm) (pc : PC) (hp : PcOk E pc) : Pcs E Res.pc (sumO F id ps as ex els args m pc) := by
  simp only [Bool.and_eq_true] at hj
  unfold sumO
  split
  · rename_i ts hts hlt0
    split
    · rename_i hlen
      have hlen := Nat.eq_of_beq_eq_true hlen
      intro r hr
      obtain ⟨pc1, hp1, hc⟩ := forkAs_sel hp hr
      rcases hc with ⟨has, hr⟩ | hr
      · simp only [Out.sel, Option.some.injEq] at hr
        subst hr
        let E' : Env := ⟨fun i => (ts[i]?.map (Tm.den E)).getD .nil, E.fn⟩
        have hE : ∀ (i : Nat) (t : Tm), ts[i]? = some t → E'.v i = t.den E := fun i t hi => by simp [E', hi]
        exact sumO_ok.pc_app (substF_ok' hE rfl (by rw [hlen]; exact hj.2) (he E' rfl (substF_ok hE rfl (by rw [hlen]; exact hj.1) has))) hp1
      · exact hels args m pc1 hp1 r hr
    · exact hels args m pc hp
  · exact hels args m pc hp
/-! Names that read terms made of the arguments -/
def substL (ts : List Tm) : List Tm → List Tm
  | [] => []
  | u :: r => u.subst ts :: substL ts r
theorem substL_get {ts : List Tm} : ∀ {us : List Tm} {i : Nat} {u : Tm}, us[i]? = some u → (substL ts us)[i]? = some (u.subst ts)
  | [], i, u, h => by simp at h
  | v :: r, 0, u, h => by simp at h; subst h; rfl
  | v :: r, i + 1, u, h => by simpa [substL] using substL_get (ts := ts) (us := r) (i := i) (by simpa using h)
def undersL (n : Nat) : List Tm → Bool
  | [] => true
  | t :: r => match t.under n with | true => undersL n r | false => false
theorem undersL_get {n : Nat} : ∀ {us : List Tm} {i : Nat} {u : Tm}, undersL n us = true → us[i]? = some u → u.under n = true
  | v :: r, i, u, h, hu => by
    simp only [undersL] at h
    split at h
    · rename_i h1
      cases i with
      | zero => simp at hu; subst hu; exact h1
      | succ i => exact undersL_get h (by simpa using hu)
    · cases h
def sumU (ps : List Pa) (as : PC) (rp : Rp) (N id : Nat) (us : List Tm) (els : Sum) : Sum := sumQ ps as (fun ts => mkR rp (nths (.app id (listT (substL ts us))) N 0)) els
theorem sumU_ok {ctx : Ctx} {n f N id : Nat} {us : List Tm} {ps : List Pa} {as pcx : PC} {rp : Rp} {D : Tm} {els : Sum} (hC : ∀ E' : Env, E'.fn = E.fn → CtxOk P E' ctx ∧ CtxPc E' ctx)
    (hN : Named P) (hmix : P.follows .mixedOrders = true) (hD : ∀ c, E.fn id c = D.den ⟨fun i => c.at_ i, E.fn⟩)
    (hj : ((Nat.ble (bldP ps 0 0).j 1000 && undersF (bldP ps 0 0).n as) && ((D.under us.length && Nat.beq N (sizeR rp.2)) && undersL (bldP ps 0 0).n us)) = true)
    (hx : ∀ E' : Env, E'.fn = E.fn → PcOk E' as → PcOk E' pcx)
    (hk : treeIs rp (callQ P ctx n f ps pcx) (D.subst us) = true) (hels : SumOk P E f els) : SumOk P E f (sumU ps as rp N id us els) := by
  simp only [Bool.and_eq_true] at hj
  obtain ⟨⟨j1, j2⟩, ⟨j3, j4⟩, j5⟩ := hj
  refine sumW_ok (n := n) hC hN hmix (by simp only [j1, j2, Bool.and_self]) hx (fun E' ts hfn has hp hn hE => ?_) hels
  unfold treeIs at hk
  split at hk
  · rename_i T' hT'
    have e := Tm.beq_eq hk
    subst e
    obtain ⟨r, cs, h1, h2, h3⟩ := treeT_sel (E := E') hT'
    refine ⟨r, h1, fun β' β v hv => ?_⟩
    have hlen := unR_length h2
    have hN' : N = sizeR rp.2 := Nat.eq_of_beq_eq_true j4
    refine unR_rep h2 hv ⟨by rw [nths_length]; omega, fun i t u g1 g2 => ?_⟩
    have eu := nths_get g2
    rw [Nat.zero_add] at eu
    subst eu
    simp only [Tm.den]
    rw [hD]
    have e2 : (D.subst us).den E' = D.den ⟨fun i => ((listT (substL ts us)).den E).at_ i, E.fn⟩ := subst_den (E := E') (E' := ⟨fun i => ((listT (substL ts us)).den E).at_ i, E.fn⟩) (fun i t ht => by
      show ((listT (substL ts us)).den E).at_ i = t.den E'
      rw [listT_at (substL_get ht)]
      exact subst_den hE hfn (by rw [← hn]; exact undersL_get j5 ht)) (by rw [hfn]) j3
    rw [← e2, h3]
    exact listT_at g1
  · cases hk
end
end Go.Sx
