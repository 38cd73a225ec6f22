/- A part of a sum is at most one; its floor, times a small number, is a small whole number. No condition. -/
import Derived.Test.YtamljpeicecbjaaSxTm
set_option linter.unusedVariables false
set_option linter.unusedSimpArgs false
noncomputable section
namespace Go.Sx
open Go Ieee

/-- A quotient by a number no less than it is at most one. -/
theorem div_one {k : FloatKind} {x y : Nat} (hy : y < k.format.infRung) (h0 : y ≠ 0) (hxy : x ≤ y) : F.div k x y ≤ k.nearest 1 := by
  have hlp : k.format.leastPlace ≤ 0 := by cases k <;> decide
  obtain ⟨m, i, h1', h2, h3⟩ := read_pos k.format (x := x) (by omega)
  obtain ⟨n, j, g1, g2, g3⟩ := read_pos k.format hy
  have hn : n ≠ 0 := by
    rintro rfl
    rw [Nat.zero_mul] at g3
    exact h0 (valN_zero.1 g3.symm)
  have hv : valN k.format x ≤ valN k.format y := valN_le.2 hxy
  rw [← h3, ← g3] at hv
  unfold F.div Format.div
  rw [h1', g1]
  simp only [Datum.quotient, if_neg hn, Option.map_some, Option.getD_some, Bool.xor_self, Format.write, Nat.shiftLeft_eq]
  by_cases hm : m = 0
  · subst hm
    have e : (2 * (0 * 2 ^ (k.format.fractionBits + 2 + n.log2 - Nat.log2 0) / n) + (0 * 2 ^ (k.format.fractionBits + 2 + n.log2 - Nat.log2 0) % n != 0).toNat) = 0 := by simp
    rw [e]
    have : k.format.nearest false 0 (i - j - (k.format.fractionBits + 2 + n.log2 - Nat.log2 0 : Nat) - 1) = 0 := by simp [Format.nearest, word_pos]
    rw [this]; exact Nat.zero_le _
  have hmore : n ≤ m * 2 ^ (k.format.fractionBits + 2 + n.log2 - m.log2) := by
    have a1 : 2 ^ m.log2 ≤ m := Nat.log2_self_le hm
    have a2 : n < 2 ^ (n.log2 + 1) := Nat.lt_log2_self
    have a3 : 2 ^ (n.log2 + 1) ≤ 2 ^ (m.log2 + (k.format.fractionBits + 2 + n.log2 - m.log2)) := Nat.pow_le_pow_right (by omega) (by omega)
    rw [Nat.pow_add 2 m.log2] at a3
    have a4 := Nat.mul_le_mul_right (2 ^ (k.format.fractionBits + 2 + n.log2 - m.log2)) a1
    omega
  revert hmore
  generalize k.format.fractionBits + 2 + n.log2 - m.log2 = more
  intro hmore
  have hb : ∃ b : Int, b ≤ i - j - more - 1 ∧ b ≤ k.format.leastPlace := ⟨min (i - j - more - 1) k.format.leastPlace, by omega, by omega⟩
  obtain ⟨b, hb1, hb2⟩ := hb
  rw [nearest_RgN k.format (b := b) hb1 (by omega)]
  have e : k.nearest 1 = RgN k.format (1 * 2 ^ (0 - b).toNat) b := by
    unfold FloatKind.nearest FloatKind.encode Format.write
    have : decide ((1 : Int) < 0) = false := by decide
    rw [this]
    exact nearest_RgN k.format (by omega) (by omega)
  rw [e]
  apply RgN_mono _ (by omega)
  have hpos : 0 < 2 ^ (i - k.format.leastPlace).toNat := Nat.pow_pos (by omega)
  -- m * 2^more ≤ n * 2^(more + j - i)
  have hmn : 0 ≤ more + j - i ∧ m * 2 ^ more ≤ n * 2 ^ (more + j - i).toNat := by
    have p0 : m * 2 ^ more * 2 ^ (i - k.format.leastPlace).toNat ≤ n * 2 ^ more * 2 ^ (j - k.format.leastPlace).toNat := by
      have := Nat.mul_le_mul_right (2 ^ more) hv
      rw [Nat.mul_right_comm m, Nat.mul_right_comm n]
      exact this
    by_cases hc : 0 ≤ more + j - i
    · refine ⟨hc, ?_⟩
      apply Nat.le_of_mul_le_mul_right _ hpos
      refine Nat.le_trans p0 (Nat.le_of_eq ?_)
      rw [Nat.mul_assoc, Nat.mul_assoc, ← Nat.pow_add, ← Nat.pow_add]
      congr 2
      omega
    · exfalso
      have q0 : n * 2 ^ (i - k.format.leastPlace).toNat ≤ n * (2 ^ more * 2 ^ (j - k.format.leastPlace).toNat) := by
        rw [← Nat.mul_assoc]
        exact Nat.le_trans (Nat.mul_le_mul_right _ hmore) p0
      have q1 := Nat.le_of_mul_le_mul_left q0 (by omega)
      rw [← Nat.pow_add] at q1
      have q2 := (Nat.pow_le_pow_iff_right (a := 2) (by omega)).1 q1
      omega
  obtain ⟨hc, hmn⟩ := hmn
  generalize m * 2 ^ more = M at *
  have hA : 2 * (M / n) + (M % n != 0).toNat ≤ 2 * 2 ^ (more + j - i).toNat := by
    have d1 := Nat.div_add_mod M n
    have d2 : M / n ≤ 2 ^ (more + j - i).toNat := by
      apply Nat.div_le_of_le_mul
      exact hmn
    by_cases hr : M % n = 0
    · have : (M % n != 0).toNat = 0 := by rw [hr]; rfl
      omega
    · have hlt : M / n < 2 ^ (more + j - i).toNat := by
        rcases Nat.lt_or_ge (M / n) (2 ^ (more + j - i).toNat) with h | h
        · exact h
        · exfalso
          have := Nat.mul_le_mul_left n h
          omega
      have := Bool.toNat_le (M % n != 0)
      omega
  refine Nat.le_trans (Nat.mul_le_mul_right _ hA) (Nat.le_of_eq ?_)
  have e2 : 2 * 2 ^ (more + j - i).toNat = 2 ^ ((more + j - i).toNat + 1) := by rw [Nat.pow_succ]; omega
  rw [e2, ← Nat.pow_add, Nat.one_mul]
  congr 1
  omega
/-- What a word reads as that is finite and not below nought. -/
theorem read_norm {k : FloatKind} {x : Nat} (h0 : F.le k 0 x = true) (hf : F.fin k x = true) : x % k.format.signWeight < k.format.infRung ∧
    (k.format.read x = k.format.read (x % k.format.signWeight) ∨ x % k.format.signWeight = 0 ∧ k.format.read x = .number true 0 k.format.leastPlace) := by
  have hs := inf_lt_sign k.format
  have hmod : (x % k.format.signWeight) % k.format.signWeight = x % k.format.signWeight := Nat.mod_mod ..
  have hlt : x % k.format.signWeight < k.format.infRung := by
    rcases Nat.lt_or_ge (x % k.format.signWeight) k.format.infRung with h | h
    · exact h
    · exfalso
      have hb : k.format.binade ≤ k.format.infRung := by cases k <;> decide
      unfold F.fin Format.read at hf
      simp only at hf
      rw [if_neg (by omega), if_neg (by omega)] at hf
      split at hf
      · rename_i q
        split at q <;> cases q
      · cases hf
  refine ⟨hlt, ?_⟩
  have hdiv : x % k.format.signWeight / k.format.signWeight = 0 := Nat.div_eq_of_lt (by omega)
  rw [le0_iff] at h0
  cases hneg : (x / k.format.signWeight % 2 == 1) with
  | false =>
    left
    unfold Format.read
    simp only [hmod, hneg, hdiv, Nat.zero_mod]
    rfl
  | true =>
    right
    unfold Format.read at h0 ⊢
    simp only [hneg] at h0 ⊢
    by_cases hb : x % k.format.signWeight < k.format.binade
    · rw [if_pos hb] at h0 ⊢
      simp only [okD, Bool.not_true, Bool.false_or, beq_iff_eq] at h0
      rw [h0]
      exact ⟨rfl, rfl⟩
    · rw [if_neg hb, if_pos hlt] at h0
      simp only [okD, Bool.not_true, Bool.false_or, beq_iff_eq] at h0
      have := binade_pos k.format
      omega
theorem mod_self {k : FloatKind} {x : Nat} (h : x ≤ k.format.infRung) : x % k.format.signWeight = x := Nat.mod_eq_of_lt (Nat.lt_of_le_of_lt h (inf_lt_sign _))
theorem zero_inf (k : FloatKind) : 0 < k.format.infRung := by cases k <;> decide
theorem read_zero (k : FloatKind) : k.format.read 0 = .number false 0 k.format.leastPlace := by cases k <;> rfl
/-- A sum is no less than each of its two numbers. -/
theorem add_ge {k : FloatKind} {x y : Nat} (hx : F.le k 0 x = true) (hy : F.le k 0 y = true) (hf : F.fin k (F.add k x y) = true) :
    x % k.format.signWeight ≤ F.add k x y % k.format.signWeight ∧ y % k.format.signWeight ≤ F.add k x y % k.format.signWeight := by
  have fx : F.fin k x = true := by
    cases h : F.fin k x with
    | true => rfl
    | false => rw [add_nf (.inl h)] at hf; cases hf
  have fy : F.fin k y = true := by
    cases h : F.fin k y with
    | true => rfl
    | false => rw [add_nf (.inr h)] at hf; cases hf
  obtain ⟨x1, x2⟩ := read_norm hx fx
  obtain ⟨y1, y2⟩ := read_norm hy fy
  have norm : F.add k x y = F.add k (x % k.format.signWeight) (y % k.format.signWeight) →
      x % k.format.signWeight ≤ F.add k x y % k.format.signWeight ∧ y % k.format.signWeight ≤ F.add k x y % k.format.signWeight := by
    intro h
    rw [h, mod_self (add_top x1 y1), add_pos x1 y1]
    have key : ∀ z w : Nat, z < k.format.infRung → z ≤ RgN k.format (valN k.format z + w) k.format.leastPlace := by
      intro z w hz
      by_cases h0 : z = 0
      · omega
      · have e : RgN k.format (valN k.format z) k.format.leastPlace = z := by
          unfold RgN
          rw [if_neg (fun h => h0 (valN_zero.1 h)), Rg_valN _ h0]
          omega
        have := RgN_mono k.format (Int.le_refl _) (show valN k.format z ≤ valN k.format z + w by omega)
        rw [e] at this
        exact this
    refine ⟨key _ _ x1, ?_⟩
    rw [Nat.add_comm]
    exact key _ _ y1
  have sg : ∀ (b : Bool) (u : Nat), signed b 0 u = 0 := fun b u => by cases b <;> simp [signed]
  rcases x2 with x2 | ⟨x2, x3⟩ <;> rcases y2 with y2 | ⟨y2, y3⟩
  · exact norm (by unfold F.add Format.add; rw [x2, y2])
  · refine norm ?_
    obtain ⟨m, i, r1, _⟩ := read_pos k.format x1
    unfold F.add Format.add
    rw [x2, y3, y2, read_zero, r1]
    simp only [Datum.sum, sg, Bool.and_true, Bool.false_and]
  · refine norm ?_
    obtain ⟨m, i, r1, _⟩ := read_pos k.format y1
    unfold F.add Format.add
    rw [y2, x3, x2, read_zero, r1]
    simp only [Datum.sum, sg, Bool.and_false]
  · rw [x2, y2]
    exact ⟨Nat.zero_le _, Nat.zero_le _⟩
theorem lt_nz {k : FloatKind} {x : Nat} (h : F.lt k 0 x = true) : x % k.format.signWeight ≠ 0 := by
  intro h0
  have hr : ∃ b, k.format.read x = .number b 0 k.format.leastPlace := by
    refine ⟨x / k.format.signWeight % 2 == 1, ?_⟩
    unfold Format.read
    simp only [h0]
    rw [if_pos (binade_pos _)]
  obtain ⟨b, hr⟩ := hr
  unfold F.lt Format.order at h
  rw [read_zero, hr] at h
  have sg : ∀ (b : Bool) (u : Nat), signed b 0 u = 0 := fun b u => by cases b <;> simp [signed]
  simp only [Datum.order, sg] at h
  revert h
  simp
theorem lt_le0 {k : FloatKind} {x : Nat} (h : F.lt k 0 x = true) : F.le k 0 x = true := by
  unfold F.lt at h
  unfold F.le
  rw [h]; rfl
theorem div_part {k : FloatKind} {p s : Nat} (hp : F.le k 0 p = true) (fp : F.fin k p = true) (hs : F.le k 0 s = true) (fs : F.fin k s = true) (h0 : s % k.format.signWeight ≠ 0)
    (hle : p % k.format.signWeight ≤ s % k.format.signWeight) : F.div k p s ≤ k.nearest 1 ∨ F.div k p s = k.format.signWeight := by
  obtain ⟨p1, p2⟩ := read_norm hp fp
  obtain ⟨s1, s2⟩ := read_norm hs fs
  have s3 : k.format.read s = k.format.read (s % k.format.signWeight) := by
    rcases s2 with h | ⟨h, _⟩
    · exact h
    · exact absurd h h0
  rcases p2 with p2 | ⟨p2, p3⟩
  · left
    have : F.div k p s = F.div k (p % k.format.signWeight) (s % k.format.signWeight) := by unfold F.div Format.div; rw [p2, s3]
    rw [this]
    exact div_one s1 h0 hle
  · right
    obtain ⟨m, i, r1, r2, r3⟩ := read_pos k.format s1
    have hm : m ≠ 0 := by
      rintro rfl
      rw [Nat.zero_mul] at r3
      exact h0 (valN_zero.1 r3.symm)
    unfold F.div Format.div
    rw [p3, s3, r1]
    simp only [Datum.quotient, if_neg hm, Option.map_some, Option.getD_some, Format.write, Nat.shiftLeft_eq, Nat.zero_mul, Nat.zero_div, Nat.zero_mod]
    simp [Format.nearest, Format.word]
theorem mul_part {q : Nat} {t : Int} (hq : q ≤ FloatKind.f32.nearest 1 ∨ q = FloatKind.f32.format.signWeight) (t0 : 0 ≤ t) (t1 : t ≤ 1000) :
    F.mul .f32 q (FloatKind.f32.nearest t) ≤ 1148846080 ∨ F.mul .f32 q (FloatKind.f32.nearest t) = FloatKind.f32.format.signWeight := by
  obtain ⟨n1, _⟩ := int_bits (k := .f32) t0 t1
  have e1 : FloatKind.f32.nearest 1 = 1065353216 := by decide +kernel
  have e2 : FloatKind.f32.nearest 1000 = 1148846080 := by decide +kernel
  have e3 : FloatKind.f32.format.infRung = 2139095040 := by decide +kernel
  rcases hq with hq | hq
  · left
    have h := mul_bits (k := .f32) hq n1 (by rw [e1, e3]; omega) (by rw [e2, e3]; omega)
    have e4 : F.mul .f32 (FloatKind.f32.nearest 1) (FloatKind.f32.nearest 1000) = 1148846080 := by decide +kernel
    rw [e4] at h
    exact h
  · right
    obtain ⟨m, i, r1, _⟩ := read_pos FloatKind.f32.format (x := FloatKind.f32.nearest t) (by rw [e2] at n1; rw [e3]; omega)
    have r2 : FloatKind.f32.format.read FloatKind.f32.format.signWeight = .number true 0 FloatKind.f32.format.leastPlace := by decide +kernel
    rw [hq]
    unfold F.mul Format.mul
    rw [r1, r2]
    simp [Datum.product, Format.write, Format.nearest, Format.word]
theorem cut_down {n d : Nat} : Toward.down.cut false n d = n / 2 ^ d ∧ Toward.zero.cut false n d = n / 2 ^ d := by
  have h : n / (1 <<< min d (n.log2 + 2)) = n / 2 ^ d := by
    rw [Nat.shiftLeft_eq, Nat.one_mul]
    by_cases h : d ≤ n.log2 + 2
    · rw [Nat.min_eq_left h]
    · rw [Nat.min_eq_right (by omega)]
      have a : n < 2 ^ (n.log2 + 1) := Nat.lt_log2_self
      have b : 2 ^ (n.log2 + 1) ≤ 2 ^ (n.log2 + 2) := Nat.pow_le_pow_right (by omega) (by omega)
      have c : 2 ^ (n.log2 + 1) ≤ 2 ^ d := Nat.pow_le_pow_right (by omega) (by omega)
      rw [Nat.div_eq_of_lt (by omega), Nat.div_eq_of_lt (by omega)]
  unfold Toward.cut
  simp only [h, Bool.false_and, Bool.not_false, Bool.true_and]
  exact ⟨rfl, rfl⟩
theorem valN_thousand : valN FloatKind.f64.format 4652007308841189376 = 1000 * 2 ^ (0 - FloatKind.f64.format.leastPlace).toNat := Nat.eq_of_beq_eq_true (by kernel_rfl)
/-- A double of at most a thousand, and its whole part. -/
theorem whole {x : Nat} (h : x ≤ 4652007308841189376) : ∃ m e, FloatKind.f64.format.read x = .number false m e ∧ (m <<< e.toNat) / 2 ^ (-e).toNat ≤ 1000 := by
  have ei : FloatKind.f64.format.infRung = 9218868437227405312 := by decide +kernel
  obtain ⟨L, hL⟩ : ∃ L : Nat, FloatKind.f64.format.leastPlace = -(L : Int) := ⟨1074, by decide +kernel⟩
  obtain ⟨m, e, h1, h2, h3⟩ := read_pos FloatKind.f64.format (x := x) (by rw [ei]; omega)
  have hv : valN FloatKind.f64.format x ≤ valN FloatKind.f64.format 4652007308841189376 := valN_le.2 h
  have e0 : (0 - -(L : Int)).toNat = L := by omega
  rw [← h3, valN_thousand, hL, e0] at hv
  rw [hL] at h2
  refine ⟨m, e, h1, ?_⟩
  rw [Nat.shiftLeft_eq]
  by_cases hc : 0 ≤ e
  · have e1 : (-e).toNat = 0 := by omega
    rw [e1, Nat.pow_zero, Nat.div_one]
    have e2 : (e - -(L : Int)).toNat = e.toNat + L := by omega
    rw [e2, Nat.pow_add, ← Nat.mul_assoc] at hv
    exact Nat.le_of_mul_le_mul_right hv (Nat.pow_pos (by omega))
  · have e1 : e.toNat = 0 := by omega
    rw [e1, Nat.pow_zero, Nat.mul_one]
    have e2 : 2 ^ L = 2 ^ (-e).toNat * 2 ^ (e - -(L : Int)).toNat := by
      rw [← Nat.pow_add]
      congr 1
      omega
    rw [e2, ← Nat.mul_assoc] at hv
    have hv2 := Nat.le_of_mul_le_mul_right hv (Nat.pow_pos (by omega))
    apply Nat.div_le_of_le_mul
    rw [Nat.mul_comm]
    exact hv2
theorem floor_le {x : Nat} (h : x ≤ 4652007308841189376) : F.floor x ≤ 4652007308841189376 := by
  obtain ⟨m, e, h1, h2⟩ := whole h
  unfold F.floor FloatKind.decode
  rw [h1]
  simp only [Datum.integral, cut_down.1]
  generalize (m <<< e.toNat) / 2 ^ (-e).toNat = K at *
  have e1 : FloatKind.f64.nearest 1000 = 4652007308841189376 := by decide +kernel
  have h3 := (int_bits (k := .f64) (a := ((K : Nat) : Int)) (b := 1000) (Int.natCast_nonneg _) (by omega)).1
  rw [e1] at h3
  have e2 : FloatKind.f64.nearest ((K : Nat) : Int) = FloatKind.f64.encode (.number false K 0) := by
    unfold FloatKind.nearest
    have : decide (((K : Nat) : Int) < 0) = false := decide_eq_false (by omega)
    rw [this, Int.natAbs_natCast]
  rw [e2] at h3
  exact h3
theorem toInt_le {x : Nat} (h : x ≤ 4652007308841189376) : F.toIntOk .f64 .i64 x = true ∧ 0 ≤ F.toInt .f64 x ∧ F.toInt .f64 x ≤ 1000 := by
  obtain ⟨m, e, h1, h2⟩ := whole h
  have h3 : (FloatKind.f64.decode x).toInt .zero = some (((m <<< e.toNat) / 2 ^ (-e).toNat : Nat) : Int) := by
    unfold FloatKind.decode
    rw [h1]
    simp only [Datum.toInt, Datum.integral, cut_down.2, signed, Nat.shiftLeft_zero, Bool.false_eq_true, if_false]
  unfold F.toIntOk F.toInt
  rw [h3]
  generalize (m <<< e.toNat) / 2 ^ (-e).toNat = K at *
  simp only [Option.getD_some]
  have e1 : IntKind.i64.min = -9223372036854775808 := by decide
  have e2 : IntKind.i64.max = 9223372036854775807 := by decide
  rw [e1, e2]
  refine ⟨?_, Int.natCast_nonneg _, by omega⟩
  rw [Bool.and_eq_true]
  exact ⟨decide_eq_true (by omega), decide_eq_true (by omega)⟩
theorem conv_le {x : Nat} (h : x ≤ 1148846080) : F.conv .f32 .f64 x ≤ 4652007308841189376 := by
  have ei : FloatKind.f32.format.infRung = 2139095040 := by decide +kernel
  have el : FloatKind.f64.format.leastPlace ≤ FloatKind.f32.format.leastPlace := by decide +kernel
  have key : ∀ z, z < FloatKind.f32.format.infRung → F.conv .f32 .f64 z = RgN FloatKind.f64.format (valN FloatKind.f32.format z * 2 ^ (FloatKind.f32.format.leastPlace - FloatKind.f64.format.leastPlace).toNat) FloatKind.f64.format.leastPlace := by
    intro z hz
    obtain ⟨m, e, h1, h2, h3⟩ := read_pos FloatKind.f32.format hz
    unfold F.conv FloatKind.decode
    rw [if_neg (by decide), h1]
    show FloatKind.f64.format.nearest false m e = _
    rw [nearest_RgN FloatKind.f64.format (b := FloatKind.f64.format.leastPlace) (by omega) (Int.le_refl _), ← h3, Nat.mul_assoc, ← Nat.pow_add]
    congr 3
    omega
  have e1 : F.conv .f32 .f64 1148846080 = 4652007308841189376 := by decide +kernel
  rw [← e1, key _ (by rw [ei]; omega), key _ (by rw [ei]; omega)]
  exact RgN_mono _ (Int.le_refl _) (Nat.mul_le_mul_right _ (valN_le.2 h))
/-- The floor of a part of a sum times a number up to a thousand. -/
theorem part_ok {p s : Nat} {t : Int} (hp : F.le .f32 0 p = true) (fp : F.fin .f32 p = true) (hs : F.le .f32 0 s = true) (fs : F.fin .f32 s = true) (h0 : s % FloatKind.f32.format.signWeight ≠ 0)
    (hle : p % FloatKind.f32.format.signWeight ≤ s % FloatKind.f32.format.signWeight) (t0 : 0 ≤ t) (t1 : t ≤ 1000) :
    isNan .f64 (F.conv .f32 .f64 (F.mul .f32 (F.div .f32 p s) (FloatKind.f32.nearest t))) = false ∧
    F.toIntOk .f64 .i64 (F.floor (F.conv .f32 .f64 (F.mul .f32 (F.div .f32 p s) (FloatKind.f32.nearest t)))) = true ∧
    0 ≤ F.toInt .f64 (F.floor (F.conv .f32 .f64 (F.mul .f32 (F.div .f32 p s) (FloatKind.f32.nearest t)))) ∧
    F.toInt .f64 (F.floor (F.conv .f32 .f64 (F.mul .f32 (F.div .f32 p s) (FloatKind.f32.nearest t)))) ≤ 1000 := by
  have ei : FloatKind.f64.format.infRung = 9218868437227405312 := by decide +kernel
  rcases mul_part (div_part hp fp hs fs h0 hle) t0 t1 with h | h
  · have h1 := conv_le h
    exact ⟨nan_pos (by rw [ei]; omega), toInt_le (floor_le h1)⟩
  · rw [h]
    decide +kernel
/-! Parts of sums, in terms -/
/-- Is a number one of the summands? -/
def inSum (pc : PC) (p : Tm) : Tm → Bool
  | .op o a b => match p.beq (.op o a b) with
    | true => true
    | false => match Nat.beq o.n (Opc.fadd .f32).n, nnT pc .f32 a, nnT pc .f32 b with
      | true, true, true => match inSum pc p a with
        | true => true
        | false => inSum pc p b
      | _, _, _ => false
  | t => p.beq t
theorem inSum_ok {E : Env} {pc : PC} (hp : PcOk E pc) {p : Tm} : ∀ {s : Tm}, inSum pc p s = true → F.le .f32 0 (s.den E).toF = true → F.fin .f32 (s.den E).toF = true →
    F.le .f32 0 (p.den E).toF = true ∧ F.fin .f32 (p.den E).toF = true ∧ (p.den E).toF % FloatKind.f32.format.signWeight ≤ (s.den E).toF % FloatKind.f32.format.signWeight := by
  have base : ∀ {s : Tm}, p.beq s = true → F.le .f32 0 (s.den E).toF = true → F.fin .f32 (s.den E).toF = true →
      F.le .f32 0 (p.den E).toF = true ∧ F.fin .f32 (p.den E).toF = true ∧ (p.den E).toF % FloatKind.f32.format.signWeight ≤ (s.den E).toF % FloatKind.f32.format.signWeight := by
    intro s h h1 h2
    rw [Tm.beq_eq h]
    exact ⟨h1, h2, Nat.le_refl _⟩
  intro s
  induction s with
  | op o a b iha ihb =>
    intro h h1 h2
    simp only [inSum] at h
    split at h
    · rename_i hb
      exact base hb h1 h2
    · split at h
      · rename_i ho ha hb
        have ho' : o = .fadd .f32 := Opc.n_inj (Nat.eq_of_beq_eq_true ho)
        subst ho'
        have a0 := nnT_ok hp ha
        have b0 := nnT_ok hp hb
        have h3 : F.fin .f32 (F.add .f32 (a.den E).toF (b.den E).toF) = true := h2
        have fx : F.fin .f32 (a.den E).toF = true := by
          cases hh : F.fin .f32 (a.den E).toF with
          | true => rfl
          | false => rw [add_nf (.inl hh)] at h3; cases h3
        have fy : F.fin .f32 (b.den E).toF = true := by
          cases hh : F.fin .f32 (b.den E).toF with
          | true => rfl
          | false => rw [add_nf (.inr hh)] at h3; cases h3
        obtain ⟨g1, g2⟩ := add_ge a0 b0 h3
        split at h
        · rename_i hh
          obtain ⟨q1, q2, q3⟩ := iha hh a0 fx
          exact ⟨q1, q2, Nat.le_trans q3 g1⟩
        · obtain ⟨q1, q2, q3⟩ := ihb h b0 fy
          exact ⟨q1, q2, Nat.le_trans q3 g2⟩
      · cases h
  | _ => intro h h1 h2; exact base h h1 h2
/-- Is some summand known to be above nought? -/
def posIn (pc : PC) (s : Tm) : PC → Bool
  | [] => false
  | (.op o (.fl z) x, true) :: r => match Nat.beq o.n (Opc.flt .f32).n, Nat.beq z 0, inSum pc x s with
    | true, true, true => true
    | _, _, _ => posIn pc s r
  | _ :: r => posIn pc s r
theorem posIn_ok {E : Env} {pc : PC} (hp : PcOk E pc) {s : Tm} (h1 : F.le .f32 0 (s.den E).toF = true) (h2 : F.fin .f32 (s.den E).toF = true) : ∀ {l : PC}, PcOk E l → posIn pc s l = true → (s.den E).toF % FloatKind.f32.format.signWeight ≠ 0 := by
  intro l
  induction l with
  | nil => intro _ h; cases h
  | cons a r ih =>
    intro hl h
    have hr : PcOk E r := fun p hp => hl p (List.mem_cons_of_mem _ hp)
    unfold posIn at h
    split at h
    · rename_i q; cases q
    · rename_i o z x r' q
      cases q
      split at h
      · rename_i q1 q2 q3
        have ho : o = .flt .f32 := Opc.n_inj (Nat.eq_of_beq_eq_true q1)
        have hz := Nat.eq_of_beq_eq_true q2
        subst ho hz
        have h3 : F.lt .f32 0 (x.den E).toF = true := hl _ (List.mem_cons_self ..)
        obtain ⟨_, _, g⟩ := inSum_ok hp q3 h1 h2
        have := lt_nz h3
        omega
      · exact ih hr h
    · rename_i q
      cases q
      exact ih hr h
/-- The part of a sum, times a small number: what is known of its floor. -/
def partT (pc : PC) : Tm → Bool
  | .op o1 (.op o2 (.op o3 p s) (.op o4 n _)) _ => match Nat.beq o1.n (Opc.conv .f32 .f64).n, Nat.beq o2.n (Opc.fmul .f32).n, Nat.beq o3.n (Opc.fdiv .f32).n, Nat.beq o4.n (Opc.i2f .f32).n with
    | true, true, true, true => match nnT pc .f32 s, fin0 pc .f32 s, inSum pc p s, posIn pc s pc, decB pc (.op .lei (.il 0) n), decB pc (.op .lei n (.il 1000)) with
      | true, true, true, true, some true, some true => true
      | _, _, _, _, _, _ => false
    | _, _, _, _ => false
  | _ => false
def partF (q : Tm) : PC := [(.op (.fnan .f64) q .nil, false), (.op (.f2iok .f64 .i64) (.op .ffloor q .nil) .nil, true), (.op .lei (.il 0) (.op (.f2i .f64) (.op .ffloor q .nil) .nil), true), (.op .lei (.op (.f2i .f64) (.op .ffloor q .nil) .nil) (.il 1000), true)]
theorem partF_ok {E : Env} {pc : PC} (hp : PcOk E pc) {q : Tm} (h : partT pc q = true) : PcOk E (partF q ++ pc) := by
  unfold partT at h
  split at h
  · rename_i o1 o2 o3 p s o4 n z4 z1
    split at h
    · rename_i q1 q2 q3 q4
      have e1 : o1 = .conv .f32 .f64 := Opc.n_inj (Nat.eq_of_beq_eq_true q1)
      have e2 : o2 = .fmul .f32 := Opc.n_inj (Nat.eq_of_beq_eq_true q2)
      have e3 : o3 = .fdiv .f32 := Opc.n_inj (Nat.eq_of_beq_eq_true q3)
      have e4 : o4 = .i2f .f32 := Opc.n_inj (Nat.eq_of_beq_eq_true q4)
      subst e1 e2 e3 e4
      split at h
      · rename_i r1 r2 r3 r4 r5 r6
        have s0 := nnT_ok hp r1
        have sf := fin0_ok hp r2
        obtain ⟨p0, pf, ple⟩ := inSum_ok hp r3 s0 sf
        have sp := posIn_ok hp s0 sf hp r4
        have n0 : (0 : Int) ≤ (n.den E).toI := of_decide_eq_true (decB_ok hp _ r5)
        have n1 : (n.den E).toI ≤ 1000 := of_decide_eq_true (decB_ok hp _ r6)
        obtain ⟨k1, k2, k3, k4⟩ := part_ok p0 pf s0 sf sp ple n0 n1
        intro x hx
        simp only [partF, List.cons_append, List.nil_append, List.mem_cons] at hx
        rcases hx with rfl | rfl | rfl | rfl | hx
        · exact k1
        · exact k2
        · exact decide_eq_true k3
        · exact decide_eq_true k4
        · exact hp x hx
      · cases h
    · cases h
  · cases h
end Go.Sx
