/- Floats that are not below nought are ordered as their words are; sums, products and quotients of them. No condition. -/
import Derived.Test.YtfaamogbkekjcaaSxMono
import Derived.Laws.FloatBits
set_option linter.unusedVariables false
set_option linter.unusedSimpArgs false
noncomputable section
namespace Go.Sx
open Go Ieee

theorem word_pos (f : Format) (r : Nat) : f.word false r = r := by simp [Format.word]
theorem inf_lt_sign (f : Format) : f.infRung < f.signWeight := f.infRung_lt

/-- What a word stands for that is not below nought and finite, in units of the format's least place. -/
def valN (f : Format) (x : Nat) : Nat := if x < f.binade then x else (f.binade + x % f.binade) * 2 ^ (x / f.binade - 1)
theorem binade_pos (f : Format) : 0 < f.binade := Nat.pow_pos (by omega)
/-- What is read of such a word. -/
theorem read_pos (f : Format) {x : Nat} (h : x < f.infRung) : ∃ m e, f.read x = .number false m e ∧ f.leastPlace ≤ e ∧ m * 2 ^ (e - f.leastPlace).toNat = valN f x := by
  have hs := inf_lt_sign f
  have h1 : x / f.signWeight = 0 := Nat.div_eq_of_lt (by omega)
  have h2 : x % f.signWeight = x := Nat.mod_eq_of_lt (by omega)
  unfold Format.read valN
  simp only [h1, h2]
  by_cases hb : x < f.binade
  · rw [if_pos hb, if_pos hb]
    exact ⟨x, _, rfl, Int.le_refl _, by simp⟩
  · rw [if_neg hb, if_pos h, if_neg hb]
    exact ⟨_, _, rfl, by omega, by congr 2; omega⟩
theorem valN_zero {f : Format} {x : Nat} : valN f x = 0 ↔ x = 0 := by
  have hp := binade_pos f
  unfold valN
  by_cases hb : x < f.binade
  · rw [if_pos hb]
  · rw [if_neg hb]
    constructor
    · intro h
      have := Nat.mul_eq_zero.1 h
      rcases this with h | h
      · omega
      · have : 0 < 2 ^ (x / f.binade - 1) := Nat.pow_pos (by omega)
        omega
    · intro h; omega
/-- A word that is read is written again. -/
theorem Rg_valN (f : Format) {x : Nat} (h0 : x ≠ 0) : Rg f (valN f x) f.leastPlace = x := by
  have hp := binade_pos f
  unfold Rg lastP valN
  by_cases hb : x < f.binade
  · rw [if_pos hb]
    have hl : x.log2 < f.fractionBits := (Nat.log2_lt h0).2 (by unfold Format.binade at hb; exact hb)
    have e : max (f.leastPlace + (x.log2 : Int) - f.fractionBits) f.leastPlace = f.leastPlace := by omega
    rw [e]
    have := rne_exact (n := x) (d := 0)
    simpa using this
  · rw [if_neg hb]
    have hm : x % f.binade < f.binade := Nat.mod_lt _ hp
    have hm0 : f.binade + x % f.binade ≠ 0 := by omega
    have hlg : (f.binade + x % f.binade).log2 = f.fractionBits := by
      have a1 : f.fractionBits ≤ (f.binade + x % f.binade).log2 := (Nat.le_log2 hm0).2 (by show f.binade ≤ _; omega)
      have a2 : (f.binade + x % f.binade).log2 < f.fractionBits + 1 := (Nat.log2_lt hm0).2 (by rw [Nat.pow_succ]; show _ < f.binade * 2; omega)
      omega
    rw [log2_shift hm0, hlg]
    have hq : 1 ≤ x / f.binade := (Nat.le_div_iff_mul_le hp).2 (by omega)
    have e : max (f.leastPlace + ((f.fractionBits + (x / f.binade - 1) : Nat) : Int) - f.fractionBits) f.leastPlace = f.leastPlace + ((x / f.binade - 1 : Nat) : Int) := by omega
    rw [e]
    have e2 : (f.leastPlace + ((x / f.binade - 1 : Nat) : Int) - f.leastPlace).toNat = x / f.binade - 1 := by omega
    rw [e2, rne_exact]
    have := Nat.div_add_mod x f.binade
    have h3 : (x / f.binade - 1) * f.binade + f.binade = x / f.binade * f.binade := by
      rw [← Nat.succ_mul]; congr 1; omega
    rw [Nat.mul_comm] at this
    omega
theorem valN_lt {f : Format} {x y : Nat} (h : x < y) : valN f x < valN f y := by
  rcases Nat.lt_or_ge (valN f x) (valN f y) with h1 | h1
  · exact h1
  · exfalso
    have hy : y ≠ 0 := by omega
    have hvy : valN f y ≠ 0 := fun e => hy (valN_zero.1 e)
    have hvx : valN f x ≠ 0 := by omega
    have hx : x ≠ 0 := fun e => hvx (valN_zero.2 e)
    have := Rg_mono f (Int.le_refl _) hvy h1
    rw [Rg_valN f hy, Rg_valN f hx] at this
    omega
theorem valN_le {f : Format} {x y : Nat} : valN f x ≤ valN f y ↔ x ≤ y := by
  constructor
  · intro h
    rcases Nat.lt_or_ge y x with h1 | h1
    · have := valN_lt (f := f) h1; omega
    · exact h1
  · intro h
    rcases Nat.eq_or_lt_of_le h with h1 | h1
    · subst h1; exact Nat.le_refl _
    · exact Nat.le_of_lt (valN_lt h1)

/-- A whole number of least units as a word. -/
def RgN (f : Format) (N : Nat) (b : Int) : Nat := if N = 0 then 0 else min (Rg f N b) f.infRung
theorem RgN_mono (f : Format) {N M : Nat} {b : Int} (hb : b ≤ f.leastPlace) (h : N ≤ M) : RgN f N b ≤ RgN f M b := by
  unfold RgN
  by_cases h0 : N = 0
  · rw [if_pos h0]; exact Nat.zero_le _
  · rw [if_neg h0, if_neg (by omega)]
    have := Rg_mono f hb h0 h
    omega
theorem RgN_le (f : Format) (N : Nat) (b : Int) : RgN f N b ≤ f.infRung := by
  unfold RgN
  split
  · exact Nat.zero_le _
  · exact Nat.min_le_right ..
theorem nearest_RgN (f : Format) {mag : Nat} {place b : Int} (h1 : b ≤ place) (h2 : b ≤ f.leastPlace) : f.nearest false mag place = RgN f (mag * 2 ^ (place - b).toNat) b := by
  unfold RgN
  by_cases hm : mag = 0
  · subst hm; simp [Format.nearest, word_pos]
  · rw [nearest_Rg f false hm h1 h2, word_pos, if_neg (Nat.mul_ne_zero hm (Nat.ne_of_gt (Nat.pow_pos (by omega))))]

theorem fin_pos {k : FloatKind} {x : Nat} (h : x < k.format.infRung) : F.fin k x = true := by
  obtain ⟨m, e, h1, _⟩ := read_pos k.format h
  unfold F.fin
  rw [h1]
theorem signed_pos (m u : Nat) : signed false m u = ((m * 2 ^ u : Nat) : Int) := by simp [signed, Nat.shiftLeft_eq]
/-- The order of words is the order of what they stand for. -/
theorem order_pos {k : FloatKind} {x y : Nat} (hx : x < k.format.infRung) (hy : y < k.format.infRung) : k.format.order x y = some (compare x y) := by
  obtain ⟨m, i, h1, h2, h3⟩ := read_pos k.format hx
  obtain ⟨n, j, g1, g2, g3⟩ := read_pos k.format hy
  unfold Format.order
  rw [h1, g1]
  simp only [Datum.order, signed_pos]
  congr 1
  have hp : 0 < 2 ^ (min i j - k.format.leastPlace).toNat := Nat.pow_pos (by omega)
  have e1 : m * 2 ^ (i - min i j).toNat * 2 ^ (min i j - k.format.leastPlace).toNat = valN k.format x := by
    rw [← h3, Nat.mul_assoc, ← Nat.pow_add]; congr 2; omega
  have e2 : n * 2 ^ (j - min i j).toNat * 2 ^ (min i j - k.format.leastPlace).toNat = valN k.format y := by
    rw [← g3, Nat.mul_assoc, ← Nat.pow_add]; congr 2; omega
  generalize m * 2 ^ (i - min i j).toNat = A at *
  generalize n * 2 ^ (j - min i j).toNat = B at *
  generalize 2 ^ (min i j - k.format.leastPlace).toNat = p at *
  rcases Nat.lt_trichotomy x y with h | h | h
  · have := valN_lt (f := k.format) h
    rw [← e1, ← e2] at this
    have hAB : A < B := Nat.lt_of_mul_lt_mul_right this
    rw [Nat.compare_eq_lt.2 h]
    exact Int.compare_eq_lt.2 (by omega)
  · subst h
    rw [← e2] at e1
    have hAB : A = B := Nat.eq_of_mul_eq_mul_right hp e1
    subst hAB
    rw [Nat.compare_eq_eq.2 rfl]
    exact Int.compare_eq_eq.2 rfl
  · have := valN_lt (f := k.format) h
    rw [← e1, ← e2] at this
    have hAB : B < A := Nat.lt_of_mul_lt_mul_right this
    rw [Nat.compare_eq_gt.2 h]
    exact Int.compare_eq_gt.2 (by omega)
theorem le_pos {k : FloatKind} {x y : Nat} (hx : x < k.format.infRung) (hy : y < k.format.infRung) : F.le k x y = decide (x ≤ y) := by
  unfold F.le
  rw [order_pos hx hy]
  rcases Nat.lt_trichotomy x y with h | h | h
  · rw [Nat.compare_eq_lt.2 h]; simp; omega
  · rw [Nat.compare_eq_eq.2 h]; simp; omega
  · rw [Nat.compare_eq_gt.2 h]; simp; omega
theorem lt_pos {k : FloatKind} {x y : Nat} (hx : x < k.format.infRung) (hy : y < k.format.infRung) : F.lt k x y = decide (x < y) := by
  unfold F.lt
  rw [order_pos hx hy]
  rcases Nat.lt_trichotomy x y with h | h | h
  · rw [Nat.compare_eq_lt.2 h]; simp; omega
  · rw [Nat.compare_eq_eq.2 h]; simp; omega
  · rw [Nat.compare_eq_gt.2 h]; simp; omega

theorem add_pos {k : FloatKind} {x y : Nat} (hx : x < k.format.infRung) (hy : y < k.format.infRung) : F.add k x y = RgN k.format (valN k.format x + valN k.format y) k.format.leastPlace := by
  obtain ⟨m, i, h1, h2, h3⟩ := read_pos k.format hx
  obtain ⟨n, j, g1, g2, g3⟩ := read_pos k.format hy
  unfold F.add Format.add
  rw [h1, g1]
  simp only [Datum.sum, signed_pos, Option.map_some, Option.getD_some, Bool.and_self]
  have e0 : (if ((m * 2 ^ (i - min i j).toNat : Nat) : Int) + ((n * 2 ^ (j - min i j).toNat : Nat) : Int) = 0 then false else decide (((m * 2 ^ (i - min i j).toNat : Nat) : Int) + ((n * 2 ^ (j - min i j).toNat : Nat) : Int) < 0)) = false := by
    split
    · rfl
    · exact decide_eq_false (by omega)
  rw [e0]
  simp only [Format.write]
  rw [nearest_RgN k.format (b := k.format.leastPlace) (by omega) (Int.le_refl _)]
  congr 1
  have e1 : (((m * 2 ^ (i - min i j).toNat : Nat) : Int) + ((n * 2 ^ (j - min i j).toNat : Nat) : Int)).natAbs = m * 2 ^ (i - min i j).toNat + n * 2 ^ (j - min i j).toNat := by omega
  rw [e1, Nat.add_mul, Nat.mul_assoc, Nat.mul_assoc, ← Nat.pow_add, ← Nat.pow_add, ← h3, ← g3]
  congr 3 <;> omega
theorem mul_pos {k : FloatKind} {x y : Nat} (hx : x < k.format.infRung) (hy : y < k.format.infRung) : F.mul k x y = RgN k.format (valN k.format x * valN k.format y) (k.format.leastPlace + k.format.leastPlace) := by
  have hlp : k.format.leastPlace ≤ 0 := by cases k <;> decide
  obtain ⟨m, i, h1, h2, h3⟩ := read_pos k.format hx
  obtain ⟨n, j, g1, g2, g3⟩ := read_pos k.format hy
  unfold F.mul Format.mul
  rw [h1, g1]
  simp only [Datum.product, Option.map_some, Option.getD_some, Bool.xor_self, Format.write]
  rw [nearest_RgN k.format (b := k.format.leastPlace + k.format.leastPlace) (by omega) (by omega)]
  congr 1
  rw [← h3, ← g3]
  have : (i + j - (k.format.leastPlace + k.format.leastPlace)).toNat = (i - k.format.leastPlace).toNat + (j - k.format.leastPlace).toNat := by omega
  rw [this, Nat.pow_add, Nat.mul_mul_mul_comm]
theorem add_bits {k : FloatKind} {x y x' y' : Nat} (hx : x ≤ x') (hy : y ≤ y') (hx' : x' < k.format.infRung) (hy' : y' < k.format.infRung) : F.add k x y ≤ F.add k x' y' := by
  rw [add_pos (by omega) (by omega), add_pos hx' hy']
  exact RgN_mono _ (Int.le_refl _) (Nat.add_le_add (valN_le.2 hx) (valN_le.2 hy))
theorem mul_bits {k : FloatKind} {x y x' y' : Nat} (hx : x ≤ x') (hy : y ≤ y') (hx' : x' < k.format.infRung) (hy' : y' < k.format.infRung) : F.mul k x y ≤ F.mul k x' y' := by
  have hlp : k.format.leastPlace ≤ 0 := by cases k <;> decide
  rw [mul_pos (by omega) (by omega), mul_pos hx' hy']
  exact RgN_mono _ (by omega) (Nat.mul_le_mul (valN_le.2 hx) (valN_le.2 hy))
theorem add_top {k : FloatKind} {x y : Nat} (hx : x < k.format.infRung) (hy : y < k.format.infRung) : F.add k x y ≤ k.format.infRung := by
  rw [add_pos hx hy]; exact RgN_le ..
theorem mul_top {k : FloatKind} {x y : Nat} (hx : x < k.format.infRung) (hy : y < k.format.infRung) : F.mul k x y ≤ k.format.infRung := by
  rw [mul_pos hx hy]; exact RgN_le ..
theorem int_bits {k : FloatKind} {a b : Int} (ha : 0 ≤ a) (h : a ≤ b) : k.nearest a ≤ k.nearest b ∧ k.nearest b ≤ k.format.infRung := by
  have hlp : k.format.leastPlace ≤ 0 := by cases k <;> decide
  have key : ∀ n : Int, 0 ≤ n → k.nearest n = RgN k.format (n.natAbs * 2 ^ (0 - k.format.leastPlace).toNat) k.format.leastPlace := fun n hn => by
    unfold FloatKind.nearest FloatKind.encode Format.write
    have : decide (n < 0) = false := decide_eq_false (by omega)
    rw [this]
    exact nearest_RgN k.format (by omega) (Int.le_refl _)
  rw [key a ha, key b (by omega)]
  exact ⟨RgN_mono _ (Int.le_refl _) (Nat.mul_le_mul_right _ (by omega)), RgN_le ..⟩
/-- A quotient by one or more is at most twice the number. -/
theorem div_bits {k : FloatKind} {x y : Nat} (hx : x < k.format.infRung) (hy : y < k.format.infRung) (h1 : 2 ^ (0 - k.format.leastPlace).toNat ≤ valN k.format y) : F.div k x y ≤ RgN k.format (valN k.format x + valN k.format x) k.format.leastPlace := by
  have hlp : k.format.leastPlace ≤ 0 := by cases k <;> decide
  obtain ⟨m, i, h1', h2, h3⟩ := read_pos k.format hx
  obtain ⟨n, j, g1, g2, g3⟩ := read_pos k.format hy
  have hn : n ≠ 0 := by
    rintro rfl
    have : 0 < 2 ^ (0 - k.format.leastPlace).toNat := Nat.pow_pos (by omega)
    rw [← g3] at h1
    omega
  unfold F.div Format.div
  rw [h1', g1]
  simp only [Datum.quotient, if_neg hn, Option.map_some, Option.getD_some, Bool.xor_self, Format.write, Nat.shiftLeft_eq]
  by_cases hm : m = 0
  · subst hm
    have e : (2 * (0 * 2 ^ (k.format.fractionBits + 2 + n.log2 - Nat.log2 0) / n) + (0 * 2 ^ (k.format.fractionBits + 2 + n.log2 - Nat.log2 0) % n != 0).toNat) = 0 := by simp
    rw [e]
    have : k.format.nearest false 0 (i - j - (k.format.fractionBits + 2 + n.log2 - Nat.log2 0 : Nat) - 1) = 0 := by simp [Format.nearest, word_pos]
    rw [this]; exact Nat.zero_le _
  have hmore : n ≤ m * 2 ^ (k.format.fractionBits + 2 + n.log2 - m.log2) := by
    have a1 : 2 ^ m.log2 ≤ m := Nat.log2_self_le hm
    have a2 : n < 2 ^ (n.log2 + 1) := Nat.lt_log2_self
    have a3 : 2 ^ (n.log2 + 1) ≤ 2 ^ (m.log2 + (k.format.fractionBits + 2 + n.log2 - m.log2)) := Nat.pow_le_pow_right (by omega) (by omega)
    rw [Nat.pow_add 2 m.log2] at a3
    have a4 := Nat.mul_le_mul_right (2 ^ (k.format.fractionBits + 2 + n.log2 - m.log2)) a1
    omega
  revert hmore
  generalize k.format.fractionBits + 2 + n.log2 - m.log2 = more
  intro hmore
  -- a place far below
  have hb : ∃ b : Int, b ≤ i - j - more - 1 ∧ b ≤ k.format.leastPlace + k.format.leastPlace := ⟨min (i - j - more - 1) (k.format.leastPlace + k.format.leastPlace), by omega, by omega⟩
  obtain ⟨b, hb1, hb2⟩ := hb
  rw [nearest_RgN k.format (b := b) hb1 (by omega)]
  have e : RgN k.format (valN k.format x + valN k.format x) k.format.leastPlace = RgN k.format ((2 * m) * 2 ^ (i - b).toNat) b := by
    have e1 : valN k.format x + valN k.format x = (2 * m) * 2 ^ (i - k.format.leastPlace).toNat := by rw [← h3, Nat.mul_assoc]; omega
    rw [e1, ← nearest_RgN k.format h2 (Int.le_refl _), nearest_RgN k.format (b := b) (by omega) (by omega)]
  rw [e]
  apply RgN_mono _ (by omega)
  generalize hs : (m * 2 ^ more % n != 0).toNat = s
  have hs1 : s ≤ 1 := by rw [← hs]; exact Bool.toNat_le _
  have hS : (2 * (m * 2 ^ more / n) + s) * n ≤ 4 * (m * 2 ^ more) := by
    have h4 := Nat.div_mul_le_self (m * 2 ^ more) n
    have h5 := Nat.mul_le_mul_right n hs1
    generalize m * 2 ^ more / n = q at *
    rw [Nat.add_mul, Nat.mul_assoc]
    generalize q * n = qn at *
    generalize s * n = sn at *
    omega
  generalize 2 * (m * 2 ^ more / n) + s = A at *
  have hL : 0 < 2 ^ (0 - k.format.leastPlace).toNat := Nat.pow_pos (by omega)
  apply Nat.le_of_mul_le_mul_right _ hL
  have q1 : A * 2 ^ (0 - k.format.leastPlace).toNat ≤ A * (n * 2 ^ (j - k.format.leastPlace).toNat) := Nat.mul_le_mul_left _ (by rw [g3]; exact h1)
  have q2 : A * (n * 2 ^ (j - k.format.leastPlace).toNat) ≤ 4 * (m * 2 ^ more) * 2 ^ (j - k.format.leastPlace).toNat := by rw [← Nat.mul_assoc]; exact Nat.mul_le_mul_right _ hS
  have q3 := Nat.mul_le_mul_right (2 ^ (i - j - more - 1 - b).toNat) (Nat.le_trans q1 q2)
  have e5 : A * 2 ^ (i - j - more - 1 - b).toNat * 2 ^ (0 - k.format.leastPlace).toNat = A * 2 ^ (0 - k.format.leastPlace).toNat * 2 ^ (i - j - more - 1 - b).toNat := by
    rw [Nat.mul_assoc, Nat.mul_assoc]; congr 1; exact Nat.mul_comm ..
  have e6 : 2 * m * 2 ^ (i - b).toNat * 2 ^ (0 - k.format.leastPlace).toNat = 4 * (m * 2 ^ more) * 2 ^ (j - k.format.leastPlace).toNat * 2 ^ (i - j - more - 1 - b).toNat := by
    have p1 : 2 ^ (i - b).toNat * 2 ^ (0 - k.format.leastPlace).toNat = 2 ^ 1 * 2 ^ more * 2 ^ (j - k.format.leastPlace).toNat * 2 ^ (i - j - more - 1 - b).toNat := by
      rw [← Nat.pow_add, ← Nat.pow_add, ← Nat.pow_add, ← Nat.pow_add]; congr 1; omega
    rw [Nat.mul_assoc, p1]
    have : 4 * (m * 2 ^ more) = 2 * m * (2 ^ 1 * 2 ^ more) := by
      rw [Nat.pow_one, ← Nat.mul_assoc (2 * m), Nat.mul_right_comm 2 m 2, Nat.mul_assoc]
    rw [this]
    simp only [Nat.mul_assoc]
  rw [e5, e6]
  exact q3
theorem fin_word {k : FloatKind} {neg : Bool} {r : Nat} (h : r < k.format.infRung) : F.fin k (k.format.word neg r) = true := by
  have hs := inf_lt_sign k.format
  cases neg with
  | false => rw [word_pos]; exact fin_pos h
  | true =>
    have e : k.format.word true r = k.format.signWeight + r := by simp [Format.word]
    have e1 : (k.format.signWeight + r) % k.format.signWeight = r := by rw [Nat.add_mod_left]; exact Nat.mod_eq_of_lt (by omega)
    unfold F.fin Format.read
    rw [e]
    simp only [e1]
    by_cases hb : r < k.format.binade
    · rw [if_pos hb]
    · rw [if_neg hb, if_pos h]
/-- What a word stands for that is finite and not below nought (it may be the other nought). -/
theorem okfin_val {k : FloatKind} {x : Nat} (h0 : F.le k 0 x = true) (hf : F.fin k x = true) : ∃ s m i, k.format.read x = .number s m i ∧ k.format.leastPlace ≤ i ∧ (s = true → m = 0) ∧ m * 2 ^ (i - k.format.leastPlace).toNat ≤ valN k.format (k.format.infRung - 1) := by
  rw [le0_iff] at h0
  unfold F.fin at hf
  have key : ∀ s m i, k.format.read x = .number s m i → k.format.leastPlace ≤ i ∧ m * 2 ^ (i - k.format.leastPlace).toNat ≤ valN k.format (k.format.infRung - 1) := by
    intro s m i hr
    have hlt : x % k.format.signWeight < k.format.infRung := by
      rcases Nat.lt_or_ge (x % k.format.signWeight) k.format.infRung with h | h
      · exact h
      · exfalso
        have hb : k.format.binade ≤ k.format.infRung := by cases k <;> decide
        unfold Format.read at hr
        simp only at hr
        rw [if_neg (by omega), if_neg (by omega)] at hr
        split at hr <;> cases hr
    have hmod : (x % k.format.signWeight) % k.format.signWeight = x % k.format.signWeight := Nat.mod_mod ..
    obtain ⟨m', i', g1, g2, g3⟩ := read_pos k.format hlt
    have same : ∃ s', k.format.read x = .number s' m' i' := by
      unfold Format.read at g1 ⊢
      simp only [hmod] at g1 ⊢
      by_cases hb : x % k.format.signWeight < k.format.binade
      · rw [if_pos hb] at g1 ⊢
        simp only [Datum.number.injEq] at g1
        obtain ⟨_, rfl, rfl⟩ := g1
        exact ⟨_, rfl⟩
      · rw [if_neg hb, if_pos hlt] at g1 ⊢
        simp only [Datum.number.injEq] at g1
        obtain ⟨_, rfl, rfl⟩ := g1
        exact ⟨_, rfl⟩
    obtain ⟨s', hs'⟩ := same
    rw [hr] at hs'
    cases hs'
    exact ⟨g2, by rw [g3]; exact valN_le.2 (by omega)⟩
  cases hr : k.format.read x with
  | number s m i =>
    obtain ⟨g1, g2⟩ := key s m i hr
    refine ⟨s, m, i, rfl, g1, fun hs => ?_, g2⟩
    rw [hr] at h0
    simpa [okD, hs] using h0
  | infinity s => rw [hr] at hf; cases hf
  | nan s t => rw [hr] at hf; cases hf
/-- The difference of two such numbers is finite. -/
theorem sub_fin {k : FloatKind} {x y : Nat} (hx : F.le k 0 x = true) (fx : F.fin k x = true) (hy : F.le k 0 y = true) (fy : F.fin k y = true) : F.fin k (F.sub k x y) = true := by
  obtain ⟨s, m, i, h1, h2, h3, h4⟩ := okfin_val hx fx
  obtain ⟨t, n, j, g1, g2, g3, g4⟩ := okfin_val hy fy
  unfold F.sub Format.sub
  rw [h1, g1]
  simp only [Datum.opposite, Datum.sum, Option.map_some, Option.getD_some, Format.write]
  generalize hneg : (if signed s m (i - min i j).toNat + signed (!t) n (j - min i j).toNat = 0 then s && !t else decide (signed s m (i - min i j).toNat + signed (!t) n (j - min i j).toNat < 0)) = neg
  have a1 : signed s m (i - min i j).toNat = ((m * 2 ^ (i - min i j).toNat : Nat) : Int) := by
    cases s with
    | false => exact signed_pos m _
    | true => rw [h3 rfl]; simp [signed]
  have a2 : signed (!t) n (j - min i j).toNat = -((n * 2 ^ (j - min i j).toNat : Nat) : Int) := by
    cases t with
    | false => simp [signed, Nat.shiftLeft_eq]
    | true => rw [g3 rfl]; simp [signed]
  rw [a1, a2]
  have hmax : (((m * 2 ^ (i - min i j).toNat : Nat) : Int) + -((n * 2 ^ (j - min i j).toNat : Nat) : Int)).natAbs ≤ max (m * 2 ^ (i - min i j).toNat) (n * 2 ^ (j - min i j).toNat) := by omega
  generalize (((m * 2 ^ (i - min i j).toNat : Nat) : Int) + -((n * 2 ^ (j - min i j).toNat : Nat) : Int)).natAbs = mag at *
  by_cases hm : mag = 0
  · subst hm
    have e : k.format.nearest neg 0 (min i j) = k.format.word neg 0 := by simp [Format.nearest]
    rw [e]
    exact fin_word (by cases k <;> decide)
  · rw [nearest_Rg k.format neg hm (b := k.format.leastPlace) (by omega) (Int.le_refl _)]
    apply fin_word
    have e1 : m * 2 ^ (i - min i j).toNat * 2 ^ (min i j - k.format.leastPlace).toNat = m * 2 ^ (i - k.format.leastPlace).toNat := by
      rw [Nat.mul_assoc, ← Nat.pow_add]; congr 2; omega
    have e2 : n * 2 ^ (j - min i j).toNat * 2 ^ (min i j - k.format.leastPlace).toNat = n * 2 ^ (j - k.format.leastPlace).toNat := by
      rw [Nat.mul_assoc, ← Nat.pow_add]; congr 2; omega
    have e3 : mag * 2 ^ (min i j - k.format.leastPlace).toNat ≤ valN k.format (k.format.infRung - 1) := by
      rcases Nat.le_total (m * 2 ^ (i - min i j).toNat) (n * 2 ^ (j - min i j).toNat) with hc | hc
      · rw [Nat.max_eq_right hc] at hmax
        have := Nat.mul_le_mul_right (2 ^ (min i j - k.format.leastPlace).toNat) hmax
        rw [e2] at this
        omega
      · rw [Nat.max_eq_left hc] at hmax
        have := Nat.mul_le_mul_right (2 ^ (min i j - k.format.leastPlace).toNat) hmax
        rw [e1] at this
        omega
    have e4 := Rg_mono k.format (Int.le_refl _) (Nat.mul_ne_zero hm (Nat.ne_of_gt (Nat.pow_pos (by omega)))) e3
    have hi : 1 < k.format.infRung := by cases k <;> decide
    rw [Rg_valN k.format (by omega)] at e4
    omega
/-- The difference of two such numbers is not below nought, where the first is not the less. -/
theorem sub_nn {k : FloatKind} {x y : Nat} (hx : F.le k 0 x = true) (fx : F.fin k x = true) (hy : F.le k 0 y = true) (fy : F.fin k y = true) (hl : F.lt k x y = false) : F.le k 0 (F.sub k x y) = true := by
  obtain ⟨s, m, i, h1, h2, h3, h4⟩ := okfin_val hx fx
  obtain ⟨t, n, j, g1, g2, g3, g4⟩ := okfin_val hy fy
  have a0 : ∀ u, signed s m u = ((m * 2 ^ u : Nat) : Int) := fun u => by
    cases s with
    | false => exact signed_pos m _
    | true => rw [h3 rfl]; simp [signed]
  have b0 : ∀ u, signed t n u = ((n * 2 ^ u : Nat) : Int) := fun u => by
    cases t with
    | false => exact signed_pos n _
    | true => rw [g3 rfl]; simp [signed]
  have a2 : ∀ u, signed (!t) n u = -((n * 2 ^ u : Nat) : Int) := fun u => by
    cases t with
    | false => simp [signed, Nat.shiftLeft_eq]
    | true => rw [g3 rfl]; simp [signed]
  have hge : ((n * 2 ^ (j - min i j).toNat : Nat) : Int) ≤ ((m * 2 ^ (i - min i j).toNat : Nat) : Int) := by
    unfold F.lt Format.order at hl
    rw [h1, g1] at hl
    simp only [Datum.order, a0, b0] at hl
    rcases Int.lt_or_le ((m * 2 ^ (i - min i j).toNat : Nat) : Int) ((n * 2 ^ (j - min i j).toNat : Nat) : Int) with h | h
    · rw [Int.compare_eq_lt.2 h] at hl
      cases hl
    · exact h
  rw [le0_iff]
  unfold F.sub Format.sub
  rw [h1, g1]
  simp only [Datum.opposite, Datum.sum, Option.map_some, Option.getD_some]
  apply okD_write
  rw [a0, a2]
  simp only [okD]
  generalize ((m * 2 ^ (i - min i j).toNat : Nat) : Int) = A at *
  generalize ((n * 2 ^ (j - min i j).toNat : Nat) : Int) = B at *
  by_cases hz : A + -B = 0
  · rw [hz]; simp
  · rw [if_neg hz]
    have : ¬ A + -B < 0 := by omega
    simp [this]
theorem lt_self (k : FloatKind) (x : Nat) : F.lt k x x = false := by
  unfold F.lt Format.order
  cases k.format.read x with
  | number s m e => simp [Datum.order]
  | infinity s => cases s <;> simp [Datum.order]
  | nan s t => simp [Datum.order]
end Go.Sx
