/- Quotients and differences of floats that are not below nought, between bounds; Newton's step for the third root. No condition. -/
import Derived.Test.YtamljpeicecbjaaSxRoot
set_option linter.unusedVariables false
set_option linter.unusedSimpArgs false
noncomputable section
namespace Go.Sx
open Go Ieee

theorem nearest_neg (f : Format) (neg : Bool) (mag : Nat) (place : Int) : f.nearest neg mag place = f.word neg (f.nearest false mag place) := by
  by_cases hm : mag = 0
  · subst hm
    simp [Format.nearest, word_pos]
  · unfold Format.nearest
    rw [if_neg hm, if_neg hm, word_pos]
    simp only [cut_rne]
theorem read_neg {k : FloatKind} {x : Nat} (h : x < k.format.infRung) {m : Nat} {e : Int} (hr : k.format.read x = .number false m e) : k.format.read (k.format.word true x) = .number true m e := by
  have hs := inf_lt_sign k.format
  have e0 : k.format.word true x = k.format.signWeight + x := by simp [Format.word]
  have e1 : (k.format.signWeight + x) % k.format.signWeight = x := by rw [Nat.add_mod_left]; exact Nat.mod_eq_of_lt (by omega)
  have e2 : (k.format.signWeight + x) / k.format.signWeight = 1 := by
    rw [Nat.add_div_left _ (by omega)]
    rw [Nat.div_eq_of_lt (by omega)]
  have e3 : x % k.format.signWeight = x := Nat.mod_eq_of_lt (by omega)
  have e4 : x / k.format.signWeight = 0 := Nat.div_eq_of_lt (by omega)
  unfold Format.read at hr ⊢
  rw [e0]
  simp only [e1, e2, e3, e4] at hr ⊢
  by_cases hb : x < k.format.binade
  · rw [if_pos hb] at hr ⊢
    simp only [Datum.number.injEq] at hr ⊢
    exact ⟨by decide, hr.2⟩
  · rw [if_neg hb, if_pos h] at hr ⊢
    simp only [Datum.number.injEq] at hr ⊢
    exact ⟨by decide, hr.2⟩

/-- The difference, the second being at most the first. -/
theorem sub_pos {k : FloatKind} {x y : Nat} (hx : x < k.format.infRung) (hy : y ≤ x) : F.sub k x y = RgN k.format (valN k.format x - valN k.format y) k.format.leastPlace := by
  have hy' : y < k.format.infRung := by omega
  obtain ⟨m, i, h1, h2, h3⟩ := read_pos k.format hx
  obtain ⟨n, j, g1, g2, g3⟩ := read_pos k.format hy'
  unfold F.sub Format.sub
  rw [h1, g1]
  simp only [Datum.opposite, Datum.sum, Option.map_some, Option.getD_some, Format.write]
  have hp : 0 < 2 ^ (min i j - k.format.leastPlace).toNat := Nat.pow_pos (by omega)
  have e1 : m * 2 ^ (i - min i j).toNat * 2 ^ (min i j - k.format.leastPlace).toNat = valN k.format x := by
    rw [← h3, Nat.mul_assoc, ← Nat.pow_add]; congr 2; omega
  have e2 : n * 2 ^ (j - min i j).toNat * 2 ^ (min i j - k.format.leastPlace).toNat = valN k.format y := by
    rw [← g3, Nat.mul_assoc, ← Nat.pow_add]; congr 2; omega
  have hle : n * 2 ^ (j - min i j).toNat ≤ m * 2 ^ (i - min i j).toNat := by
    have := valN_le (f := k.format) |>.2 hy
    rw [← e1, ← e2] at this
    exact Nat.le_of_mul_le_mul_right this hp
  have s1 : signed false m (i - min i j).toNat = ((m * 2 ^ (i - min i j).toNat : Nat) : Int) := signed_pos m _
  have s2 : signed (!false) n (j - min i j).toNat = -((n * 2 ^ (j - min i j).toNat : Nat) : Int) := by simp [signed, Nat.shiftLeft_eq]
  rw [s1, s2]
  have hn : (if ((m * 2 ^ (i - min i j).toNat : Nat) : Int) + -((n * 2 ^ (j - min i j).toNat : Nat) : Int) = 0 then (false && !false) else decide (((m * 2 ^ (i - min i j).toNat : Nat) : Int) + -((n * 2 ^ (j - min i j).toNat : Nat) : Int) < 0)) = false := by
    split
    · rfl
    · exact decide_eq_false (by omega)
  rw [hn]
  rw [nearest_RgN k.format (b := k.format.leastPlace) (by omega) (Int.le_refl _)]
  congr 1
  have e3 : (((m * 2 ^ (i - min i j).toNat : Nat) : Int) + -((n * 2 ^ (j - min i j).toNat : Nat) : Int)).natAbs = m * 2 ^ (i - min i j).toNat - n * 2 ^ (j - min i j).toNat := by omega
  rw [e3, Nat.sub_mul, e1, e2]
/-- The difference, the second being greater. -/
theorem sub_less {k : FloatKind} {x y : Nat} (hy : y < k.format.infRung) (hx : x < y) : F.sub k x y = k.format.word true (F.sub k y x) := by
  have hx' : x < k.format.infRung := by omega
  obtain ⟨m, i, h1, h2, h3⟩ := read_pos k.format hx'
  obtain ⟨n, j, g1, g2, g3⟩ := read_pos k.format hy
  unfold F.sub Format.sub
  rw [h1, g1]
  simp only [Datum.opposite, Datum.sum, Option.map_some, Option.getD_some, Format.write]
  have hp : 0 < 2 ^ (min i j - k.format.leastPlace).toNat := Nat.pow_pos (by omega)
  have e1 : m * 2 ^ (i - min i j).toNat * 2 ^ (min i j - k.format.leastPlace).toNat = valN k.format x := by
    rw [← h3, Nat.mul_assoc, ← Nat.pow_add]; congr 2; omega
  have e2 : n * 2 ^ (j - min i j).toNat * 2 ^ (min i j - k.format.leastPlace).toNat = valN k.format y := by
    rw [← g3, Nat.mul_assoc, ← Nat.pow_add]; congr 2; omega
  have hlt : m * 2 ^ (i - min i j).toNat < n * 2 ^ (j - min i j).toNat := by
    have := valN_lt (f := k.format) hx
    rw [← e1, ← e2] at this
    exact Nat.lt_of_mul_lt_mul_right this
  have hc : min j i = min i j := by omega
  rw [hc]
  have s1 : signed false m (i - min i j).toNat = ((m * 2 ^ (i - min i j).toNat : Nat) : Int) := signed_pos m _
  have s2 : signed (!false) n (j - min i j).toNat = -((n * 2 ^ (j - min i j).toNat : Nat) : Int) := by simp [signed, Nat.shiftLeft_eq]
  have s3 : signed false n (j - min i j).toNat = ((n * 2 ^ (j - min i j).toNat : Nat) : Int) := signed_pos n _
  have s4 : signed (!false) m (i - min i j).toNat = -((m * 2 ^ (i - min i j).toNat : Nat) : Int) := by simp [signed, Nat.shiftLeft_eq]
  rw [s1, s2, s3, s4]
  generalize m * 2 ^ (i - min i j).toNat = A at *
  generalize n * 2 ^ (j - min i j).toNat = B at *
  rw [if_neg (by omega), if_neg (by omega)]
  have d1 : decide ((A : Int) + -(B : Int) < 0) = true := decide_eq_true (by omega)
  have d2 : decide ((B : Int) + -(A : Int) < 0) = false := decide_eq_false (by omega)
  rw [d1, d2, nearest_neg]
  congr 2
  omega
theorem div_neg {k : FloatKind} {x y : Nat} (hx : x < k.format.infRung) (hy : y < k.format.infRung) (h0 : y ≠ 0) : F.div k (k.format.word true x) y = k.format.word true (F.div k x y) := by
  obtain ⟨m, i, h1, h2, h3⟩ := read_pos k.format hx
  obtain ⟨n, j, g1, g2, g3⟩ := read_pos k.format hy
  have hn : n ≠ 0 := by
    rintro rfl
    rw [Nat.zero_mul] at g3
    exact h0 (valN_zero.1 g3.symm)
  unfold F.div Format.div
  rw [read_neg hx h1, h1, g1]
  simp only [Datum.quotient, if_neg hn, Option.map_some, Option.getD_some, Format.write]
  rw [show (true ^^ false) = true from rfl, show (false ^^ false) = false from rfl, nearest_neg]
theorem sub_word {k : FloatKind} {x y : Nat} (hy : y < k.format.infRung) : F.sub k x (k.format.word true y) = F.add k x y := by
  obtain ⟨n, j, g1, g2, g3⟩ := read_pos k.format hy
  unfold F.sub F.add Format.sub Format.add
  rw [read_neg hy g1, g1]
  rfl

/-- The parts of a quotient. -/
theorem div_parts {k : FloatKind} {x y : Nat} (hx : x < k.format.infRung) (hy : y < k.format.infRung) (h0 : y ≠ 0) (hx0 : x ≠ 0) : ∃ (A n j m more : Nat) (b : Int) (e : Nat),
    F.div k x y = RgN k.format (A * 2 ^ e) b ∧ b ≤ k.format.leastPlace ∧ n * 2 ^ j = valN k.format y ∧ A * n ≤ 2 * (m * 2 ^ more) + n ∧ 2 * (m * 2 ^ more) ≤ A * n + n ∧ n * 2 ^ (k.format.fractionBits + 1) ≤ m * 2 ^ more ∧ n ≠ 0 ∧
    2 * (m * 2 ^ more) * 2 ^ j * 2 ^ e = valN k.format x * 2 ^ (0 - b).toNat := by
  have hlp : k.format.leastPlace ≤ 0 := by cases k <;> decide
  obtain ⟨m, i, h1, h2, h3⟩ := read_pos k.format hx
  obtain ⟨n, j, g1, g2, g3⟩ := read_pos k.format hy
  have hn : n ≠ 0 := by
    rintro rfl
    rw [Nat.zero_mul] at g3
    exact h0 (valN_zero.1 g3.symm)
  have hm : m ≠ 0 := by
    rintro rfl
    rw [Nat.zero_mul] at h3
    exact hx0 (valN_zero.1 h3.symm)
  unfold F.div Format.div
  rw [h1, g1]
  simp only [Datum.quotient, if_neg hn, Option.map_some, Option.getD_some, Bool.xor_self, Format.write, Nat.shiftLeft_eq]
  have hmore : n * 2 ^ (k.format.fractionBits + 1) ≤ m * 2 ^ (k.format.fractionBits + 2 + n.log2 - m.log2) := by
    have a1 : 2 ^ m.log2 ≤ m := Nat.log2_self_le hm
    have a2 : n < 2 ^ (n.log2 + 1) := Nat.lt_log2_self
    have a3 : 2 ^ (n.log2 + 1 + (k.format.fractionBits + 1)) ≤ 2 ^ (m.log2 + (k.format.fractionBits + 2 + n.log2 - m.log2)) := Nat.pow_le_pow_right (by omega) (by omega)
    rw [Nat.pow_add 2 m.log2, Nat.pow_add 2 (n.log2 + 1)] at a3
    have a4 := Nat.mul_le_mul_right (2 ^ (k.format.fractionBits + 2 + n.log2 - m.log2)) a1
    have a5 := Nat.mul_le_mul_right (2 ^ (k.format.fractionBits + 1)) (Nat.le_of_lt a2)
    omega
  revert hmore
  generalize k.format.fractionBits + 2 + n.log2 - m.log2 = more
  intro hmore
  have hb : ∃ b : Int, b ≤ i - j - more - 1 ∧ b ≤ k.format.leastPlace + k.format.leastPlace := ⟨min (i - j - more - 1) (k.format.leastPlace + k.format.leastPlace), by omega, by omega⟩
  obtain ⟨b, hb1, hb2⟩ := hb
  rw [nearest_RgN k.format (b := b) hb1 (by omega)]
  generalize hs : (m * 2 ^ more % n != 0).toNat = s
  refine ⟨2 * (m * 2 ^ more / n) + s, n, (j - k.format.leastPlace).toNat, m, more, b, (i - j - more - 1 - b).toNat, rfl, by omega, g3, ?_, ?_, hmore, hn, ?_⟩
  · have h4 := Nat.div_mul_le_self (m * 2 ^ more) n
    have hs1 : s ≤ 1 := by rw [← hs]; exact Bool.toNat_le _
    have h5 := Nat.mul_le_mul_right n hs1
    rw [Nat.add_mul, Nat.mul_assoc]
    generalize m * 2 ^ more / n * n = qn at *
    generalize s * n = sn at *
    omega
  · have h4 := Nat.div_add_mod (m * 2 ^ more) n
    rw [Nat.mul_comm n] at h4
    have h5 := Nat.mod_lt (m * 2 ^ more) (Nat.pos_of_ne_zero hn)
    rw [Nat.add_mul, Nat.mul_assoc]
    by_cases hr : m * 2 ^ more % n = 0
    · generalize m * 2 ^ more / n * n = qn at *
      generalize s * n = sn at *
      omega
    · have : s = 1 := by rw [← hs]; simp [hr]
      subst this
      generalize m * 2 ^ more / n * n = qn at *
      omega
  · rw [← h3]
    have p1 : 2 ^ 1 * 2 ^ more * 2 ^ (j - k.format.leastPlace).toNat * 2 ^ (i - j - more - 1 - b).toNat = 2 ^ (i - k.format.leastPlace).toNat * 2 ^ (0 - b).toNat := by
      rw [← Nat.pow_add, ← Nat.pow_add, ← Nat.pow_add, ← Nat.pow_add]; congr 1; omega
    have : 2 * (m * 2 ^ more) * 2 ^ (j - k.format.leastPlace).toNat * 2 ^ (i - j - more - 1 - b).toNat = m * (2 ^ 1 * 2 ^ more * 2 ^ (j - k.format.leastPlace).toNat * 2 ^ (i - j - more - 1 - b).toNat) := by
      rw [Nat.pow_one]
      simp only [← Nat.mul_assoc]
      rw [Nat.mul_comm 2 m]
    rw [this, p1, Nat.mul_assoc]
theorem RgN_word {f : Format} {W : Nat} (hW : W < f.infRung) {b : Int} (hb : b ≤ f.leastPlace) : RgN f (valN f W * 2 ^ (f.leastPlace - b).toNat) b = W := by
  rw [← nearest_RgN f hb (by omega)]
  rw [nearest_RgN f (b := f.leastPlace) (Int.le_refl _) (Int.le_refl _)]
  simp only [Int.sub_self, Int.toNat_zero, Nat.pow_zero, Nat.mul_one]
  unfold RgN
  by_cases h0 : W = 0
  · subst h0; simp [valN_zero.2]
  · rw [if_neg (fun e => h0 (valN_zero.1 e)), Rg_valN f h0]
    omega
/-- A quotient is at most W. -/
theorem div_up {k : FloatKind} {x y W : Nat} (hx : x < k.format.infRung) (hy : y < k.format.infRung) (h0 : y ≠ 0) (hW : W < k.format.infRung)
    (h : valN k.format x * 2 ^ (0 - k.format.leastPlace).toNat * (2 ^ (k.format.fractionBits + 1) + 1) ≤ valN k.format W * valN k.format y * 2 ^ (k.format.fractionBits + 1)) : F.div k x y ≤ W := by
  have hlp : k.format.leastPlace ≤ 0 := by cases k <;> decide
  by_cases hx0 : x = 0
  · subst hx0
    obtain ⟨n, j, g1, g2, g3⟩ := read_pos k.format hy
    have hn : n ≠ 0 := by
      rintro rfl
      rw [Nat.zero_mul] at g3
      exact h0 (valN_zero.1 g3.symm)
    have hr : k.format.read 0 = .number false 0 k.format.leastPlace := by cases k <;> rfl
    unfold F.div Format.div
    rw [hr, g1]
    simp [Datum.quotient, if_neg hn, Format.write, Format.nearest, word_pos]
  obtain ⟨A, n, j, m, more, b, e, h1, h2, h3, h4, h5, h6, hn, h7⟩ := div_parts hx hy h0 hx0
  rw [h1, ← RgN_word hW h2]
  apply RgN_mono _ h2
  have hL : 0 < n * 2 ^ j * 2 ^ (k.format.fractionBits + 1) := Nat.mul_pos (Nat.mul_pos (Nat.pos_of_ne_zero hn) (Nat.pow_pos (by omega))) (Nat.pow_pos (by omega))
  apply Nat.le_of_mul_le_mul_right _ hL
  -- left
  have a1 : A * n * 2 ^ (k.format.fractionBits + 1) ≤ 2 * (m * 2 ^ more) * (2 ^ (k.format.fractionBits + 1) + 1) := by
    have := Nat.mul_le_mul_right (2 ^ (k.format.fractionBits + 1)) h4
    rw [Nat.add_mul] at this
    rw [Nat.mul_add, Nat.mul_one]
    omega
  have a2 := Nat.mul_le_mul_right (2 ^ j * 2 ^ e) a1
  have e1 : A * 2 ^ e * (n * 2 ^ j * 2 ^ (k.format.fractionBits + 1)) = A * n * 2 ^ (k.format.fractionBits + 1) * (2 ^ j * 2 ^ e) := by
    simp only [Nat.mul_assoc, Nat.mul_comm, Nat.mul_left_comm]
  have e2 : 2 * (m * 2 ^ more) * (2 ^ (k.format.fractionBits + 1) + 1) * (2 ^ j * 2 ^ e) = (2 * (m * 2 ^ more) * 2 ^ j * 2 ^ e) * (2 ^ (k.format.fractionBits + 1) + 1) := by
    generalize 2 ^ (k.format.fractionBits + 1) + 1 = g
    simp only [Nat.mul_assoc, Nat.mul_comm, Nat.mul_left_comm]
  rw [e1]
  refine Nat.le_trans a2 ?_
  rw [e2, h7, h3]
  have e3 : 2 ^ (0 - b).toNat = 2 ^ (0 - k.format.leastPlace).toNat * 2 ^ (k.format.leastPlace - b).toNat := by
    rw [← Nat.pow_add]; congr 1; omega
  rw [e3]
  have a3 := Nat.mul_le_mul_right (2 ^ (k.format.leastPlace - b).toNat) h
  have e4 : valN k.format x * (2 ^ (0 - k.format.leastPlace).toNat * 2 ^ (k.format.leastPlace - b).toNat) * (2 ^ (k.format.fractionBits + 1) + 1) = valN k.format x * 2 ^ (0 - k.format.leastPlace).toNat * (2 ^ (k.format.fractionBits + 1) + 1) * 2 ^ (k.format.leastPlace - b).toNat := by
    generalize 2 ^ (k.format.fractionBits + 1) + 1 = g
    simp only [Nat.mul_assoc, Nat.mul_comm, Nat.mul_left_comm]
  have e5 : valN k.format W * 2 ^ (k.format.leastPlace - b).toNat * (valN k.format y * 2 ^ (k.format.fractionBits + 1)) = valN k.format W * valN k.format y * 2 ^ (k.format.fractionBits + 1) * 2 ^ (k.format.leastPlace - b).toNat := by
    simp only [Nat.mul_assoc, Nat.mul_comm, Nat.mul_left_comm]
  rw [e4, e5]
  exact a3
/-- A quotient is at least W. -/
theorem div_down {k : FloatKind} {x y W : Nat} (hx : x < k.format.infRung) (hy : y < k.format.infRung) (h0 : y ≠ 0) (hW : W < k.format.infRung)
    (h : valN k.format W * valN k.format y * 2 ^ (k.format.fractionBits + 1) ≤ valN k.format x * 2 ^ (0 - k.format.leastPlace).toNat * (2 ^ (k.format.fractionBits + 1) - 1)) : W ≤ F.div k x y := by
  have hlp : k.format.leastPlace ≤ 0 := by cases k <;> decide
  by_cases hx0 : x = 0
  · subst hx0
    have hz : valN k.format 0 = 0 := valN_zero.2 rfl
    rw [hz, Nat.zero_mul, Nat.zero_mul] at h
    have hp : 0 < 2 ^ (k.format.fractionBits + 1) := Nat.pow_pos (by omega)
    have h1 := Nat.le_zero.1 h
    rcases Nat.mul_eq_zero.1 h1 with h2 | h2
    · rcases Nat.mul_eq_zero.1 h2 with h3 | h3
      · rw [valN_zero.1 h3]; exact Nat.zero_le _
      · exact absurd (valN_zero.1 h3) h0
    · omega
  obtain ⟨A, n, j, m, more, b, e, h1, h2, h3, h4, h5, h6, hn, h7⟩ := div_parts hx hy h0 hx0
  rw [h1, ← RgN_word hW h2]
  apply RgN_mono _ h2
  have hL : 0 < n * 2 ^ j * 2 ^ (k.format.fractionBits + 1) := Nat.mul_pos (Nat.mul_pos (Nat.pos_of_ne_zero hn) (Nat.pow_pos (by omega))) (Nat.pow_pos (by omega))
  apply Nat.le_of_mul_le_mul_right _ hL
  have hp : 0 < 2 ^ (k.format.fractionBits + 1) := Nat.pow_pos (by omega)
  have a1 : 2 * (m * 2 ^ more) * (2 ^ (k.format.fractionBits + 1) - 1) ≤ A * n * 2 ^ (k.format.fractionBits + 1) := by
    have := Nat.mul_le_mul_right (2 ^ (k.format.fractionBits + 1)) h5
    rw [Nat.add_mul] at this
    rw [Nat.mul_sub, Nat.mul_one]
    omega
  have a2 := Nat.mul_le_mul_right (2 ^ j * 2 ^ e) a1
  have e1 : A * 2 ^ e * (n * 2 ^ j * 2 ^ (k.format.fractionBits + 1)) = A * n * 2 ^ (k.format.fractionBits + 1) * (2 ^ j * 2 ^ e) := by
    simp only [Nat.mul_assoc, Nat.mul_comm, Nat.mul_left_comm]
  have e2 : 2 * (m * 2 ^ more) * (2 ^ (k.format.fractionBits + 1) - 1) * (2 ^ j * 2 ^ e) = (2 * (m * 2 ^ more) * 2 ^ j * 2 ^ e) * (2 ^ (k.format.fractionBits + 1) - 1) := by
    generalize 2 ^ (k.format.fractionBits + 1) - 1 = g
    simp only [Nat.mul_assoc, Nat.mul_comm, Nat.mul_left_comm]
  rw [e1]
  refine Nat.le_trans ?_ a2
  rw [e2, h7, h3]
  have e3 : 2 ^ (0 - b).toNat = 2 ^ (0 - k.format.leastPlace).toNat * 2 ^ (k.format.leastPlace - b).toNat := by
    rw [← Nat.pow_add]; congr 1; omega
  rw [e3]
  have a3 := Nat.mul_le_mul_right (2 ^ (k.format.leastPlace - b).toNat) h
  have e4 : valN k.format x * (2 ^ (0 - k.format.leastPlace).toNat * 2 ^ (k.format.leastPlace - b).toNat) * (2 ^ (k.format.fractionBits + 1) - 1) = valN k.format x * 2 ^ (0 - k.format.leastPlace).toNat * (2 ^ (k.format.fractionBits + 1) - 1) * 2 ^ (k.format.leastPlace - b).toNat := by
    generalize 2 ^ (k.format.fractionBits + 1) - 1 = g
    simp only [Nat.mul_assoc, Nat.mul_comm, Nat.mul_left_comm]
  have e5 : valN k.format W * 2 ^ (k.format.leastPlace - b).toNat * (valN k.format y * 2 ^ (k.format.fractionBits + 1)) = valN k.format W * valN k.format y * 2 ^ (k.format.fractionBits + 1) * 2 ^ (k.format.leastPlace - b).toNat := by
    simp only [Nat.mul_assoc, Nat.mul_comm, Nat.mul_left_comm]
  rw [e4, e5]
  exact a3
end Go.Sx
