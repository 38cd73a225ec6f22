/- Quotients and differences of floats that are not below nought, between bounds; Newton's step for the third root. No condition. -/
import Derived.Test.YtamljpeicecbjaaGreatSxNum
import Derived.KernelRfl
set_option linter.unusedVariables false
set_option linter.unusedSimpArgs false
noncomputable section
namespace Go.Sx
open Go Ieee

theorem nearest_neg (f : Format) (neg : Bool) (mag : Nat) (place : Int) : f.nearest neg mag place = f.word neg (f.nearest false mag place) := by
  by_cases hm : mag = 0
  · subst hm
    simp [Format.nearest, word_pos]
  · unfold Format.nearest
    rw [if_neg hm, if_neg hm, word_pos]
    simp only [cut_rne]
theorem read_neg {k : FloatKind} {x : Nat} (h : x < k.format.infRung) {m : Nat} {e : Int} (hr : k.format.read x = .number false m e) : k.format.read (k.format.word true x) = .number true m e := by
  have hs := inf_lt_sign k.format
  have e0 : k.format.word true x = k.format.signWeight + x := by simp [Format.word]
  have e1 : (k.format.signWeight + x) % k.format.signWeight = x := by rw [Nat.add_mod_left]; exact Nat.mod_eq_of_lt (by omega)
  have e2 : (k.format.signWeight + x) / k.format.signWeight = 1 := by
    rw [Nat.add_div_left _ (by omega)]
    rw [Nat.div_eq_of_lt (by omega)]
  have e3 : x % k.format.signWeight = x := Nat.mod_eq_of_lt (by omega)
  have e4 : x / k.format.signWeight = 0 := Nat.div_eq_of_lt (by omega)
  unfold Format.read at hr ⊢
  rw [e0]
  simp only [e1, e2, e3, e4] at hr ⊢
  by_cases hb : x < k.format.binade
  · rw [if_pos hb] at hr ⊢
    simp only [Datum.number.injEq] at hr ⊢
    exact ⟨by decide, hr.2⟩
  · rw [if_neg hb, if_pos h] at hr ⊢
    simp only [Datum.number.injEq] at hr ⊢
    exact ⟨by decide, hr.2⟩

/-- The difference, the second being at most the first. -/
theorem sub_pos {k : FloatKind} {x y : Nat} (hx : x < k.format.infRung) (hy : y ≤ x) : F.sub k x y = RgN k.format (valN k.format x - valN k.format y) k.format.leastPlace := by
  have hy' : y < k.format.infRung := by omega
  obtain ⟨m, i, h1, h2, h3⟩ := read_pos k.format hx
  obtain ⟨n, j, g1, g2, g3⟩ := read_pos k.format hy'
  unfold F.sub Format.sub
  rw [h1, g1]
  simp only [Datum.opposite, Datum.sum, Option.map_some, Option.getD_some, Format.write]
  have hp : 0 < 2 ^ (min i j - k.format.leastPlace).toNat := Nat.pow_pos (by omega)
  have e1 : m * 2 ^ (i - min i j).toNat * 2 ^ (min i j - k.format.leastPlace).toNat = valN k.format x := by
    rw [← h3, Nat.mul_assoc, ← Nat.pow_add]; congr 2; omega
  have e2 : n * 2 ^ (j - min i j).toNat * 2 ^ (min i j - k.format.leastPlace).toNat = valN k.format y := by
    rw [← g3, Nat.mul_assoc, ← Nat.pow_add]; congr 2; omega
  have hle : n * 2 ^ (j - min i j).toNat ≤ m * 2 ^ (i - min i j).toNat := by
    have := valN_le (f := k.format) |>.2 hy
    rw [← e1, ← e2] at this
    exact Nat.le_of_mul_le_mul_right this hp
  have s1 : signed false m (i - min i j).toNat = ((m * 2 ^ (i - min i j).toNat : Nat) : Int) := signed_pos m _
  have s2 : signed (!false) n (j - min i j).toNat = -((n * 2 ^ (j - min i j).toNat : Nat) : Int) := by simp [signed, Nat.shiftLeft_eq]
  rw [s1, s2]
  have hn : (if ((m * 2 ^ (i - min i j).toNat : Nat) : Int) + -((n * 2 ^ (j - min i j).toNat : Nat) : Int) = 0 then (false && !false) else decide (((m * 2 ^ (i - min i j).toNat : Nat) : Int) + -((n * 2 ^ (j - min i j).toNat : Nat) : Int) < 0)) = false := by
    split
    · rfl
    · exact decide_eq_false (by omega)
  rw [hn]
  rw [nearest_RgN k.format (b := k.format.leastPlace) (by omega) (Int.le_refl _)]
  congr 1
  have e3 : (((m * 2 ^ (i - min i j).toNat : Nat) : Int) + -((n * 2 ^ (j - min i j).toNat : Nat) : Int)).natAbs = m * 2 ^ (i - min i j).toNat - n * 2 ^ (j - min i j).toNat := by omega
  rw [e3, Nat.sub_mul, e1, e2]
/-- The difference, the second being greater. -/
theorem sub_less {k : FloatKind} {x y : Nat} (hy : y < k.format.infRung) (hx : x < y) : F.sub k x y = k.format.word true (F.sub k y x) := by
  have hx' : x < k.format.infRung := by omega
  obtain ⟨m, i, h1, h2, h3⟩ := read_pos k.format hx'
  obtain ⟨n, j, g1, g2, g3⟩ := read_pos k.format hy
  unfold F.sub Format.sub
  rw [h1, g1]
  simp only [Datum.opposite, Datum.sum, Option.map_some, Option.getD_some, Format.write]
  have hp : 0 < 2 ^ (min i j - k.format.leastPlace).toNat := Nat.pow_pos (by omega)
  have e1 : m * 2 ^ (i - min i j).toNat * 2 ^ (min i j - k.format.leastPlace).toNat = valN k.format x := by
    rw [← h3, Nat.mul_assoc, ← Nat.pow_add]; congr 2; omega
  have e2 : n * 2 ^ (j - min i j).toNat * 2 ^ (min i j - k.format.leastPlace).toNat = valN k.format y := by
    rw [← g3, Nat.mul_assoc, ← Nat.pow_add]; congr 2; omega
  have hlt : m * 2 ^ (i - min i j).toNat < n * 2 ^ (j - min i j).toNat := by
    have := valN_lt (f := k.format) hx
    rw [← e1, ← e2] at this
    exact Nat.lt_of_mul_lt_mul_right this
  have hc : min j i = min i j := by omega
  rw [hc]
  have s1 : signed false m (i - min i j).toNat = ((m * 2 ^ (i - min i j).toNat : Nat) : Int) := signed_pos m _
  have s2 : signed (!false) n (j - min i j).toNat = -((n * 2 ^ (j - min i j).toNat : Nat) : Int) := by simp [signed, Nat.shiftLeft_eq]
  have s3 : signed false n (j - min i j).toNat = ((n * 2 ^ (j - min i j).toNat : Nat) : Int) := signed_pos n _
  have s4 : signed (!false) m (i - min i j).toNat = -((m * 2 ^ (i - min i j).toNat : Nat) : Int) := by simp [signed, Nat.shiftLeft_eq]
  rw [s1, s2, s3, s4]
  generalize m * 2 ^ (i - min i j).toNat = A at *
  generalize n * 2 ^ (j - min i j).toNat = B at *
  rw [if_neg (by omega), if_neg (by omega)]
  have d1 : decide ((A : Int) + -(B : Int) < 0) = true := decide_eq_true (by omega)
  have d2 : decide ((B : Int) + -(A : Int) < 0) = false := decide_eq_false (by omega)
  rw [d1, d2, nearest_neg]
  congr 2
  omega
theorem div_neg {k : FloatKind} {x y : Nat} (hx : x < k.format.infRung) (hy : y < k.format.infRung) (h0 : y ≠ 0) : F.div k (k.format.word true x) y = k.format.word true (F.div k x y) := by
  obtain ⟨m, i, h1, h2, h3⟩ := read_pos k.format hx
  obtain ⟨n, j, g1, g2, g3⟩ := read_pos k.format hy
  have hn : n ≠ 0 := by
    rintro rfl
    rw [Nat.zero_mul] at g3
    exact h0 (valN_zero.1 g3.symm)
  unfold F.div Format.div
  rw [read_neg hx h1, h1, g1]
  simp only [Datum.quotient, if_neg hn, Option.map_some, Option.getD_some, Format.write]
  rw [show (true ^^ false) = true from rfl, show (false ^^ false) = false from rfl, nearest_neg]
theorem sub_word {k : FloatKind} {x y : Nat} (hy : y < k.format.infRung) : F.sub k x (k.format.word true y) = F.add k x y := by
  obtain ⟨n, j, g1, g2, g3⟩ := read_pos k.format hy
  unfold F.sub F.add Format.sub Format.add
  rw [read_neg hy g1, g1]
  rfl

/-- The parts of a quotient. -/
theorem div_parts {k : FloatKind} {x y : Nat} (hx : x < k.format.infRung) (hy : y < k.format.infRung) (h0 : y ≠ 0) (hx0 : x ≠ 0) : ∃ (A n j m more : Nat) (b : Int) (e : Nat),
    F.div k x y = RgN k.format (A * 2 ^ e) b ∧ b ≤ k.format.leastPlace ∧ n * 2 ^ j = valN k.format y ∧ A * n ≤ 2 * (m * 2 ^ more) + n ∧ 2 * (m * 2 ^ more) ≤ A * n + n ∧ n * 2 ^ (k.format.fractionBits + 1) ≤ m * 2 ^ more ∧ n ≠ 0 ∧
    2 * (m * 2 ^ more) * 2 ^ j * 2 ^ e = valN k.format x * 2 ^ (0 - b).toNat := by
  have hlp : k.format.leastPlace ≤ 0 := by cases k <;> decide
  obtain ⟨m, i, h1, h2, h3⟩ := read_pos k.format hx
  obtain ⟨n, j, g1, g2, g3⟩ := read_pos k.format hy
  have hn : n ≠ 0 := by
    rintro rfl
    rw [Nat.zero_mul] at g3
    exact h0 (valN_zero.1 g3.symm)
  have hm : m ≠ 0 := by
    rintro rfl
    rw [Nat.zero_mul] at h3
    exact hx0 (valN_zero.1 h3.symm)
  unfold F.div Format.div
  rw [h1, g1]
  simp only [Datum.quotient, if_neg hn, Option.map_some, Option.getD_some, Bool.xor_self, Format.write, Nat.shiftLeft_eq]
  have hmore : n * 2 ^ (k.format.fractionBits + 1) ≤ m * 2 ^ (k.format.fractionBits + 2 + n.log2 - m.log2) := by
    have a1 : 2 ^ m.log2 ≤ m := Nat.log2_self_le hm
    have a2 : n < 2 ^ (n.log2 + 1) := Nat.lt_log2_self
    have a3 : 2 ^ (n.log2 + 1 + (k.format.fractionBits + 1)) ≤ 2 ^ (m.log2 + (k.format.fractionBits + 2 + n.log2 - m.log2)) := Nat.pow_le_pow_right (by omega) (by omega)
    rw [Nat.pow_add 2 m.log2, Nat.pow_add 2 (n.log2 + 1)] at a3
    have a4 := Nat.mul_le_mul_right (2 ^ (k.format.fractionBits + 2 + n.log2 - m.log2)) a1
    have a5 := Nat.mul_le_mul_right (2 ^ (k.format.fractionBits + 1)) (Nat.le_of_lt a2)
    omega
  revert hmore
  generalize k.format.fractionBits + 2 + n.log2 - m.log2 = more
  intro hmore
  have hb : ∃ b : Int, b ≤ i - j - more - 1 ∧ b ≤ k.format.leastPlace + k.format.leastPlace := ⟨min (i - j - more - 1) (k.format.leastPlace + k.format.leastPlace), by omega, by omega⟩
  obtain ⟨b, hb1, hb2⟩ := hb
  rw [nearest_RgN k.format (b := b) hb1 (by omega)]
  generalize hs : (m * 2 ^ more % n != 0).toNat = s
  refine ⟨2 * (m * 2 ^ more / n) + s, n, (j - k.format.leastPlace).toNat, m, more, b, (i - j - more - 1 - b).toNat, rfl, by omega, g3, ?_, ?_, hmore, hn, ?_⟩
  · have h4 := Nat.div_mul_le_self (m * 2 ^ more) n
    have hs1 : s ≤ 1 := by rw [← hs]; exact Bool.toNat_le _
    have h5 := Nat.mul_le_mul_right n hs1
    rw [Nat.add_mul, Nat.mul_assoc]
    generalize m * 2 ^ more / n * n = qn at *
    generalize s * n = sn at *
    omega
  · have h4 := Nat.div_add_mod (m * 2 ^ more) n
    rw [Nat.mul_comm n] at h4
    have h5 := Nat.mod_lt (m * 2 ^ more) (Nat.pos_of_ne_zero hn)
    rw [Nat.add_mul, Nat.mul_assoc]
    by_cases hr : m * 2 ^ more % n = 0
    · generalize m * 2 ^ more / n * n = qn at *
      generalize s * n = sn at *
      omega
    · have : s = 1 := by rw [← hs]; simp [hr]
      subst this
      generalize m * 2 ^ more / n * n = qn at *
      omega
  · rw [← h3]
    have p1 : 2 ^ 1 * 2 ^ more * 2 ^ (j - k.format.leastPlace).toNat * 2 ^ (i - j - more - 1 - b).toNat = 2 ^ (i - k.format.leastPlace).toNat * 2 ^ (0 - b).toNat := by
      rw [← Nat.pow_add, ← Nat.pow_add, ← Nat.pow_add, ← Nat.pow_add]; congr 1; omega
    have : 2 * (m * 2 ^ more) * 2 ^ (j - k.format.leastPlace).toNat * 2 ^ (i - j - more - 1 - b).toNat = m * (2 ^ 1 * 2 ^ more * 2 ^ (j - k.format.leastPlace).toNat * 2 ^ (i - j - more - 1 - b).toNat) := by
      rw [Nat.pow_one]
      simp only [← Nat.mul_assoc]
      rw [Nat.mul_comm 2 m]
    rw [this, p1, Nat.mul_assoc]
theorem RgN_word {f : Format} {W : Nat} (hW : W < f.infRung) {b : Int} (hb : b ≤ f.leastPlace) : RgN f (valN f W * 2 ^ (f.leastPlace - b).toNat) b = W := by
  rw [← nearest_RgN f hb (by omega)]
  rw [nearest_RgN f (b := f.leastPlace) (Int.le_refl _) (Int.le_refl _)]
  simp only [Int.sub_self, Int.toNat_zero, Nat.pow_zero, Nat.mul_one]
  unfold RgN
  by_cases h0 : W = 0
  · subst h0; simp [valN_zero.2]
  · rw [if_neg (fun e => h0 (valN_zero.1 e)), Rg_valN f h0]
    omega
/-- A quotient is at most W. -/
theorem div_up {k : FloatKind} {x y W : Nat} (hx : x < k.format.infRung) (hy : y < k.format.infRung) (h0 : y ≠ 0) (hW : W < k.format.infRung)
    (h : valN k.format x * 2 ^ (0 - k.format.leastPlace).toNat * (2 ^ (k.format.fractionBits + 1) + 1) ≤ valN k.format W * valN k.format y * 2 ^ (k.format.fractionBits + 1)) : F.div k x y ≤ W := by
  have hlp : k.format.leastPlace ≤ 0 := by cases k <;> decide
  by_cases hx0 : x = 0
  · subst hx0
    obtain ⟨n, j, g1, g2, g3⟩ := read_pos k.format hy
    have hn : n ≠ 0 := by
      rintro rfl
      rw [Nat.zero_mul] at g3
      exact h0 (valN_zero.1 g3.symm)
    have hr : k.format.read 0 = .number false 0 k.format.leastPlace := by cases k <;> rfl
    unfold F.div Format.div
    rw [hr, g1]
    simp [Datum.quotient, if_neg hn, Format.write, Format.nearest, word_pos]
  obtain ⟨A, n, j, m, more, b, e, h1, h2, h3, h4, h5, h6, hn, h7⟩ := div_parts hx hy h0 hx0
  rw [h1, ← RgN_word hW h2]
  apply RgN_mono _ h2
  have hL : 0 < n * 2 ^ j * 2 ^ (k.format.fractionBits + 1) := Nat.mul_pos (Nat.mul_pos (Nat.pos_of_ne_zero hn) (Nat.pow_pos (by omega))) (Nat.pow_pos (by omega))
  apply Nat.le_of_mul_le_mul_right _ hL
  -- left
  have a1 : A * n * 2 ^ (k.format.fractionBits + 1) ≤ 2 * (m * 2 ^ more) * (2 ^ (k.format.fractionBits + 1) + 1) := by
    have := Nat.mul_le_mul_right (2 ^ (k.format.fractionBits + 1)) h4
    rw [Nat.add_mul] at this
    rw [Nat.mul_add, Nat.mul_one]
    omega
  have a2 := Nat.mul_le_mul_right (2 ^ j * 2 ^ e) a1
  have e1 : A * 2 ^ e * (n * 2 ^ j * 2 ^ (k.format.fractionBits + 1)) = A * n * 2 ^ (k.format.fractionBits + 1) * (2 ^ j * 2 ^ e) := by
    simp only [Nat.mul_assoc, Nat.mul_comm, Nat.mul_left_comm]
  have e2 : 2 * (m * 2 ^ more) * (2 ^ (k.format.fractionBits + 1) + 1) * (2 ^ j * 2 ^ e) = (2 * (m * 2 ^ more) * 2 ^ j * 2 ^ e) * (2 ^ (k.format.fractionBits + 1) + 1) := by
    generalize 2 ^ (k.format.fractionBits + 1) + 1 = g
    simp only [Nat.mul_assoc, Nat.mul_comm, Nat.mul_left_comm]
  rw [e1]
  refine Nat.le_trans a2 ?_
  rw [e2, h7, h3]
  have e3 : 2 ^ (0 - b).toNat = 2 ^ (0 - k.format.leastPlace).toNat * 2 ^ (k.format.leastPlace - b).toNat := by
    rw [← Nat.pow_add]; congr 1; omega
  rw [e3]
  have a3 := Nat.mul_le_mul_right (2 ^ (k.format.leastPlace - b).toNat) h
  have e4 : valN k.format x * (2 ^ (0 - k.format.leastPlace).toNat * 2 ^ (k.format.leastPlace - b).toNat) * (2 ^ (k.format.fractionBits + 1) + 1) = valN k.format x * 2 ^ (0 - k.format.leastPlace).toNat * (2 ^ (k.format.fractionBits + 1) + 1) * 2 ^ (k.format.leastPlace - b).toNat := by
    generalize 2 ^ (k.format.fractionBits + 1) + 1 = g
    simp only [Nat.mul_assoc, Nat.mul_comm, Nat.mul_left_comm]
  have e5 : valN k.format W * 2 ^ (k.format.leastPlace - b).toNat * (valN k.format y * 2 ^ (k.format.fractionBits + 1)) = valN k.format W * valN k.format y * 2 ^ (k.format.fractionBits + 1) * 2 ^ (k.format.leastPlace - b).toNat := by
    simp only [Nat.mul_assoc, Nat.mul_comm, Nat.mul_left_comm]
  rw [e4, e5]
  exact a3
/-- A quotient is at least W. -/
theorem div_down {k : FloatKind} {x y W : Nat} (hx : x < k.format.infRung) (hy : y < k.format.infRung) (h0 : y ≠ 0) (hW : W < k.format.infRung)
    (h : valN k.format W * valN k.format y * 2 ^ (k.format.fractionBits + 1) ≤ valN k.format x * 2 ^ (0 - k.format.leastPlace).toNat * (2 ^ (k.format.fractionBits + 1) - 1)) : W ≤ F.div k x y := by
  have hlp : k.format.leastPlace ≤ 0 := by cases k <;> decide
  by_cases hx0 : x = 0
  · subst hx0
    have hz : valN k.format 0 = 0 := valN_zero.2 rfl
    rw [hz, Nat.zero_mul, Nat.zero_mul] at h
    have hp : 0 < 2 ^ (k.format.fractionBits + 1) := Nat.pow_pos (by omega)
    have h1 := Nat.le_zero.1 h
    rcases Nat.mul_eq_zero.1 h1 with h2 | h2
    · rcases Nat.mul_eq_zero.1 h2 with h3 | h3
      · rw [valN_zero.1 h3]; exact Nat.zero_le _
      · exact absurd (valN_zero.1 h3) h0
    · omega
  obtain ⟨A, n, j, m, more, b, e, h1, h2, h3, h4, h5, h6, hn, h7⟩ := div_parts hx hy h0 hx0
  rw [h1, ← RgN_word hW h2]
  apply RgN_mono _ h2
  have hL : 0 < n * 2 ^ j * 2 ^ (k.format.fractionBits + 1) := Nat.mul_pos (Nat.mul_pos (Nat.pos_of_ne_zero hn) (Nat.pow_pos (by omega))) (Nat.pow_pos (by omega))
  apply Nat.le_of_mul_le_mul_right _ hL
  have hp : 0 < 2 ^ (k.format.fractionBits + 1) := Nat.pow_pos (by omega)
  have a1 : 2 * (m * 2 ^ more) * (2 ^ (k.format.fractionBits + 1) - 1) ≤ A * n * 2 ^ (k.format.fractionBits + 1) := by
    have := Nat.mul_le_mul_right (2 ^ (k.format.fractionBits + 1)) h5
    rw [Nat.add_mul] at this
    rw [Nat.mul_sub, Nat.mul_one]
    omega
  have a2 := Nat.mul_le_mul_right (2 ^ j * 2 ^ e) a1
  have e1 : A * 2 ^ e * (n * 2 ^ j * 2 ^ (k.format.fractionBits + 1)) = A * n * 2 ^ (k.format.fractionBits + 1) * (2 ^ j * 2 ^ e) := by
    simp only [Nat.mul_assoc, Nat.mul_comm, Nat.mul_left_comm]
  have e2 : 2 * (m * 2 ^ more) * (2 ^ (k.format.fractionBits + 1) - 1) * (2 ^ j * 2 ^ e) = (2 * (m * 2 ^ more) * 2 ^ j * 2 ^ e) * (2 ^ (k.format.fractionBits + 1) - 1) := by
    generalize 2 ^ (k.format.fractionBits + 1) - 1 = g
    simp only [Nat.mul_assoc, Nat.mul_comm, Nat.mul_left_comm]
  rw [e1]
  refine Nat.le_trans ?_ a2
  rw [e2, h7, h3]
  have e3 : 2 ^ (0 - b).toNat = 2 ^ (0 - k.format.leastPlace).toNat * 2 ^ (k.format.leastPlace - b).toNat := by
    rw [← Nat.pow_add]; congr 1; omega
  rw [e3]
  have a3 := Nat.mul_le_mul_right (2 ^ (k.format.leastPlace - b).toNat) h
  have e4 : valN k.format x * (2 ^ (0 - k.format.leastPlace).toNat * 2 ^ (k.format.leastPlace - b).toNat) * (2 ^ (k.format.fractionBits + 1) - 1) = valN k.format x * 2 ^ (0 - k.format.leastPlace).toNat * (2 ^ (k.format.fractionBits + 1) - 1) * 2 ^ (k.format.leastPlace - b).toNat := by
    generalize 2 ^ (k.format.fractionBits + 1) - 1 = g
    simp only [Nat.mul_assoc, Nat.mul_comm, Nat.mul_left_comm]
  have e5 : valN k.format W * 2 ^ (k.format.leastPlace - b).toNat * (valN k.format y * 2 ^ (k.format.fractionBits + 1)) = valN k.format W * valN k.format y * 2 ^ (k.format.fractionBits + 1) * 2 ^ (k.format.leastPlace - b).toNat := by
    simp only [Nat.mul_assoc, Nat.mul_comm, Nat.mul_left_comm]
  rw [e4, e5]
  exact a3
end Go.Sx
set_option linter.unusedVariables false
set_option linter.unusedSimpArgs false
noncomputable section
namespace Go.Sx
open Go Ieee

theorem blt_lt {a b : Nat} (h : Nat.blt a b = true) : a < b := by simpa [Nat.blt_eq] using h
def e1074 : Nat := 2 ^ (0 - FloatKind.f64.format.leastPlace).toNat
def e53 : Nat := 2 ^ (FloatKind.f64.format.fractionBits + 1)
def c1 : Nat := 4607182418800017408
def c15 : Nat := 4609434218613702656
def c2 : Nat := 4611686018427387904
def c3 : Nat := 4613937818241073152
def c8 : Nat := 4620693217682128896
def c64 : Nat := 4634204016564240384
def infD : Nat := 9218868437227405312
theorem infD_eq : FloatKind.f64.format.infRung = infD := by decide
theorem lpD : FloatKind.f64.format.leastPlace = -1074 := by decide
theorem fbD : FloatKind.f64.format.fractionBits = 52 := by decide

def newt (b r : Nat) : Nat := F.sub .f64 r (F.div .f64 (F.sub .f64 (F.mul .f64 (F.mul .f64 r r) r) b) (F.mul .f64 (F.mul .f64 c3 r) r))

theorem sub_bits {k : FloatKind} {x y x' y' : Nat} (hx : x ≤ x') (hy : y' ≤ y) (hyx : y ≤ x) (hx' : x' < k.format.infRung) : F.sub k x y ≤ F.sub k x' y' := by
  rw [sub_pos (by omega) hyx, sub_pos hx' (by omega)]
  refine RgN_mono _ (Int.le_refl _) ?_
  have h1 := valN_le (f := k.format) |>.2 hx
  have h2 := valN_le (f := k.format) |>.2 hy
  omega
theorem RgN_self {k : FloatKind} {x : Nat} (hx : x < k.format.infRung) : RgN k.format (valN k.format x) k.format.leastPlace = x := by
  have := RgN_word (f := k.format) hx (b := k.format.leastPlace) (Int.le_refl _)
  simpa using this
theorem sub_le_self {k : FloatKind} {x y : Nat} (hx : x < k.format.infRung) (hy : y ≤ x) : F.sub k x y ≤ x := by
  rw [sub_pos hx hy]
  conv => rhs; rw [← RgN_self hx]
  exact RgN_mono _ (Int.le_refl _) (Nat.sub_le ..)
theorem le_add_self {k : FloatKind} {x y : Nat} (hx : x < k.format.infRung) (hy : y < k.format.infRung) : x ≤ F.add k x y := by
  rw [add_pos hx hy]
  conv => lhs; rw [← RgN_self hx]
  exact RgN_mono _ (Int.le_refl _) (Nat.le_add_right ..)

def divU (x y W : Nat) : Bool := Nat.blt 0 y && (Nat.blt W infD && Nat.ble (valN FloatKind.f64.format x * e1074 * (e53 + 1)) (valN FloatKind.f64.format W * valN FloatKind.f64.format y * e53))
def divD (x y W : Nat) : Bool := Nat.blt W infD && Nat.ble (valN FloatKind.f64.format W * valN FloatKind.f64.format y * e53) (valN FloatKind.f64.format x * e1074 * (e53 - 1))
theorem divU_ok {X Y W x y : Nat} (h : divU X Y W = true) (hx : x ≤ X) (hy : Y ≤ y) (hX : X < infD) (hyi : y < infD) : F.div .f64 x y ≤ W := by
  unfold divU at h
  simp only [Bool.and_eq_true] at h
  obtain ⟨h0, hW, h⟩ := h
  have h0' : 0 < Y := blt_lt h0
  have hW' : W < infD := blt_lt hW
  have h' := Nat.le_of_ble_eq_true h
  refine div_up (k := .f64) (by rw [infD_eq]; omega) (by rw [infD_eq]; exact hyi) (by omega) (by rw [infD_eq]; exact hW') ?_
  show _ * e1074 * (e53 + 1) ≤ _ * _ * e53
  have a1 := valN_le (f := FloatKind.f64.format) |>.2 hx
  have a2 := valN_le (f := FloatKind.f64.format) |>.2 hy
  have b1 := Nat.mul_le_mul_right (e1074 * (e53 + 1)) a1
  have b2 := Nat.mul_le_mul_right (e53) (Nat.mul_le_mul_left (valN FloatKind.f64.format W) a2)
  rw [← Nat.mul_assoc, ← Nat.mul_assoc] at b1
  exact Nat.le_trans (Nat.le_trans b1 h') b2
theorem divD_ok {X Y W x y : Nat} (h : divD X Y W = true) (hx : X ≤ x) (hy : y ≤ Y) (hxi : x < infD) (hY : Y < infD) (hy0 : y ≠ 0) : W ≤ F.div .f64 x y := by
  unfold divD at h
  simp only [Bool.and_eq_true] at h
  obtain ⟨hW, h⟩ := h
  have hW' : W < infD := blt_lt hW
  have h' := Nat.le_of_ble_eq_true h
  refine div_down (k := .f64) (by rw [infD_eq]; exact hxi) (by rw [infD_eq]; omega) hy0 (by rw [infD_eq]; exact hW') ?_
  show _ * _ * e53 ≤ _ * e1074 * (e53 - 1)
  have a1 := valN_le (f := FloatKind.f64.format) |>.2 hx
  have a2 := valN_le (f := FloatKind.f64.format) |>.2 hy
  have b1 := Nat.mul_le_mul_right (e1074 * (e53 - 1)) a1
  have b2 := Nat.mul_le_mul_right (e53) (Nat.mul_le_mul_left (valN FloatKind.f64.format W) a2)
  rw [← Nat.mul_assoc, ← Nat.mul_assoc] at b1
  exact Nat.le_trans (Nat.le_trans b2 h') b1

/-- A number made plain before it is handed on. -/
def forceN {α : Type} (n : Nat) (f : Nat → α) : α := match n with | 0 => f 0 | m + 1 => f (Nat.succ m)
theorem forceN_eq {α : Type} (n : Nat) (f : Nat → α) : forceN n f = f n := by cases n <;> rfl

def lowN (bl l tu dl du : Nat) : Option Nat :=
  match Nat.blt tu bl with
  | true => forceN (F.div .f64 (F.sub .f64 bl tu) du - 4) fun q => match divD (F.sub .f64 bl tu) du q with
    | true => forceN (F.add .f64 l q) some
    | false => none
  | false => forceN (F.div .f64 (F.sub .f64 tu bl) dl + 4) fun q => match divU (F.sub .f64 tu bl) dl q, Nat.ble q l with
    | true, true => forceN (F.sub .f64 l q) some
    | _, _ => none
def upN (bh u tl dl du : Nat) : Option Nat :=
  match Nat.blt bh tl with
  | true => forceN (F.div .f64 (F.sub .f64 tl bh) du - 4) fun q => match divD (F.sub .f64 tl bh) du q with
    | true => forceN (F.sub .f64 u q) some
    | false => none
  | false => forceN (F.div .f64 (F.sub .f64 bh tl) dl + 4) fun q => match divU (F.sub .f64 bh tl) dl q with
    | true => forceN (F.add .f64 u q) some
    | false => none
def nstepA (bl bh l u tl tu dl du : Nat) : Option (Nat × Nat) :=
  match Nat.blt tu infD && (Nat.blt du infD && (Nat.blt 0 dl && (Nat.blt u infD && Nat.blt bh infD))) with
  | false => none
  | true => match lowN bl l tu dl du, upN bh u tl dl du with
    | some a, some b => some (a, b)
    | _, _ => none
def cube3 (r : Nat) : Nat := F.mul .f64 (F.mul .f64 r r) r
def den3 (r : Nat) : Nat := F.mul .f64 (F.mul .f64 c3 r) r
def nstep (bl bh l u : Nat) : Option (Nat × Nat) :=
  forceN (cube3 l) fun tl => forceN (cube3 u) fun tu => forceN (den3 l) fun dl => forceN (den3 u) fun du =>
    match Nat.blt (F.mul .f64 u u) infD && Nat.blt (F.mul .f64 c3 u) infD with
    | true => nstepA bl bh l u tl tu dl du
    | false => none

theorem nstep_ok {bl bh l u l' u' b r : Nat} (h : nstep bl bh l u = some (l', u')) (h1 : bl ≤ b) (h2 : b ≤ bh) (h3 : l ≤ r) (h4 : r ≤ u) : l' ≤ newt b r ∧ newt b r ≤ u' := by
  unfold nstep at h
  simp only [forceN_eq] at h
  split at h
  · rename_i hm
    simp only [Bool.and_eq_true] at hm
    have m1 : F.mul .f64 u u < infD := blt_lt hm.1
    have m2 : F.mul .f64 c3 u < infD := blt_lt hm.2
    unfold nstepA at h
    split at h
    · cases h
    · rename_i hc
      simp only [Bool.and_eq_true] at hc
      obtain ⟨k1, k2, k3, k4, k5⟩ := hc
      have k1 : cube3 u < infD := blt_lt k1
      have k2 : den3 u < infD := blt_lt k2
      have k3 : 0 < den3 l := blt_lt k3
      have k4 : u < infD := blt_lt k4
      have k5 : bh < infD := blt_lt k5
      have kc3 : c3 < infD := by decide
      have ui : u < FloatKind.f64.format.infRung := by rw [infD_eq]; exact k4
      have ri : r < FloatKind.f64.format.infRung := by omega
      -- the cube and the divisor
      have mm : ∀ {x y : Nat}, x ≤ y → y ≤ u → F.mul .f64 x x ≤ F.mul .f64 y y := fun hx hy => mul_bits hx hx (by omega) (by omega)
      have m3 : ∀ {x y : Nat}, x ≤ y → y ≤ u → F.mul .f64 c3 x ≤ F.mul .f64 c3 y := fun hx hy => mul_bits (Nat.le_refl _) hx (by rw [infD_eq]; exact kc3) (by omega)
      have cm : ∀ {x y : Nat}, x ≤ y → y ≤ u → cube3 x ≤ cube3 y := fun {x y} hx hy => mul_bits (mm hx hy) hx (by rw [infD_eq]; have := mm hy (Nat.le_refl _); omega) (by omega)
      have dm : ∀ {x y : Nat}, x ≤ y → y ≤ u → den3 x ≤ den3 y := fun {x y} hx hy => mul_bits (m3 hx hy) hx (by rw [infD_eq]; have := m3 hy (Nat.le_refl _); omega) (by omega)
      have t1 := cm h3 h4
      have t2 := cm h4 (Nat.le_refl _)
      have d1 := dm h3 h4
      have d2 := dm h4 (Nat.le_refl _)
      have hdi : den3 r < FloatKind.f64.format.infRung := by rw [infD_eq]; omega
      have hti : cube3 r < FloatKind.f64.format.infRung := by rw [infD_eq]; omega
      have hbi : b < FloatKind.f64.format.infRung := by rw [infD_eq]; omega
      have bhi : bh < FloatKind.f64.format.infRung := by rw [infD_eq]; omega
      have tui : cube3 u < FloatKind.f64.format.infRung := by rw [infD_eq]; omega
      have hd0 : den3 r ≠ 0 := by omega
      have hnewt : newt b r = F.sub .f64 r (F.div .f64 (F.sub .f64 (cube3 r) b) (den3 r)) := rfl
      split at h
      · rename_i x y hx hy
        cases h
        rw [hnewt]
        rcases Nat.lt_or_ge (cube3 r) b with hlt | hge
        · -- the cube is too small
          have hsb : F.sub .f64 b (cube3 r) ≤ b := sub_le_self hbi (by omega)
          have hsi : F.sub .f64 b (cube3 r) < FloatKind.f64.format.infRung := by omega
          rw [sub_less hbi hlt, div_neg hsi hdi hd0]
          unfold upN at hy
          split at hy
          · rename_i hb
            have hb' : bh < cube3 l := blt_lt hb
            omega
          · simp only [forceN_eq] at hy
            split at hy
            · rename_i hU
              cases hy
              have hsub : F.sub .f64 b (cube3 r) ≤ F.sub .f64 bh (cube3 l) := sub_bits h2 t1 (by omega) bhi
              have hXi : F.sub .f64 bh (cube3 l) < infD := by
                have := sub_le_self (k := .f64) bhi (show cube3 l ≤ bh by omega)
                omega
              have hq := divU_ok hU hsub d1 hXi (by rw [← infD_eq]; exact hdi)
              have hQi : F.div .f64 (F.sub .f64 bh (cube3 l)) (den3 l) + 4 < infD := by
                unfold divU at hU
                simp only [Bool.and_eq_true] at hU
                exact blt_lt hU.2.1
              have hqi : F.div .f64 (F.sub .f64 b (cube3 r)) (den3 r) < FloatKind.f64.format.infRung := by rw [infD_eq]; omega
              rw [sub_word hqi]
              refine ⟨?_, add_bits h4 hq ui (by rw [infD_eq]; exact hQi)⟩
              unfold lowN at hx
              split at hx
              · rename_i hb2
                have hb2' : cube3 u < bl := blt_lt hb2
                simp only [forceN_eq] at hx
                split at hx
                · rename_i hD
                  cases hx
                  have hsub2 : F.sub .f64 bl (cube3 u) ≤ F.sub .f64 b (cube3 r) := sub_bits h1 t2 (by omega) hbi
                  have hq2 := divD_ok hD hsub2 d2 (by rw [← infD_eq]; exact hsi) k2 hd0
                  exact add_bits h3 hq2 ri hqi
                · cases hx
              · simp only [forceN_eq] at hx
                split at hx
                · rename_i hU2 hl2
                  cases hx
                  have g1 := sub_le_self (k := .f64) (show l < FloatKind.f64.format.infRung by omega) (Nat.le_of_ble_eq_true hl2)
                  have g2 := le_add_self ri hqi
                  omega
                · cases hx
            · cases hy
        · -- the cube is great enough
          have hst : F.sub .f64 (cube3 r) b ≤ cube3 r := sub_le_self hti hge
          unfold lowN at hx
          split at hx
          · rename_i hb
            have hb' : cube3 u < bl := blt_lt hb
            omega
          · simp only [forceN_eq] at hx
            split at hx
            · rename_i hU hl2
              cases hx
              have hl2' := Nat.le_of_ble_eq_true hl2
              have hsub : F.sub .f64 (cube3 r) b ≤ F.sub .f64 (cube3 u) bl := sub_bits t2 h1 hge tui
              have hXi : F.sub .f64 (cube3 u) bl < infD := by
                have := sub_le_self (k := .f64) tui (show bl ≤ cube3 u by omega)
                omega
              have hq := divU_ok hU hsub d1 hXi (by rw [← infD_eq]; exact hdi)
              refine ⟨sub_bits h3 hq hl2' ri, ?_⟩
              unfold upN at hy
              split at hy
              · rename_i hb2
                have hb2' : bh < cube3 l := blt_lt hb2
                simp only [forceN_eq] at hy
                split at hy
                · rename_i hD
                  cases hy
                  have hsub2 : F.sub .f64 (cube3 l) bh ≤ F.sub .f64 (cube3 r) b := sub_bits t1 h2 (by omega) hti
                  have hq2 := divD_ok hD hsub2 d2 (by rw [← infD_eq]; omega) k2 hd0
                  exact sub_bits h4 hq2 (by omega) ui
                · cases hy
              · simp only [forceN_eq] at hy
                split at hy
                · rename_i hU2
                  cases hy
                  have hQi : F.div .f64 (F.sub .f64 bh (cube3 l)) (den3 l) + 4 < infD := by
                    unfold divU at hU2
                    simp only [Bool.and_eq_true] at hU2
                    exact blt_lt hU2.2.1
                  have g1 := sub_le_self ri (show F.div .f64 (F.sub .f64 (cube3 r) b) (den3 r) ≤ r by omega)
                  have g2 := le_add_self (k := .f64) ui (show F.div .f64 (F.sub .f64 bh (cube3 l)) (den3 l) + 4 < FloatKind.f64.format.infRung by rw [infD_eq]; exact hQi)
                  omega
                · cases hy
            · cases hx
      · cases h
  · cases h

def nsteps : Nat → Nat → Nat → Nat → Nat → Bool
  | 0, _, _, _, u => Nat.ble u c64
  | n + 1, bl, bh, l, u => match nstep bl bh l u with
    | some (l', u') => nsteps n bl bh l' u'
    | none => false
def newtN (b : Nat) : Nat → Nat → Nat
  | 0, r => r
  | n + 1, r => newtN b n (newt b r)
theorem nsteps_ok {bl bh b : Nat} (h1 : bl ≤ b) (h2 : b ≤ bh) : ∀ (n : Nat) (l u r : Nat), nsteps n bl bh l u = true → l ≤ r → r ≤ u → newtN b n r ≤ c64 := by
  intro n
  induction n with
  | zero => intro l u r h h3 h4; exact Nat.le_trans h4 (Nat.le_of_ble_eq_true h)
  | succ n ih =>
    intro l u r h h3 h4
    simp only [nsteps] at h
    split at h
    · rename_i l' u' hs
      obtain ⟨g1, g2⟩ := nstep_ok hs h1 h2 h3 h4
      exact ih l' u' (newt b r) h g1 g2
    · cases h
def allN (f : Nat → Bool) : Nat → Bool
  | 0 => true
  | n + 1 => match f n with
    | true => allN f n
    | false => false
theorem allN_ok {f : Nat → Bool} {i : Nat} : ∀ {n : Nat}, allN f n = true → i < n → f i = true := by
  intro n
  induction n with
  | zero => intro _ h; omega
  | succ n ih =>
    intro h hi
    simp only [allN] at h
    split at h
    · rename_i h1
      rcases Nat.eq_or_lt_of_le (Nat.le_of_lt_succ hi) with rfl | hlt
      · exact h1
      · exact ih h hlt
    · cases h
def piece (n : Nat) : Bool := forceN (c1 + n * 140737488355328) fun bl => forceN (c1 + (n + 1) * 140737488355328) fun bh => nsteps 6 bl bh c15 c15
theorem pieces96 : allN piece 96 = true := by kernel_rfl
/-- SIX OF NEWTON'S STEPS FROM ONE AND A HALF ON: AT MOST 64. -/
theorem newt6_le {b : Nat} (h1 : c1 ≤ b) (h2 : b < c8) : newtN b 6 c15 ≤ c64 := by
  have hi : (b - c1) / 140737488355328 < 96 := by unfold c1 c8 at *; omega
  have hp := allN_ok pieces96 hi
  unfold piece at hp
  rw [forceN_eq, forceN_eq] at hp
  refine nsteps_ok ?_ ?_ 6 c15 c15 c15 hp (Nat.le_refl _) (Nat.le_refl _)
  · have := Nat.div_mul_le_self (b - c1) 140737488355328
    omega
  · have := Nat.div_add_mod (b - c1) 140737488355328
    have := Nat.mod_lt (b - c1) (show 0 < 140737488355328 by decide)
    rw [Nat.add_mul]
    omega
end Go.Sx
