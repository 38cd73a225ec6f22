/- Quotients and differences of floats that are not below nought, between bounds; Newton's step for the third root. No condition. -/
import Derived.Test.YtamljpeicecbjaaSxRoot
import Derived.KernelRfl
import Derived.Test.YtamljpeicecbjaaSxLoop
import Derived.Test.YtamljpeicecbjaaSxFin
import Derived.Test.YtamljpeicecbjaaSxRes
set_option linter.unusedVariables false
set_option linter.unusedSimpArgs false
noncomputable section
namespace Go.Sx
open Go Ieee

theorem nearest_neg (f : Format) (neg : Bool) (mag : Nat) (place : Int) : f.nearest neg mag place = f.word neg (f.nearest false mag place) := by
  by_cases hm : mag = 0
  · subst hm
    simp [Format.nearest, word_pos]
  · unfold Format.nearest
    rw [if_neg hm, if_neg hm, word_pos]
    simp only [cut_rne]
theorem read_neg {k : FloatKind} {x : Nat} (h : x < k.format.infRung) {m : Nat} {e : Int} (hr : k.format.read x = .number false m e) : k.format.read (k.format.word true x) = .number true m e := by
  have hs := inf_lt_sign k.format
  have e0 : k.format.word true x = k.format.signWeight + x := by simp [Format.word]
  have e1 : (k.format.signWeight + x) % k.format.signWeight = x := by rw [Nat.add_mod_left]; exact Nat.mod_eq_of_lt (by omega)
  have e2 : (k.format.signWeight + x) / k.format.signWeight = 1 := by
    rw [Nat.add_div_left _ (by omega)]
    rw [Nat.div_eq_of_lt (by omega)]
  have e3 : x % k.format.signWeight = x := Nat.mod_eq_of_lt (by omega)
  have e4 : x / k.format.signWeight = 0 := Nat.div_eq_of_lt (by omega)
  unfold Format.read at hr ⊢
  rw [e0]
  simp only [e1, e2, e3, e4] at hr ⊢
  by_cases hb : x < k.format.binade
  · rw [if_pos hb] at hr ⊢
    simp only [Datum.number.injEq] at hr ⊢
    exact ⟨by decide, hr.2⟩
  · rw [if_neg hb, if_pos h] at hr ⊢
    simp only [Datum.number.injEq] at hr ⊢
    exact ⟨by decide, hr.2⟩

/-- The difference, the second being at most the first. -/
theorem sub_pos {k : FloatKind} {x y : Nat} (hx : x < k.format.infRung) (hy : y ≤ x) : F.sub k x y = RgN k.format (valN k.format x - valN k.format y) k.format.leastPlace := by
  have hy' : y < k.format.infRung := by omega
  obtain ⟨m, i, h1, h2, h3⟩ := read_pos k.format hx
  obtain ⟨n, j, g1, g2, g3⟩ := read_pos k.format hy'
  unfold F.sub Format.sub
  rw [h1, g1]
  simp only [Datum.opposite, Datum.sum, Option.map_some, Option.getD_some, Format.write]
  have hp : 0 < 2 ^ (min i j - k.format.leastPlace).toNat := Nat.pow_pos (by omega)
  have e1 : m * 2 ^ (i - min i j).toNat * 2 ^ (min i j - k.format.leastPlace).toNat = valN k.format x := by
    rw [← h3, Nat.mul_assoc, ← Nat.pow_add]; congr 2; omega
  have e2 : n * 2 ^ (j - min i j).toNat * 2 ^ (min i j - k.format.leastPlace).toNat = valN k.format y := by
    rw [← g3, Nat.mul_assoc, ← Nat.pow_add]; congr 2; omega
  have hle : n * 2 ^ (j - min i j).toNat ≤ m * 2 ^ (i - min i j).toNat := by
    have := valN_le (f := k.format) |>.2 hy
    rw [← e1, ← e2] at this
    exact Nat.le_of_mul_le_mul_right this hp
  have s1 : signed false m (i - min i j).toNat = ((m * 2 ^ (i - min i j).toNat : Nat) : Int) := signed_pos m _
  have s2 : signed (!false) n (j - min i j).toNat = -((n * 2 ^ (j - min i j).toNat : Nat) : Int) := by simp [signed, Nat.shiftLeft_eq]
  rw [s1, s2]
  have hn : (if ((m * 2 ^ (i - min i j).toNat : Nat) : Int) + -((n * 2 ^ (j - min i j).toNat : Nat) : Int) = 0 then (false && !false) else decide (((m * 2 ^ (i - min i j).toNat : Nat) : Int) + -((n * 2 ^ (j - min i j).toNat : Nat) : Int) < 0)) = false := by
    split
    · rfl
    · exact decide_eq_false (by omega)
  rw [hn]
  rw [nearest_RgN k.format (b := k.format.leastPlace) (by omega) (Int.le_refl _)]
  congr 1
  have e3 : (((m * 2 ^ (i - min i j).toNat : Nat) : Int) + -((n * 2 ^ (j - min i j).toNat : Nat) : Int)).natAbs = m * 2 ^ (i - min i j).toNat - n * 2 ^ (j - min i j).toNat := by omega
  rw [e3, Nat.sub_mul, e1, e2]
/-- The difference, the second being greater. -/
theorem sub_less {k : FloatKind} {x y : Nat} (hy : y < k.format.infRung) (hx : x < y) : F.sub k x y = k.format.word true (F.sub k y x) := by
  have hx' : x < k.format.infRung := by omega
  obtain ⟨m, i, h1, h2, h3⟩ := read_pos k.format hx'
  obtain ⟨n, j, g1, g2, g3⟩ := read_pos k.format hy
  unfold F.sub Format.sub
  rw [h1, g1]
  simp only [Datum.opposite, Datum.sum, Option.map_some, Option.getD_some, Format.write]
  have hp : 0 < 2 ^ (min i j - k.format.leastPlace).toNat := Nat.pow_pos (by omega)
  have e1 : m * 2 ^ (i - min i j).toNat * 2 ^ (min i j - k.format.leastPlace).toNat = valN k.format x := by
    rw [← h3, Nat.mul_assoc, ← Nat.pow_add]; congr 2; omega
  have e2 : n * 2 ^ (j - min i j).toNat * 2 ^ (min i j - k.format.leastPlace).toNat = valN k.format y := by
    rw [← g3, Nat.mul_assoc, ← Nat.pow_add]; congr 2; omega
  have hlt : m * 2 ^ (i - min i j).toNat < n * 2 ^ (j - min i j).toNat := by
    have := valN_lt (f := k.format) hx
    rw [← e1, ← e2] at this
    exact Nat.lt_of_mul_lt_mul_right this
  have hc : min j i = min i j := by omega
  rw [hc]
  have s1 : signed false m (i - min i j).toNat = ((m * 2 ^ (i - min i j).toNat : Nat) : Int) := signed_pos m _
  have s2 : signed (!false) n (j - min i j).toNat = -((n * 2 ^ (j - min i j).toNat : Nat) : Int) := by simp [signed, Nat.shiftLeft_eq]
  have s3 : signed false n (j - min i j).toNat = ((n * 2 ^ (j - min i j).toNat : Nat) : Int) := signed_pos n _
  have s4 : signed (!false) m (i - min i j).toNat = -((m * 2 ^ (i - min i j).toNat : Nat) : Int) := by simp [signed, Nat.shiftLeft_eq]
  rw [s1, s2, s3, s4]
  generalize m * 2 ^ (i - min i j).toNat = A at *
  generalize n * 2 ^ (j - min i j).toNat = B at *
  rw [if_neg (by omega), if_neg (by omega)]
  have d1 : decide ((A : Int) + -(B : Int) < 0) = true := decide_eq_true (by omega)
  have d2 : decide ((B : Int) + -(A : Int) < 0) = false := decide_eq_false (by omega)
  rw [d1, d2, nearest_neg]
  congr 2
  omega
theorem div_neg {k : FloatKind} {x y : Nat} (hx : x < k.format.infRung) (hy : y < k.format.infRung) (h0 : y ≠ 0) : F.div k (k.format.word true x) y = k.format.word true (F.div k x y) := by
  obtain ⟨m, i, h1, h2, h3⟩ := read_pos k.format hx
  obtain ⟨n, j, g1, g2, g3⟩ := read_pos k.format hy
  have hn : n ≠ 0 := by
    rintro rfl
    rw [Nat.zero_mul] at g3
    exact h0 (valN_zero.1 g3.symm)
  unfold F.div Format.div
  rw [read_neg hx h1, h1, g1]
  simp only [Datum.quotient, if_neg hn, Option.map_some, Option.getD_some, Format.write]
  rw [show (true ^^ false) = true from rfl, show (false ^^ false) = false from rfl, nearest_neg]
theorem sub_word {k : FloatKind} {x y : Nat} (hy : y < k.format.infRung) : F.sub k x (k.format.word true y) = F.add k x y := by
  obtain ⟨n, j, g1, g2, g3⟩ := read_pos k.format hy
  unfold F.sub F.add Format.sub Format.add
  rw [read_neg hy g1, g1]
  rfl

/-- The parts of a quotient. -/
theorem div_parts {k : FloatKind} {x y : Nat} (hx : x < k.format.infRung) (hy : y < k.format.infRung) (h0 : y ≠ 0) (hx0 : x ≠ 0) : ∃ (A n j m more : Nat) (b : Int) (e : Nat),
    F.div k x y = RgN k.format (A * 2 ^ e) b ∧ b ≤ k.format.leastPlace ∧ n * 2 ^ j = valN k.format y ∧ A * n ≤ 2 * (m * 2 ^ more) + n ∧ 2 * (m * 2 ^ more) ≤ A * n + n ∧ n * 2 ^ (k.format.fractionBits + 1) ≤ m * 2 ^ more ∧ n ≠ 0 ∧
    2 * (m * 2 ^ more) * 2 ^ j * 2 ^ e = valN k.format x * 2 ^ (0 - b).toNat := by
  have hlp : k.format.leastPlace ≤ 0 := by cases k <;> decide
  obtain ⟨m, i, h1, h2, h3⟩ := read_pos k.format hx
  obtain ⟨n, j, g1, g2, g3⟩ := read_pos k.format hy
  have hn : n ≠ 0 := by
    rintro rfl
    rw [Nat.zero_mul] at g3
    exact h0 (valN_zero.1 g3.symm)
  have hm : m ≠ 0 := by
    rintro rfl
    rw [Nat.zero_mul] at h3
    exact hx0 (valN_zero.1 h3.symm)
  unfold F.div Format.div
  rw [h1, g1]
  simp only [Datum.quotient, if_neg hn, Option.map_some, Option.getD_some, Bool.xor_self, Format.write, Nat.shiftLeft_eq]
  have hmore : n * 2 ^ (k.format.fractionBits + 1) ≤ m * 2 ^ (k.format.fractionBits + 2 + n.log2 - m.log2) := by
    have a1 : 2 ^ m.log2 ≤ m := Nat.log2_self_le hm
    have a2 : n < 2 ^ (n.log2 + 1) := Nat.lt_log2_self
    have a3 : 2 ^ (n.log2 + 1 + (k.format.fractionBits + 1)) ≤ 2 ^ (m.log2 + (k.format.fractionBits + 2 + n.log2 - m.log2)) := Nat.pow_le_pow_right (by omega) (by omega)
    rw [Nat.pow_add 2 m.log2, Nat.pow_add 2 (n.log2 + 1)] at a3
    have a4 := Nat.mul_le_mul_right (2 ^ (k.format.fractionBits + 2 + n.log2 - m.log2)) a1
    have a5 := Nat.mul_le_mul_right (2 ^ (k.format.fractionBits + 1)) (Nat.le_of_lt a2)
    omega
  revert hmore
  generalize k.format.fractionBits + 2 + n.log2 - m.log2 = more
  intro hmore
  have hb : ∃ b : Int, b ≤ i - j - more - 1 ∧ b ≤ k.format.leastPlace + k.format.leastPlace := ⟨min (i - j - more - 1) (k.format.leastPlace + k.format.leastPlace), by omega, by omega⟩
  obtain ⟨b, hb1, hb2⟩ := hb
  rw [nearest_RgN k.format (b := b) hb1 (by omega)]
  generalize hs : (m * 2 ^ more % n != 0).toNat = s
  refine ⟨2 * (m * 2 ^ more / n) + s, n, (j - k.format.leastPlace).toNat, m, more, b, (i - j - more - 1 - b).toNat, rfl, by omega, g3, ?_, ?_, hmore, hn, ?_⟩
  · have h4 := Nat.div_mul_le_self (m * 2 ^ more) n
    have hs1 : s ≤ 1 := by rw [← hs]; exact Bool.toNat_le _
    have h5 := Nat.mul_le_mul_right n hs1
    rw [Nat.add_mul, Nat.mul_assoc]
    generalize m * 2 ^ more / n * n = qn at *
    generalize s * n = sn at *
    omega
  · have h4 := Nat.div_add_mod (m * 2 ^ more) n
    rw [Nat.mul_comm n] at h4
    have h5 := Nat.mod_lt (m * 2 ^ more) (Nat.pos_of_ne_zero hn)
    rw [Nat.add_mul, Nat.mul_assoc]
    by_cases hr : m * 2 ^ more % n = 0
    · generalize m * 2 ^ more / n * n = qn at *
      generalize s * n = sn at *
      omega
    · have : s = 1 := by rw [← hs]; simp [hr]
      subst this
      generalize m * 2 ^ more / n * n = qn at *
      omega
  · rw [← h3]
    have p1 : 2 ^ 1 * 2 ^ more * 2 ^ (j - k.format.leastPlace).toNat * 2 ^ (i - j - more - 1 - b).toNat = 2 ^ (i - k.format.leastPlace).toNat * 2 ^ (0 - b).toNat := by
      rw [← Nat.pow_add, ← Nat.pow_add, ← Nat.pow_add, ← Nat.pow_add]; congr 1; omega
    have : 2 * (m * 2 ^ more) * 2 ^ (j - k.format.leastPlace).toNat * 2 ^ (i - j - more - 1 - b).toNat = m * (2 ^ 1 * 2 ^ more * 2 ^ (j - k.format.leastPlace).toNat * 2 ^ (i - j - more - 1 - b).toNat) := by
      rw [Nat.pow_one]
      simp only [← Nat.mul_assoc]
      rw [Nat.mul_comm 2 m]
    rw [this, p1, Nat.mul_assoc]
theorem RgN_word {f : Format} {W : Nat} (hW : W < f.infRung) {b : Int} (hb : b ≤ f.leastPlace) : RgN f (valN f W * 2 ^ (f.leastPlace - b).toNat) b = W := by
  rw [← nearest_RgN f hb (by omega)]
  rw [nearest_RgN f (b := f.leastPlace) (Int.le_refl _) (Int.le_refl _)]
  simp only [Int.sub_self, Int.toNat_zero, Nat.pow_zero, Nat.mul_one]
  unfold RgN
  by_cases h0 : W = 0
  · subst h0; simp [valN_zero.2]
  · rw [if_neg (fun e => h0 (valN_zero.1 e)), Rg_valN f h0]
    omega
/-- A quotient is at most W. -/
theorem div_up {k : FloatKind} {x y W : Nat} (hx : x < k.format.infRung) (hy : y < k.format.infRung) (h0 : y ≠ 0) (hW : W < k.format.infRung)
    (h : valN k.format x * 2 ^ (0 - k.format.leastPlace).toNat * (2 ^ (k.format.fractionBits + 1) + 1) ≤ valN k.format W * valN k.format y * 2 ^ (k.format.fractionBits + 1)) : F.div k x y ≤ W := by
  have hlp : k.format.leastPlace ≤ 0 := by cases k <;> decide
  by_cases hx0 : x = 0
  · subst hx0
    obtain ⟨n, j, g1, g2, g3⟩ := read_pos k.format hy
    have hn : n ≠ 0 := by
      rintro rfl
      rw [Nat.zero_mul] at g3
      exact h0 (valN_zero.1 g3.symm)
    have hr : k.format.read 0 = .number false 0 k.format.leastPlace := by cases k <;> rfl
    unfold F.div Format.div
    rw [hr, g1]
    simp [Datum.quotient, if_neg hn, Format.write, Format.nearest, word_pos]
  obtain ⟨A, n, j, m, more, b, e, h1, h2, h3, h4, h5, h6, hn, h7⟩ := div_parts hx hy h0 hx0
  rw [h1, ← RgN_word hW h2]
  apply RgN_mono _ h2
  have hL : 0 < n * 2 ^ j * 2 ^ (k.format.fractionBits + 1) := Nat.mul_pos (Nat.mul_pos (Nat.pos_of_ne_zero hn) (Nat.pow_pos (by omega))) (Nat.pow_pos (by omega))
  apply Nat.le_of_mul_le_mul_right _ hL
  -- left
  have a1 : A * n * 2 ^ (k.format.fractionBits + 1) ≤ 2 * (m * 2 ^ more) * (2 ^ (k.format.fractionBits + 1) + 1) := by
    have := Nat.mul_le_mul_right (2 ^ (k.format.fractionBits + 1)) h4
    rw [Nat.add_mul] at this
    rw [Nat.mul_add, Nat.mul_one]
    omega
  have a2 := Nat.mul_le_mul_right (2 ^ j * 2 ^ e) a1
  have e1 : A * 2 ^ e * (n * 2 ^ j * 2 ^ (k.format.fractionBits + 1)) = A * n * 2 ^ (k.format.fractionBits + 1) * (2 ^ j * 2 ^ e) := by
    simp only [Nat.mul_assoc, Nat.mul_comm, Nat.mul_left_comm]
  have e2 : 2 * (m * 2 ^ more) * (2 ^ (k.format.fractionBits + 1) + 1) * (2 ^ j * 2 ^ e) = (2 * (m * 2 ^ more) * 2 ^ j * 2 ^ e) * (2 ^ (k.format.fractionBits + 1) + 1) := by
    generalize 2 ^ (k.format.fractionBits + 1) + 1 = g
    simp only [Nat.mul_assoc, Nat.mul_comm, Nat.mul_left_comm]
  rw [e1]
  refine Nat.le_trans a2 ?_
  rw [e2, h7, h3]
  have e3 : 2 ^ (0 - b).toNat = 2 ^ (0 - k.format.leastPlace).toNat * 2 ^ (k.format.leastPlace - b).toNat := by
    rw [← Nat.pow_add]; congr 1; omega
  rw [e3]
  have a3 := Nat.mul_le_mul_right (2 ^ (k.format.leastPlace - b).toNat) h
  have e4 : valN k.format x * (2 ^ (0 - k.format.leastPlace).toNat * 2 ^ (k.format.leastPlace - b).toNat) * (2 ^ (k.format.fractionBits + 1) + 1) = valN k.format x * 2 ^ (0 - k.format.leastPlace).toNat * (2 ^ (k.format.fractionBits + 1) + 1) * 2 ^ (k.format.leastPlace - b).toNat := by
    generalize 2 ^ (k.format.fractionBits + 1) + 1 = g
    simp only [Nat.mul_assoc, Nat.mul_comm, Nat.mul_left_comm]
  have e5 : valN k.format W * 2 ^ (k.format.leastPlace - b).toNat * (valN k.format y * 2 ^ (k.format.fractionBits + 1)) = valN k.format W * valN k.format y * 2 ^ (k.format.fractionBits + 1) * 2 ^ (k.format.leastPlace - b).toNat := by
    simp only [Nat.mul_assoc, Nat.mul_comm, Nat.mul_left_comm]
  rw [e4, e5]
  exact a3
/-- A quotient is at least W. -/
theorem div_down {k : FloatKind} {x y W : Nat} (hx : x < k.format.infRung) (hy : y < k.format.infRung) (h0 : y ≠ 0) (hW : W < k.format.infRung)
    (h : valN k.format W * valN k.format y * 2 ^ (k.format.fractionBits + 1) ≤ valN k.format x * 2 ^ (0 - k.format.leastPlace).toNat * (2 ^ (k.format.fractionBits + 1) - 1)) : W ≤ F.div k x y := by
  have hlp : k.format.leastPlace ≤ 0 := by cases k <;> decide
  by_cases hx0 : x = 0
  · subst hx0
    have hz : valN k.format 0 = 0 := valN_zero.2 rfl
    rw [hz, Nat.zero_mul, Nat.zero_mul] at h
    have hp : 0 < 2 ^ (k.format.fractionBits + 1) := Nat.pow_pos (by omega)
    have h1 := Nat.le_zero.1 h
    rcases Nat.mul_eq_zero.1 h1 with h2 | h2
    · rcases Nat.mul_eq_zero.1 h2 with h3 | h3
      · rw [valN_zero.1 h3]; exact Nat.zero_le _
      · exact absurd (valN_zero.1 h3) h0
    · omega
  obtain ⟨A, n, j, m, more, b, e, h1, h2, h3, h4, h5, h6, hn, h7⟩ := div_parts hx hy h0 hx0
  rw [h1, ← RgN_word hW h2]
  apply RgN_mono _ h2
  have hL : 0 < n * 2 ^ j * 2 ^ (k.format.fractionBits + 1) := Nat.mul_pos (Nat.mul_pos (Nat.pos_of_ne_zero hn) (Nat.pow_pos (by omega))) (Nat.pow_pos (by omega))
  apply Nat.le_of_mul_le_mul_right _ hL
  have hp : 0 < 2 ^ (k.format.fractionBits + 1) := Nat.pow_pos (by omega)
  have a1 : 2 * (m * 2 ^ more) * (2 ^ (k.format.fractionBits + 1) - 1) ≤ A * n * 2 ^ (k.format.fractionBits + 1) := by
    have := Nat.mul_le_mul_right (2 ^ (k.format.fractionBits + 1)) h5
    rw [Nat.add_mul] at this
    rw [Nat.mul_sub, Nat.mul_one]
    omega
  have a2 := Nat.mul_le_mul_right (2 ^ j * 2 ^ e) a1
  have e1 : A * 2 ^ e * (n * 2 ^ j * 2 ^ (k.format.fractionBits + 1)) = A * n * 2 ^ (k.format.fractionBits + 1) * (2 ^ j * 2 ^ e) := by
    simp only [Nat.mul_assoc, Nat.mul_comm, Nat.mul_left_comm]
  have e2 : 2 * (m * 2 ^ more) * (2 ^ (k.format.fractionBits + 1) - 1) * (2 ^ j * 2 ^ e) = (2 * (m * 2 ^ more) * 2 ^ j * 2 ^ e) * (2 ^ (k.format.fractionBits + 1) - 1) := by
    generalize 2 ^ (k.format.fractionBits + 1) - 1 = g
    simp only [Nat.mul_assoc, Nat.mul_comm, Nat.mul_left_comm]
  rw [e1]
  refine Nat.le_trans ?_ a2
  rw [e2, h7, h3]
  have e3 : 2 ^ (0 - b).toNat = 2 ^ (0 - k.format.leastPlace).toNat * 2 ^ (k.format.leastPlace - b).toNat := by
    rw [← Nat.pow_add]; congr 1; omega
  rw [e3]
  have a3 := Nat.mul_le_mul_right (2 ^ (k.format.leastPlace - b).toNat) h
  have e4 : valN k.format x * (2 ^ (0 - k.format.leastPlace).toNat * 2 ^ (k.format.leastPlace - b).toNat) * (2 ^ (k.format.fractionBits + 1) - 1) = valN k.format x * 2 ^ (0 - k.format.leastPlace).toNat * (2 ^ (k.format.fractionBits + 1) - 1) * 2 ^ (k.format.leastPlace - b).toNat := by
    generalize 2 ^ (k.format.fractionBits + 1) - 1 = g
    simp only [Nat.mul_assoc, Nat.mul_comm, Nat.mul_left_comm]
  have e5 : valN k.format W * 2 ^ (k.format.leastPlace - b).toNat * (valN k.format y * 2 ^ (k.format.fractionBits + 1)) = valN k.format W * valN k.format y * 2 ^ (k.format.fractionBits + 1) * 2 ^ (k.format.leastPlace - b).toNat := by
    simp only [Nat.mul_assoc, Nat.mul_comm, Nat.mul_left_comm]
  rw [e4, e5]
  exact a3
end Go.Sx
set_option linter.unusedVariables false
set_option linter.unusedSimpArgs false
noncomputable section
namespace Go.Sx
open Go Ieee

theorem blt_lt {a b : Nat} (h : Nat.blt a b = true) : a < b := by simpa [Nat.blt_eq] using h
def e1074 : Nat := 2 ^ (0 - FloatKind.f64.format.leastPlace).toNat
def e53 : Nat := 2 ^ (FloatKind.f64.format.fractionBits + 1)
def c1 : Nat := 4607182418800017408
def c15 : Nat := 4609434218613702656
def c2 : Nat := 4611686018427387904
def c3 : Nat := 4613937818241073152
def c8 : Nat := 4620693217682128896
def c64 : Nat := 4634204016564240384
def infD : Nat := 9218868437227405312
theorem infD_eq : FloatKind.f64.format.infRung = infD := by decide
theorem lpD : FloatKind.f64.format.leastPlace = -1074 := by decide
theorem fbD : FloatKind.f64.format.fractionBits = 52 := by decide

def newt (b r : Nat) : Nat := F.sub .f64 r (F.div .f64 (F.sub .f64 (F.mul .f64 (F.mul .f64 r r) r) b) (F.mul .f64 (F.mul .f64 c3 r) r))

theorem sub_bits {k : FloatKind} {x y x' y' : Nat} (hx : x ≤ x') (hy : y' ≤ y) (hyx : y ≤ x) (hx' : x' < k.format.infRung) : F.sub k x y ≤ F.sub k x' y' := by
  rw [sub_pos (by omega) hyx, sub_pos hx' (by omega)]
  refine RgN_mono _ (Int.le_refl _) ?_
  have h1 := valN_le (f := k.format) |>.2 hx
  have h2 := valN_le (f := k.format) |>.2 hy
  omega
theorem RgN_self {k : FloatKind} {x : Nat} (hx : x < k.format.infRung) : RgN k.format (valN k.format x) k.format.leastPlace = x := by
  have := RgN_word (f := k.format) hx (b := k.format.leastPlace) (Int.le_refl _)
  simpa using this
theorem sub_le_self {k : FloatKind} {x y : Nat} (hx : x < k.format.infRung) (hy : y ≤ x) : F.sub k x y ≤ x := by
  rw [sub_pos hx hy]
  conv => rhs; rw [← RgN_self hx]
  exact RgN_mono _ (Int.le_refl _) (Nat.sub_le ..)
theorem le_add_self {k : FloatKind} {x y : Nat} (hx : x < k.format.infRung) (hy : y < k.format.infRung) : x ≤ F.add k x y := by
  rw [add_pos hx hy]
  conv => lhs; rw [← RgN_self hx]
  exact RgN_mono _ (Int.le_refl _) (Nat.le_add_right ..)

def divU (x y W : Nat) : Bool := Nat.blt 0 y && (Nat.blt W infD && Nat.ble (valN FloatKind.f64.format x * e1074 * (e53 + 1)) (valN FloatKind.f64.format W * valN FloatKind.f64.format y * e53))
def divD (x y W : Nat) : Bool := Nat.blt W infD && Nat.ble (valN FloatKind.f64.format W * valN FloatKind.f64.format y * e53) (valN FloatKind.f64.format x * e1074 * (e53 - 1))
theorem divU_ok {X Y W x y : Nat} (h : divU X Y W = true) (hx : x ≤ X) (hy : Y ≤ y) (hX : X < infD) (hyi : y < infD) : F.div .f64 x y ≤ W := by
  unfold divU at h
  simp only [Bool.and_eq_true] at h
  obtain ⟨h0, hW, h⟩ := h
  have h0' : 0 < Y := blt_lt h0
  have hW' : W < infD := blt_lt hW
  have h' := Nat.le_of_ble_eq_true h
  refine div_up (k := .f64) (by rw [infD_eq]; omega) (by rw [infD_eq]; exact hyi) (by omega) (by rw [infD_eq]; exact hW') ?_
  show _ * e1074 * (e53 + 1) ≤ _ * _ * e53
  have a1 := valN_le (f := FloatKind.f64.format) |>.2 hx
  have a2 := valN_le (f := FloatKind.f64.format) |>.2 hy
  have b1 := Nat.mul_le_mul_right (e1074 * (e53 + 1)) a1
  have b2 := Nat.mul_le_mul_right (e53) (Nat.mul_le_mul_left (valN FloatKind.f64.format W) a2)
  rw [← Nat.mul_assoc, ← Nat.mul_assoc] at b1
  exact Nat.le_trans (Nat.le_trans b1 h') b2
theorem divD_ok {X Y W x y : Nat} (h : divD X Y W = true) (hx : X ≤ x) (hy : y ≤ Y) (hxi : x < infD) (hY : Y < infD) (hy0 : y ≠ 0) : W ≤ F.div .f64 x y := by
  unfold divD at h
  simp only [Bool.and_eq_true] at h
  obtain ⟨hW, h⟩ := h
  have hW' : W < infD := blt_lt hW
  have h' := Nat.le_of_ble_eq_true h
  refine div_down (k := .f64) (by rw [infD_eq]; exact hxi) (by rw [infD_eq]; omega) hy0 (by rw [infD_eq]; exact hW') ?_
  show _ * _ * e53 ≤ _ * e1074 * (e53 - 1)
  have a1 := valN_le (f := FloatKind.f64.format) |>.2 hx
  have a2 := valN_le (f := FloatKind.f64.format) |>.2 hy
  have b1 := Nat.mul_le_mul_right (e1074 * (e53 - 1)) a1
  have b2 := Nat.mul_le_mul_right (e53) (Nat.mul_le_mul_left (valN FloatKind.f64.format W) a2)
  rw [← Nat.mul_assoc, ← Nat.mul_assoc] at b1
  exact Nat.le_trans (Nat.le_trans b2 h') b1

/-- A number made plain before it is handed on. -/
def forceN {α : Type} (n : Nat) (f : Nat → α) : α := match n with | 0 => f 0 | m + 1 => f (Nat.succ m)
theorem forceN_eq {α : Type} (n : Nat) (f : Nat → α) : forceN n f = f n := by cases n <;> rfl

def lowN (bl l tu dl du : Nat) : Option Nat :=
  match Nat.blt tu bl with
  | true => forceN (F.div .f64 (F.sub .f64 bl tu) du - 4) fun q => match divD (F.sub .f64 bl tu) du q with
    | true => forceN (F.add .f64 l q) some
    | false => none
  | false => forceN (F.div .f64 (F.sub .f64 tu bl) dl + 4) fun q => match divU (F.sub .f64 tu bl) dl q, Nat.ble q l with
    | true, true => forceN (F.sub .f64 l q) some
    | _, _ => none
def upN (bh u tl dl du : Nat) : Option Nat :=
  match Nat.blt bh tl with
  | true => forceN (F.div .f64 (F.sub .f64 tl bh) du - 4) fun q => match divD (F.sub .f64 tl bh) du q with
    | true => forceN (F.sub .f64 u q) some
    | false => none
  | false => forceN (F.div .f64 (F.sub .f64 bh tl) dl + 4) fun q => match divU (F.sub .f64 bh tl) dl q with
    | true => forceN (F.add .f64 u q) some
    | false => none
def nstepA (bl bh l u tl tu dl du : Nat) : Option (Nat × Nat) :=
  match Nat.blt tu infD && (Nat.blt du infD && (Nat.blt 0 dl && (Nat.blt u infD && Nat.blt bh infD))) with
  | false => none
  | true => match lowN bl l tu dl du, upN bh u tl dl du with
    | some a, some b => some (a, b)
    | _, _ => none
def cube3 (r : Nat) : Nat := F.mul .f64 (F.mul .f64 r r) r
def den3 (r : Nat) : Nat := F.mul .f64 (F.mul .f64 c3 r) r
def nstep (bl bh l u : Nat) : Option (Nat × Nat) :=
  forceN (cube3 l) fun tl => forceN (cube3 u) fun tu => forceN (den3 l) fun dl => forceN (den3 u) fun du =>
    match Nat.blt (F.mul .f64 u u) infD && Nat.blt (F.mul .f64 c3 u) infD with
    | true => nstepA bl bh l u tl tu dl du
    | false => none

theorem nstep_ok {bl bh l u l' u' b r : Nat} (h : nstep bl bh l u = some (l', u')) (h1 : bl ≤ b) (h2 : b ≤ bh) (h3 : l ≤ r) (h4 : r ≤ u) : l' ≤ newt b r ∧ newt b r ≤ u' := by
  unfold nstep at h
  simp only [forceN_eq] at h
  split at h
  · rename_i hm
    simp only [Bool.and_eq_true] at hm
    have m1 : F.mul .f64 u u < infD := blt_lt hm.1
    have m2 : F.mul .f64 c3 u < infD := blt_lt hm.2
    unfold nstepA at h
    split at h
    · cases h
    · rename_i hc
      simp only [Bool.and_eq_true] at hc
      obtain ⟨k1, k2, k3, k4, k5⟩ := hc
      have k1 : cube3 u < infD := blt_lt k1
      have k2 : den3 u < infD := blt_lt k2
      have k3 : 0 < den3 l := blt_lt k3
      have k4 : u < infD := blt_lt k4
      have k5 : bh < infD := blt_lt k5
      have kc3 : c3 < infD := by decide
      have ui : u < FloatKind.f64.format.infRung := by rw [infD_eq]; exact k4
      have ri : r < FloatKind.f64.format.infRung := by omega
      -- the cube and the divisor
      have mm : ∀ {x y : Nat}, x ≤ y → y ≤ u → F.mul .f64 x x ≤ F.mul .f64 y y := fun hx hy => mul_bits hx hx (by omega) (by omega)
      have m3 : ∀ {x y : Nat}, x ≤ y → y ≤ u → F.mul .f64 c3 x ≤ F.mul .f64 c3 y := fun hx hy => mul_bits (Nat.le_refl _) hx (by rw [infD_eq]; exact kc3) (by omega)
      have cm : ∀ {x y : Nat}, x ≤ y → y ≤ u → cube3 x ≤ cube3 y := fun {x y} hx hy => mul_bits (mm hx hy) hx (by rw [infD_eq]; have := mm hy (Nat.le_refl _); omega) (by omega)
      have dm : ∀ {x y : Nat}, x ≤ y → y ≤ u → den3 x ≤ den3 y := fun {x y} hx hy => mul_bits (m3 hx hy) hx (by rw [infD_eq]; have := m3 hy (Nat.le_refl _); omega) (by omega)
      have t1 := cm h3 h4
      have t2 := cm h4 (Nat.le_refl _)
      have d1 := dm h3 h4
      have d2 := dm h4 (Nat.le_refl _)
      have hdi : den3 r < FloatKind.f64.format.infRung := by rw [infD_eq]; omega
      have hti : cube3 r < FloatKind.f64.format.infRung := by rw [infD_eq]; omega
      have hbi : b < FloatKind.f64.format.infRung := by rw [infD_eq]; omega
      have bhi : bh < FloatKind.f64.format.infRung := by rw [infD_eq]; omega
      have tui : cube3 u < FloatKind.f64.format.infRung := by rw [infD_eq]; omega
      have hd0 : den3 r ≠ 0 := by omega
      have hnewt : newt b r = F.sub .f64 r (F.div .f64 (F.sub .f64 (cube3 r) b) (den3 r)) := rfl
      split at h
      · rename_i x y hx hy
        cases h
        rw [hnewt]
        rcases Nat.lt_or_ge (cube3 r) b with hlt | hge
        · -- the cube is too small
          have hsb : F.sub .f64 b (cube3 r) ≤ b := sub_le_self hbi (by omega)
          have hsi : F.sub .f64 b (cube3 r) < FloatKind.f64.format.infRung := by omega
          rw [sub_less hbi hlt, div_neg hsi hdi hd0]
          unfold upN at hy
          split at hy
          · rename_i hb
            have hb' : bh < cube3 l := blt_lt hb
            omega
          · simp only [forceN_eq] at hy
            split at hy
            · rename_i hU
              cases hy
              have hsub : F.sub .f64 b (cube3 r) ≤ F.sub .f64 bh (cube3 l) := sub_bits h2 t1 (by omega) bhi
              have hXi : F.sub .f64 bh (cube3 l) < infD := by
                have := sub_le_self (k := .f64) bhi (show cube3 l ≤ bh by omega)
                omega
              have hq := divU_ok hU hsub d1 hXi (by rw [← infD_eq]; exact hdi)
              have hQi : F.div .f64 (F.sub .f64 bh (cube3 l)) (den3 l) + 4 < infD := by
                unfold divU at hU
                simp only [Bool.and_eq_true] at hU
                exact blt_lt hU.2.1
              have hqi : F.div .f64 (F.sub .f64 b (cube3 r)) (den3 r) < FloatKind.f64.format.infRung := by rw [infD_eq]; omega
              rw [sub_word hqi]
              refine ⟨?_, add_bits h4 hq ui (by rw [infD_eq]; exact hQi)⟩
              unfold lowN at hx
              split at hx
              · rename_i hb2
                have hb2' : cube3 u < bl := blt_lt hb2
                simp only [forceN_eq] at hx
                split at hx
                · rename_i hD
                  cases hx
                  have hsub2 : F.sub .f64 bl (cube3 u) ≤ F.sub .f64 b (cube3 r) := sub_bits h1 t2 (by omega) hbi
                  have hq2 := divD_ok hD hsub2 d2 (by rw [← infD_eq]; exact hsi) k2 hd0
                  exact add_bits h3 hq2 ri hqi
                · cases hx
              · simp only [forceN_eq] at hx
                split at hx
                · rename_i hU2 hl2
                  cases hx
                  have g1 := sub_le_self (k := .f64) (show l < FloatKind.f64.format.infRung by omega) (Nat.le_of_ble_eq_true hl2)
                  have g2 := le_add_self ri hqi
                  omega
                · cases hx
            · cases hy
        · -- the cube is great enough
          have hst : F.sub .f64 (cube3 r) b ≤ cube3 r := sub_le_self hti hge
          unfold lowN at hx
          split at hx
          · rename_i hb
            have hb' : cube3 u < bl := blt_lt hb
            omega
          · simp only [forceN_eq] at hx
            split at hx
            · rename_i hU hl2
              cases hx
              have hl2' := Nat.le_of_ble_eq_true hl2
              have hsub : F.sub .f64 (cube3 r) b ≤ F.sub .f64 (cube3 u) bl := sub_bits t2 h1 hge tui
              have hXi : F.sub .f64 (cube3 u) bl < infD := by
                have := sub_le_self (k := .f64) tui (show bl ≤ cube3 u by omega)
                omega
              have hq := divU_ok hU hsub d1 hXi (by rw [← infD_eq]; exact hdi)
              refine ⟨sub_bits h3 hq hl2' ri, ?_⟩
              unfold upN at hy
              split at hy
              · rename_i hb2
                have hb2' : bh < cube3 l := blt_lt hb2
                simp only [forceN_eq] at hy
                split at hy
                · rename_i hD
                  cases hy
                  have hsub2 : F.sub .f64 (cube3 l) bh ≤ F.sub .f64 (cube3 r) b := sub_bits t1 h2 (by omega) hti
                  have hq2 := divD_ok hD hsub2 d2 (by rw [← infD_eq]; omega) k2 hd0
                  exact sub_bits h4 hq2 (by omega) ui
                · cases hy
              · simp only [forceN_eq] at hy
                split at hy
                · rename_i hU2
                  cases hy
                  have hQi : F.div .f64 (F.sub .f64 bh (cube3 l)) (den3 l) + 4 < infD := by
                    unfold divU at hU2
                    simp only [Bool.and_eq_true] at hU2
                    exact blt_lt hU2.2.1
                  have g1 := sub_le_self ri (show F.div .f64 (F.sub .f64 (cube3 r) b) (den3 r) ≤ r by omega)
                  have g2 := le_add_self (k := .f64) ui (show F.div .f64 (F.sub .f64 bh (cube3 l)) (den3 l) + 4 < FloatKind.f64.format.infRung by rw [infD_eq]; exact hQi)
                  omega
                · cases hy
            · cases hx
      · cases h
  · cases h

def nsteps : Nat → Nat → Nat → Nat → Nat → Bool
  | 0, _, _, _, u => Nat.ble u c64
  | n + 1, bl, bh, l, u => match nstep bl bh l u with
    | some (l', u') => nsteps n bl bh l' u'
    | none => false
def newtN (b : Nat) : Nat → Nat → Nat
  | 0, r => r
  | n + 1, r => newtN b n (newt b r)
theorem nsteps_ok {bl bh b : Nat} (h1 : bl ≤ b) (h2 : b ≤ bh) : ∀ (n : Nat) (l u r : Nat), nsteps n bl bh l u = true → l ≤ r → r ≤ u → newtN b n r ≤ c64 := by
  intro n
  induction n with
  | zero => intro l u r h h3 h4; exact Nat.le_trans h4 (Nat.le_of_ble_eq_true h)
  | succ n ih =>
    intro l u r h h3 h4
    simp only [nsteps] at h
    split at h
    · rename_i l' u' hs
      obtain ⟨g1, g2⟩ := nstep_ok hs h1 h2 h3 h4
      exact ih l' u' (newt b r) h g1 g2
    · cases h
def allN (f : Nat → Bool) : Nat → Bool
  | 0 => true
  | n + 1 => match f n with
    | true => allN f n
    | false => false
theorem allN_ok {f : Nat → Bool} {i : Nat} : ∀ {n : Nat}, allN f n = true → i < n → f i = true := by
  intro n
  induction n with
  | zero => intro _ h; omega
  | succ n ih =>
    intro h hi
    simp only [allN] at h
    split at h
    · rename_i h1
      rcases Nat.eq_or_lt_of_le (Nat.le_of_lt_succ hi) with rfl | hlt
      · exact h1
      · exact ih h hlt
    · cases h
def piece (n : Nat) : Bool := forceN (c1 + n * 140737488355328) fun bl => forceN (c1 + (n + 1) * 140737488355328) fun bh => nsteps 6 bl bh c15 c15
theorem pieces96 : allN piece 96 = true := by kernel_rfl
/-- SIX OF NEWTON'S STEPS FROM ONE AND A HALF ON: AT MOST 64. -/
theorem newt6_le {b : Nat} (h1 : c1 ≤ b) (h2 : b < c8) : newtN b 6 c15 ≤ c64 := by
  have hi : (b - c1) / 140737488355328 < 96 := by unfold c1 c8 at *; omega
  have hp := allN_ok pieces96 hi
  unfold piece at hp
  rw [forceN_eq, forceN_eq] at hp
  refine nsteps_ok ?_ ?_ 6 c15 c15 c15 hp (Nat.le_refl _) (Nat.le_refl _)
  · have := Nat.div_mul_le_self (b - c1) 140737488355328
    omega
  · have := Nat.div_add_mod (b - c1) 140737488355328
    have := Nat.mod_lt (b - c1) (show 0 < 140737488355328 by decide)
    rw [Nat.add_mul]
    omega
end Go.Sx
set_option linter.unusedVariables false
set_option linter.unusedSimpArgs false
noncomputable section
namespace Go.Sx
open Go Ieee

def cmin : Nat := 3936146074321813504
def cmax : Nat := 5183643171103440896
def x43 : Nat := 4800837202776948736
def fbt (t : Tm) : Tm := .op (.fbits .f64) t .nil
/-- The word of t is at least n; at most n. -/
def geW (n : Nat) (t : Tm) : Tm × Bool := (.op .lei (.il (Int.ofNat n)) (fbt t), true)
def leW (t : Tm) (n : Nat) : Tm × Bool := (.op .lei (fbt t) (.il (Int.ofNat n)), true)
def eqW (t : Tm) (n : Nat) : Tm × Bool := (.op .eqi (fbt t) (.il (Int.ofNat n)), true)
theorem geW_iff {E : Env} {n : Nat} {t : Tm} : ((geW n t).1.den E).toB = true ↔ n ≤ (t.den E).toF := by
  show decide (Int.ofNat n ≤ Int.ofNat (t.den E).toF) = true ↔ _
  rw [decide_eq_true_eq]; exact Int.ofNat_le
theorem leW_iff {E : Env} {n : Nat} {t : Tm} : ((leW t n).1.den E).toB = true ↔ (t.den E).toF ≤ n := by
  show decide (Int.ofNat (t.den E).toF ≤ Int.ofNat n) = true ↔ _
  rw [decide_eq_true_eq]; exact Int.ofNat_le
theorem eqW_iff {E : Env} {n : Nat} {t : Tm} : ((eqW t n).1.den E).toB = true ↔ (t.den E).toF = n := by
  show decide (Int.ofNat (t.den E).toF = Int.ofNat n) = true ↔ _
  rw [decide_eq_true_eq]; exact Int.ofNat_inj
/-- Places that stay. -/
def extras : Nat → Nat → List Tm
  | 0, _ => []
  | m + 1, j => .var (1000 + j) :: extras m (j + 1)
theorem extras_den (fn : Nat → Sc → Sc) (v : List Sc) : ∀ (m j : Nat), v.length = j + m → (extras m j).map (Tm.den (envV 1000 fn v)) = v.drop j
  | 0, j, h => by simp only [extras, List.map_nil]; exact (List.drop_eq_nil_of_le (by omega)).symm
  | m + 1, j, h => by
    have hj : j < v.length := by omega
    have e : (Tm.var (1000 + j)).den (envV 1000 fn v) = v[j] := by simp [Tm.den, envV, hj]
    simp only [extras, List.map_cons, extras_den fn v m (j + 1) (by omega), e]
    exact (List.drop_eq_getElem_cons hj).symm
theorem at_ofList : ∀ (z : List Sc) (j : Nat), (Sc.ofList z).at_ j = (z[j]?).getD .nil
  | [], j => by cases j <;> rfl
  | a :: r, 0 => rfl
  | a :: r, j + 1 => by simp only [Sc.ofList, Sc.at_succ, at_ofList r j, List.getElem?_cons_succ]
theorem finOf_eq {fn : Nat → Sc → Sc} {N : Nat} {v z : List Sc} (hl : z.length = v.length) (h : fn N (Sc.ofList v) = Sc.ofList z) : finOf fn N v = z := by
  refine List.ext_getElem? fun i => ?_
  unfold finOf
  rw [h, List.getElem?_map]
  rcases Nat.lt_or_ge i v.length with hi | hi
  · have hz : i < z.length := by omega
    simp [hi, at_ofList, hz]
  · have hz : z.length ≤ i := by omega
    simp [hi, hz]

/-! While the number is 8 or more: an eighth of it, and twice the factor -/
def upIt : Nat → Sc → Sc → Sc × Sc
  | 0, b, x => (b, x)
  | n + 1, b, x => match F.le .f64 c8 b.toF with
    | true => upIt n (.f (F.div .f64 b.toF c8)) (.f (F.mul .f64 x.toF c2))
    | false => (b, x)
def upR (b x : Sc) : Sc × Sc := upIt 42 b x
def upF : Sc → Sc
  | .cons b (.cons x r) => .cons (upR b x).1 (.cons (upR b x).2 r)
  | c => c
theorem upF_cons (b x r : Sc) : upF (.cons b (.cons x r)) = .cons (upR b x).1 (.cons (upR b x).2 r) := rfl
def Sup (pl : List Place) (m : Nat) : LoopSpec :=
  { b := 1000, places := pl, N := 30, pre := [geW cmin (.var 1000), leW (.var 1000) cmax, eqW (.var 1001) c1], inv := [geW cmin (.var 1000), leW (.var 1001) x43], post := [leW (.var 1000) (c8 - 1)],
    cond := .op (.fle .f64) (.fl c8) (.var 1000), pol := false, next := .op (.fdiv .f64) (.var 1000) (.fl c8) :: .op (.fmul .f64) (.var 1001) (.fl c2) :: extras m 2 }
def upU : Nat → Nat
  | 0 => cmax
  | n + 1 => forceN (upU n) fun u => F.div .f64 u c8 + 4
def upX : Nat → Nat
  | 0 => c1
  | n + 1 => forceN (upX n) fun x => F.mul .f64 x c2
def upOk (i : Nat) : Bool := forceN (upU i) fun u => forceN (upU (i + 1)) fun u' => Nat.blt u infD && divU u c8 u'
theorem up_tab : allN upOk 42 = true := by kernel_rfl
theorem up_end : Nat.blt (upU 42) c8 = true := by kernel_rfl
def upXok (i : Nat) : Bool := Nat.ble (upX i) x43
theorem up_x : allN upXok 43 = true := by kernel_rfl
theorem c8_low : divD c8 c8 (c1 - 4) = true := by kernel_rfl
theorem upU_lt {i : Nat} (h : i < 42) : upU i < infD := by
  have := allN_ok up_tab h
  simp only [upOk, forceN_eq, Bool.and_eq_true] at this
  exact blt_lt this.1
theorem upU_div {i : Nat} (h : i < 42) : divU (upU i) c8 (upU (i + 1)) = true := by
  have := allN_ok up_tab h
  simp only [upOk, forceN_eq, Bool.and_eq_true] at this
  exact this.2
theorem env0 (fn : Nat → Sc → Sc) (a : Sc) (v : List Sc) : (Tm.var 1000).den (envV 1000 fn (a :: v)) = a := rfl
theorem env1 (fn : Nat → Sc → Sc) (a b : Sc) (v : List Sc) : (Tm.var 1001).den (envV 1000 fn (a :: b :: v)) = b := rfl
theorem env2 (fn : Nat → Sc → Sc) (a b c : Sc) (v : List Sc) : (Tm.var 1002).den (envV 1000 fn (a :: b :: c :: v)) = c := rfl
theorem env3 (fn : Nat → Sc → Sc) (a b c d : Sc) (v : List Sc) : (Tm.var 1003).den (envV 1000 fn (a :: b :: c :: d :: v)) = d := rfl
theorem up_rounds {pl : List Place} {m : Nat} {fn : Nat → Sc → Sc} {rest : List Sc} (hr : rest.length = m) : ∀ (n i : Nat) (b x : Sc), i + n = 42 → b.toF ≤ upU i → cmin ≤ b.toF → x.toF = upX i →
    Rounds (Sup pl m) fn (b :: x :: rest) ((upIt n b x).1 :: (upIt n b x).2 :: rest) ∧ (upIt n b x).1.toF ≤ c8 - 1
  | n, i, b, x, hin, hb, hlo, hx => by
    have hui : upU i < infD := by
      rcases Nat.lt_or_ge i 42 with h | h
      · exact upU_lt h
      · have : i = 42 := by omega
        subst this
        have := blt_lt up_end
        exact Nat.lt_trans this (by decide)
    have hbi : b.toF < infD := by omega
    have hx43 : x.toF ≤ x43 := by rw [hx]; exact Nat.le_of_ble_eq_true (show upXok i = true from allN_ok up_x (by omega))
    have hinv : PcOk (envV (Sup pl m).b fn (b :: x :: rest)) (Sup pl m).inv := by
      intro p hp
      rcases List.mem_cons.1 hp with rfl | hp
      · exact geW_iff.2 hlo
      · rcases List.mem_cons.1 hp with rfl | hp
        · exact leW_iff.2 hx43
        · cases hp
    have hle : F.le .f64 c8 b.toF = decide (c8 ≤ b.toF) := le_pos (by rw [infD_eq]; decide) (by rw [infD_eq]; exact hbi)
    have hcond : ((Sup pl m).cond.den (envV (Sup pl m).b fn (b :: x :: rest))).toB = F.le .f64 c8 b.toF := rfl
    cases hc : F.le .f64 c8 b.toF with
    | false =>
      have hlt : b.toF < c8 := by
        rw [hc] at hle
        have := of_decide_eq_false hle.symm
        omega
      have e : upIt n b x = (b, x) := by
        cases n with
        | zero => rfl
        | succ n => simp only [upIt, hc]
      rw [e]
      exact ⟨.stop hinv (by rw [hcond, hc]; rfl), by simp only; omega⟩
    | true =>
      have hge : c8 ≤ b.toF := by
        rw [hc] at hle
        exact of_decide_eq_true hle.symm
      cases n with
      | zero =>
        have : i = 42 := by omega
        subst this
        have := blt_lt up_end
        omega
      | succ n =>
        have hi : i < 42 := by omega
        have h1 : F.div .f64 b.toF c8 ≤ upU (i + 1) := divU_ok (upU_div hi) hb (Nat.le_refl _) hui (by decide)
        have h2 : cmin ≤ F.div .f64 b.toF c8 := Nat.le_trans (by decide) (divD_ok c8_low hge (Nat.le_refl _) hbi (by decide) (by decide))
        have h3 : F.mul .f64 x.toF c2 = upX (i + 1) := by rw [hx]; simp only [upX, forceN_eq]
        obtain ⟨g1, g2⟩ := up_rounds (pl := pl) (fn := fn) hr n (i + 1) (.f (F.div .f64 b.toF c8)) (.f (F.mul .f64 x.toF c2)) (by omega) h1 h2 h3
        have e : upIt (n + 1) b x = upIt n (.f (F.div .f64 b.toF c8)) (.f (F.mul .f64 x.toF c2)) := by simp only [upIt, hc]
        rw [e]
        refine ⟨.more hinv (by rw [hcond, hc]; rfl) ?_, g2⟩
        have en : (Sup pl m).next.map (Tm.den (envV (Sup pl m).b fn (b :: x :: rest))) = .f (F.div .f64 b.toF c8) :: .f (F.mul .f64 x.toF c2) :: rest := by
          show _ :: _ :: (extras m 2).map (Tm.den (envV 1000 fn (b :: x :: rest))) = _
          rw [extras_den fn _ m 2 (by simp; omega)]
          rfl
        rw [en]
        exact g1
theorem up_law {pl : List Place} {m : Nat} (hl : pl.length = m + 2) {fn : Nat → Sc → Sc} (hf : ∀ c, fn 30 c = upF c) : LoopLaw (Sup pl m) fn := by
  intro v hv hpre
  have hv' : v.length = m + 2 := hv.trans hl
  obtain ⟨b, x, rest, rfl⟩ : ∃ b x rest, v = b :: x :: rest := by
    cases v with
    | nil => simp at hv'
    | cons b v => cases v with
      | nil => simp at hv'
      | cons x rest => exact ⟨b, x, rest, rfl⟩
  have hr : rest.length = m := by simpa using hv'
  have p1 := geW_iff.1 (hpre _ (List.mem_cons_self ..))
  have p2 := leW_iff.1 (hpre _ (List.mem_cons_of_mem _ (List.mem_cons_self ..)))
  have p3 := eqW_iff.1 (hpre _ (List.mem_cons_of_mem _ (List.mem_cons_of_mem _ (List.mem_cons_self ..))))
  have g := up_rounds (pl := pl) (fn := fn) hr 42 0 b x rfl p2 p1 p3
  rw [← upR] at g
  obtain ⟨g1, g2⟩ := g
  have e : finOf fn (Sup pl m).N (b :: x :: rest) = (upR b x).1 :: (upR b x).2 :: rest := finOf_eq (by simp) (by
    show fn 30 (Sc.ofList (b :: x :: rest)) = _
    rw [hf]; exact upF_cons ..)
  rw [e]
  refine ⟨g1, fun p hp => ?_⟩
  rcases List.mem_cons.1 hp with rfl | hp
  · exact leW_iff.2 g2
  · cases hp

/-! While the number is less than 1: eight times it, and half the factor -/
def dnIt : Nat → Sc → Sc → Sc × Sc
  | 0, b, x => (b, x)
  | n + 1, b, x => match F.lt .f64 b.toF c1 with
    | true => dnIt n (.f (F.mul .f64 b.toF c8)) (.f (F.div .f64 x.toF c2))
    | false => (b, x)
def dnR (b x : Sc) : Sc × Sc := dnIt 50 b x
def dnF : Sc → Sc
  | .cons b (.cons x r) => .cons (dnR b x).1 (.cons (dnR b x).2 r)
  | c => c
theorem dnF_cons (b x r : Sc) : dnF (.cons b (.cons x r)) = .cons (dnR b x).1 (.cons (dnR b x).2 r) := rfl
def Sdn (pl : List Place) (m : Nat) : LoopSpec :=
  { b := 1000, places := pl, N := 31, pre := [geW cmin (.var 1000), leW (.var 1000) (c8 - 1), leW (.var 1001) x43], inv := [leW (.var 1000) (c8 - 1), leW (.var 1001) x43], post := [geW c1 (.var 1000)],
    cond := .op (.flt .f64) (.var 1000) (.fl c1), pol := false, next := .op (.fmul .f64) (.var 1000) (.fl c8) :: .op (.fdiv .f64) (.var 1001) (.fl c2) :: extras m 2 }
def dnL : Nat → Nat
  | 0 => cmin
  | n + 1 => forceN (dnL n) fun u => F.mul .f64 u c8
theorem dn_end : Nat.ble c1 (dnL 50) = true := by kernel_rfl
theorem dn_top : Nat.ble (F.mul .f64 (c1 - 1) c8) (c8 - 1) = true := by kernel_rfl
theorem dn_x : divU x43 c2 x43 = true := by kernel_rfl
theorem dn_rounds {pl : List Place} {m : Nat} {fn : Nat → Sc → Sc} {rest : List Sc} (hr : rest.length = m) : ∀ (n i : Nat) (b x : Sc), i + n = 50 → dnL i ≤ b.toF → b.toF ≤ c8 - 1 → x.toF ≤ x43 →
    Rounds (Sdn pl m) fn (b :: x :: rest) ((dnIt n b x).1 :: (dnIt n b x).2 :: rest) ∧ c1 ≤ (dnIt n b x).1.toF
  | n, i, b, x, hin, hlo, hb, hx => by
    have hbi : b.toF < infD := Nat.lt_of_le_of_lt hb (by decide)
    have hinv : PcOk (envV (Sdn pl m).b fn (b :: x :: rest)) (Sdn pl m).inv := by
      intro p hp
      rcases List.mem_cons.1 hp with rfl | hp
      · exact leW_iff.2 hb
      · rcases List.mem_cons.1 hp with rfl | hp
        · exact leW_iff.2 hx
        · cases hp
    have hlt : F.lt .f64 b.toF c1 = decide (b.toF < c1) := lt_pos (by rw [infD_eq]; exact hbi) (by rw [infD_eq]; decide)
    have hcond : ((Sdn pl m).cond.den (envV (Sdn pl m).b fn (b :: x :: rest))).toB = F.lt .f64 b.toF c1 := rfl
    cases hc : F.lt .f64 b.toF c1 with
    | false =>
      have hge : c1 ≤ b.toF := by
        rw [hc] at hlt
        have := of_decide_eq_false hlt.symm
        omega
      have e : dnIt n b x = (b, x) := by
        cases n with
        | zero => rfl
        | succ n => simp only [dnIt, hc]
      rw [e]
      exact ⟨.stop hinv (by rw [hcond, hc]; rfl), hge⟩
    | true =>
      have hl : b.toF < c1 := by
        rw [hc] at hlt
        exact of_decide_eq_true hlt.symm
      cases n with
      | zero =>
        have : i = 50 := by omega
        subst this
        have := Nat.le_of_ble_eq_true dn_end
        omega
      | succ n =>
        have h1 : dnL (i + 1) ≤ F.mul .f64 b.toF c8 := by
          simp only [dnL, forceN_eq]
          exact mul_bits hlo (Nat.le_refl _) (by rw [infD_eq]; exact hbi) (by rw [infD_eq]; decide)
        have h2 : F.mul .f64 b.toF c8 ≤ c8 - 1 := Nat.le_trans (mul_bits (k := .f64) (show b.toF ≤ c1 - 1 by omega) (Nat.le_refl _) (by rw [infD_eq]; decide) (by rw [infD_eq]; decide)) (Nat.le_of_ble_eq_true dn_top)
        have h3 : F.div .f64 x.toF c2 ≤ x43 := divU_ok dn_x hx (Nat.le_refl _) (by decide) (by decide)
        obtain ⟨g1, g2⟩ := dn_rounds (pl := pl) (fn := fn) hr n (i + 1) (.f (F.mul .f64 b.toF c8)) (.f (F.div .f64 x.toF c2)) (by omega) h1 h2 h3
        have e : dnIt (n + 1) b x = dnIt n (.f (F.mul .f64 b.toF c8)) (.f (F.div .f64 x.toF c2)) := by simp only [dnIt, hc]
        rw [e]
        refine ⟨.more hinv (by rw [hcond, hc]; rfl) ?_, g2⟩
        have en : (Sdn pl m).next.map (Tm.den (envV (Sdn pl m).b fn (b :: x :: rest))) = .f (F.mul .f64 b.toF c8) :: .f (F.div .f64 x.toF c2) :: rest := by
          show _ :: _ :: (extras m 2).map (Tm.den (envV 1000 fn (b :: x :: rest))) = _
          rw [extras_den fn _ m 2 (by simp; omega)]
          rfl
        rw [en]
        exact g1
theorem dn_law {pl : List Place} {m : Nat} (hl : pl.length = m + 2) {fn : Nat → Sc → Sc} (hf : ∀ c, fn 31 c = dnF c) : LoopLaw (Sdn pl m) fn := by
  intro v hv hpre
  have hv' : v.length = m + 2 := hv.trans hl
  obtain ⟨b, x, rest, rfl⟩ : ∃ b x rest, v = b :: x :: rest := by
    cases v with
    | nil => simp at hv'
    | cons b v => cases v with
      | nil => simp at hv'
      | cons x rest => exact ⟨b, x, rest, rfl⟩
  have hr : rest.length = m := by simpa using hv'
  have p1 := geW_iff.1 (hpre _ (List.mem_cons_self ..))
  have p2 := leW_iff.1 (hpre _ (List.mem_cons_of_mem _ (List.mem_cons_self ..)))
  have p3 := leW_iff.1 (hpre _ (List.mem_cons_of_mem _ (List.mem_cons_of_mem _ (List.mem_cons_self ..))))
  have g := dn_rounds (pl := pl) (fn := fn) hr 50 0 b x rfl p1 p2 p3
  rw [← dnR] at g
  obtain ⟨g1, g2⟩ := g
  have e : finOf fn (Sdn pl m).N (b :: x :: rest) = (dnR b x).1 :: (dnR b x).2 :: rest := finOf_eq (by simp) (by
    show fn 31 (Sc.ofList (b :: x :: rest)) = _
    rw [hf]; exact dnF_cons ..)
  rw [e]
  refine ⟨g1, fun p hp => ?_⟩
  rcases List.mem_cons.1 hp with rfl | hp
  · exact geW_iff.2 g2
  · cases hp

/-! Six of Newton's steps -/
def nwIt : Nat → Sc → Sc → Sc → Sc × Sc
  | 0, r, i, _ => (r, i)
  | n + 1, r, i, b => nwIt n (.f (newt b.toF r.toF)) (.i (IntKind.i64.wrap (i.toI + 1))) b
def nwR (r i b : Sc) : Sc × Sc := nwIt 6 r i b
def nwF : Sc → Sc
  | .cons r (.cons i (.cons b rest)) => .cons (nwR r i b).1 (.cons (nwR r i b).2 (.cons b rest))
  | c => c
theorem nwF_cons (r i b rest : Sc) : nwF (.cons r (.cons i (.cons b rest))) = .cons (nwR r i b).1 (.cons (nwR r i b).2 (.cons b rest)) := rfl
def newtT : Tm :=
  .op (.fsub .f64) (.var 1000) (.op (.fdiv .f64) (.op (.fsub .f64) (.op (.fmul .f64) (.op (.fmul .f64) (.var 1000) (.var 1000)) (.var 1000)) (.var 1002)) (.op (.fmul .f64) (.op (.fmul .f64) (.fl c3) (.var 1000)) (.var 1000)))
def rxT : Tm := .op (.fmul .f64) (.var 1000) (.var 1003)
def Snw (pl : List Place) (m : Nat) : LoopSpec :=
  { b := 1000, places := pl, N := 32, pre := [eqW (.var 1000) c15, (.op .eqi (.var 1001) (.il 0), true), geW c1 (.var 1002), leW (.var 1002) (c8 - 1), leW (.var 1003) x43], inv := [],
    post := [(.op (.convok .f64 .f32) rxT .nil, true), (.op (.convok .f64 .f32) (.op (.fneg .f64) rxT .nil) .nil, true)],
    cond := .op .lti (.var 1001) (.il 6), pol := false, next := newtT :: .op (.addi .i64) (.var 1001) (.il 1) :: extras (m + 2) 2 }
theorem nw_r : ∀ (n : Nat) (r i b : Sc), (nwIt n r i b).1.toF = newtN b.toF n r.toF
  | 0, _, _, _ => rfl
  | n + 1, r, i, b => by simp only [nwIt, newtN, nw_r n]; rfl
theorem nw_rounds {pl : List Place} {m : Nat} {fn : Nat → Sc → Sc} {b x : Sc} {rest : List Sc} (hr : rest.length = m) : ∀ (n : Nat) (r i : Sc), n ≤ 6 → i.toI = 6 - n →
    Rounds (Snw pl m) fn (r :: i :: b :: x :: rest) ((nwIt n r i b).1 :: (nwIt n r i b).2 :: b :: x :: rest)
  | n, r, i, hn, hi => by
    have hinv : PcOk (envV (Snw pl m).b fn (r :: i :: b :: x :: rest)) (Snw pl m).inv := fun p hp => by cases hp
    have hcond : ((Snw pl m).cond.den (envV (Snw pl m).b fn (r :: i :: b :: x :: rest))).toB = decide (i.toI < 6) := rfl
    cases n with
    | zero => exact .stop hinv (by rw [hcond]; exact decide_eq_false (by omega))
    | succ n =>
      refine .more hinv (by rw [hcond]; exact decide_eq_true (by omega)) ?_
      have hw : IntKind.i64.wrap (i.toI + 1) = i.toI + 1 := wrap_in .i64 (by rw [← kmin_eq]; show (-9223372036854775808 : Int) ≤ _; omega) (by rw [← kmax_eq]; show _ ≤ (9223372036854775807 : Int); omega)
      have en : (Snw pl m).next.map (Tm.den (envV (Snw pl m).b fn (r :: i :: b :: x :: rest))) = .f (newt b.toF r.toF) :: .i (IntKind.i64.wrap (i.toI + 1)) :: b :: x :: rest := by
        show _ :: _ :: (extras (m + 2) 2).map (Tm.den (envV 1000 fn (r :: i :: b :: x :: rest))) = _
        rw [extras_den fn _ (m + 2) 2 (by simp; omega)]
        rfl
      rw [en]
      exact nw_rounds hr n _ _ (by omega) (by show IntKind.i64.wrap (i.toI + 1) = _; rw [hw]; omega)

/-! The other sign -/
theorem xor_top {x n : Nat} (h : x < 2 ^ n) : x ^^^ 2 ^ n = 2 ^ n + x := by
  apply Nat.eq_of_testBit_eq
  intro j
  rw [Nat.testBit_xor, Nat.testBit_two_pow]
  rcases Nat.lt_trichotomy j n with hj | hj | hj
  · rw [Nat.testBit_two_pow_add_gt hj]
    have : decide (n = j) = false := decide_eq_false (by omega)
    rw [this, Bool.xor_false]
  · subst hj
    rw [Nat.testBit_two_pow_add_eq]
    simp
  · have e1 : x.testBit j = false := Nat.testBit_lt_two_pow (Nat.lt_trans h (Nat.pow_lt_pow_right (by omega) hj))
    have e2 : (2 ^ n + x).testBit j = false := Nat.testBit_lt_two_pow (by
      have : 2 ^ (n + 1) ≤ 2 ^ j := Nat.pow_le_pow_right (by omega) hj
      rw [Nat.pow_succ] at this
      omega)
    have : decide (n = j) = false := decide_eq_false (by omega)
    rw [e1, e2, this]; rfl
theorem neg_pos (k : FloatKind) {x : Nat} (h : x < k.format.infRung) : F.neg k x = k.format.word true x := by
  have hs := inf_lt_sign k.format
  have e : Op.negFloat k x = k.format.word true x := by
    unfold Op.negFloat
    have hw : k.format.signWeight = 2 ^ (k.format.exponentBits + k.format.fractionBits) := rfl
    rw [xor_top (by rw [← hw]; omega)]
    simp [Format.word, hw]
  unfold F.neg
  rw [e]
  obtain ⟨m, i, h1, _, _⟩ := read_pos k.format h
  refine canon_not k _ ?_
  unfold isNan
  rw [read_neg h h1]
  rfl
theorem narrow_neg {w : Nat} (h : w ≤ topR) : F.convOk .f64 .f32 (F.neg .f64 w) = true ∧ F.conv .f64 .f32 (F.neg .f64 w) = F.neg .f32 (F.conv .f64 .f32 w) ∧ F.conv .f64 .f32 w < FloatKind.f32.format.infRung := by
  have hlt : w < double.infRung := Nat.lt_of_le_of_lt h (by decide)
  obtain ⟨m, e, h1, h2⟩ := narrow_pos hlt
  have h3 : RgN single (valN double w) (-1074) ≤ RgN single (valN double topR) (-1074) := RgN_mono single (by decide) (valN_le.2 h)
  have h4 : RgN single (valN double topR) (-1074) < single.infRung := by decide +kernel
  have hz : RgN single (valN double w) (-1074) < single.infRung := Nat.lt_of_le_of_lt h3 h4
  have hn : F.neg .f64 w = double.word true w := neg_pos .f64 hlt
  have hrn : double.read (double.word true w) = .number true m e := read_neg (k := .f64) hlt h1
  have hw1 : single.write (.number true m e) = single.word true (single.write (.number false m e)) := nearest_neg single true m e
  rw [h1] at h2
  have hconv : F.conv .f64 .f32 w = RgN single (valN double w) (-1074) := by
    unfold F.conv
    simp only [reduceCtorEq, if_false]
    show (match double.read w with
      | .nan _ _ => nanOf .f32
      | y => single.write y) = _
    rw [h1]
    exact h2
  have hconvn : F.conv .f64 .f32 (F.neg .f64 w) = single.word true (RgN single (valN double w) (-1074)) := by
    rw [hn]
    unfold F.conv
    simp only [reduceCtorEq, if_false]
    show (match double.read (double.word true w) with
      | .nan _ _ => nanOf .f32
      | y => single.write y) = _
    rw [hrn]
    show single.write (.number true m e) = _
    rw [hw1, h2]
  refine ⟨?_, ?_, by rw [hconv]; exact hz⟩
  · rw [hn]
    unfold F.convOk
    simp only [reduceCtorEq, if_false]
    show (match double.read (double.word true w) with
      | .number n m e => !(single.read (single.write (.number n m e))).isInfinity
      | _ => true) = true
    rw [hrn]
    simp only
    rw [hw1, h2]
    obtain ⟨m', e', g1, _⟩ := read_pos single hz
    rw [show single.read (single.word true (RgN single (valN double w) (-1074))) = .number true m' e' from read_neg (k := .f32) hz g1]
    rfl
  · rw [hconvn, hconv]
    exact (neg_pos .f32 hz).symm
theorem rx_top : Nat.ble (F.mul .f64 c64 x43) topR = true := by kernel_rfl
theorem rx_le {r x : Nat} (hr : r ≤ c64) (hx : x ≤ x43) : F.mul .f64 r x ≤ topR :=
  Nat.le_trans (mul_bits (k := .f64) hr hx (by rw [infD_eq]; decide) (by rw [infD_eq]; decide)) (Nat.le_of_ble_eq_true rx_top)
theorem nw_law {pl : List Place} {m : Nat} (hl : pl.length = m + 4) {fn : Nat → Sc → Sc} (hf : ∀ c, fn 32 c = nwF c) : LoopLaw (Snw pl m) fn := by
  intro v hv hpre
  have hv' : v.length = m + 4 := hv.trans hl
  obtain ⟨r, i, b, x, rest, rfl⟩ : ∃ r i b x rest, v = r :: i :: b :: x :: rest := by
    cases v with
    | nil => simp at hv'
    | cons r v => cases v with
      | nil => simp at hv'
      | cons i v => cases v with
        | nil => simp at hv'
        | cons b v => cases v with
          | nil => simp at hv'
          | cons x rest => exact ⟨r, i, b, x, rest, rfl⟩
  have hr : rest.length = m := by simpa using hv'
  have q2 := List.mem_cons_of_mem (eqW (.var 1000) c15) (List.mem_cons_self (a := (Tm.op .eqi (.var 1001) (.il 0), true)) (l := [geW c1 (.var 1002), leW (.var 1002) (c8 - 1), leW (.var 1003) x43]))
  have p1 := eqW_iff.1 (hpre _ (List.mem_cons_self ..))
  have p2 : i.toI = 0 := of_decide_eq_true (hpre _ q2)
  have p3 := geW_iff.1 (hpre _ (List.mem_cons_of_mem _ (List.mem_cons_of_mem _ (List.mem_cons_self ..))))
  have p4 := leW_iff.1 (hpre _ (List.mem_cons_of_mem _ (List.mem_cons_of_mem _ (List.mem_cons_of_mem _ (List.mem_cons_self ..)))))
  have p5 := leW_iff.1 (hpre _ (List.mem_cons_of_mem _ (List.mem_cons_of_mem _ (List.mem_cons_of_mem _ (List.mem_cons_of_mem _ (List.mem_cons_self ..))))))
  have g := nw_rounds (pl := pl) (fn := fn) (b := b) (x := x) hr 6 r i (Nat.le_refl _) (by omega)
  rw [← nwR] at g
  have hb1 : c1 ≤ b.toF := p3
  have hb2 : b.toF ≤ c8 - 1 := p4
  have hx : x.toF ≤ x43 := p5
  have hr0 : r.toF = c15 := p1
  have hrr : (nwR r i b).1.toF ≤ c64 := by
    rw [nwR, nw_r, hr0]
    exact newt6_le hb1 (Nat.lt_of_le_of_lt hb2 (by decide))
  have e : finOf fn (Snw pl m).N (r :: i :: b :: x :: rest) = (nwR r i b).1 :: (nwR r i b).2 :: b :: x :: rest := finOf_eq (by simp) (by
    show fn 32 (Sc.ofList (r :: i :: b :: x :: rest)) = _
    rw [hf]; exact nwF_cons ..)
  rw [e]
  refine ⟨g, fun p hp => ?_⟩
  have hy := rx_le hrr hx
  rcases List.mem_cons.1 hp with rfl | hp
  · exact narrow_ok hy
  · rcases List.mem_cons.1 hp with rfl | hp
    · exact (narrow_neg hy).1
    · cases hp
end Go.Sx
set_option linter.unusedVariables false
set_option linter.unusedSimpArgs false
noncomputable section
namespace Go.Sx
open Go Ieee

theorem num0 {a : Nat} {s : Bool} {m : Nat} {e : Int} (hr : single.read a = .number s m e) : F.eq .f32 a 0 = (m == 0) ∧ F.lt .f32 a 0 = (s && !(m == 0)) := by
  have h0 : FloatKind.f32.format.read 0 = .number false 0 FloatKind.f32.format.leastPlace := read_zero .f32
  have hr' : FloatKind.f32.format.read a = .number s m e := hr
  unfold F.eq F.lt Format.order
  rw [hr', h0]
  have e0 : ∀ u : Nat, signed false 0 u = 0 := fun u => by simp [signed]
  simp only [Datum.order, e0]
  generalize (e - min e FloatKind.f32.format.leastPlace).toNat = u
  cases m with
  | zero =>
    have : signed s 0 u = 0 := by simp [signed]
    rw [this]
    cases s <;> decide
  | succ m =>
    have hp : 0 < (m + 1) <<< u := by rw [Nat.shiftLeft_eq]; exact Nat.mul_pos (Nat.succ_pos m) (Nat.pow_pos (by decide))
    cases s
    · have hl : 0 < signed false (m + 1) u := by simp only [signed, Bool.false_eq_true, if_false]; omega
      have : compare (signed false (m + 1) u) 0 = .gt := by rw [Int.compare_eq_gt]; exact hl
      rw [this]
      constructor <;> rfl
    · have hl : signed true (m + 1) u < 0 := by simp only [signed, if_true]; omega
      have : compare (signed true (m + 1) u) 0 = .lt := by rw [Int.compare_eq_lt]; exact hl
      rw [this]
      constructor <;> rfl
theorem cv_top : Nat.ble (RgN double (2 ^ 24 * 2 ^ (104 + 1074)) (-1074)) cmax = true := by kernel_rfl
theorem cv_low : Nat.ble cmin (RgN double (2 ^ (1074 - 149)) (-1074)) = true := by kernel_rfl
theorem cv_fin {a : Nat} (hf : F.fin .f32 a = true) : ∃ s z, F.conv .f32 .f64 a = double.word s z ∧ z ≤ cmax ∧ (F.eq .f32 a 0 = false → cmin ≤ z ∧ F.lt .f32 a 0 = s) := by
  unfold F.fin at hf
  cases hr : FloatKind.f32.format.read a with
  | infinity s => rw [hr] at hf; cases hf
  | nan s t => rw [hr] at hf; cases hf
  | number s m e =>
    obtain ⟨h1, h2, h3⟩ := single_read a hr
    obtain ⟨n1, n2⟩ := num0 (a := a) hr
    have hz : double.nearest false m e = RgN double (m * 2 ^ (e - (-1074)).toNat) (-1074) := nearest_RgN double (b := -1074) (by omega) (by decide)
    refine ⟨s, double.nearest false m e, ?_, ?_, fun h0 => ?_⟩
    · unfold F.conv
      simp only [reduceCtorEq, if_false]
      show (match single.read a with
        | .nan _ _ => nanOf .f64
        | y => double.write y) = _
      rw [show single.read a = .number s m e from hr]
      exact nearest_neg double s m e
    · rw [hz]
      refine Nat.le_trans (RgN_mono double (by decide) ?_) (Nat.le_of_ble_eq_true cv_top)
      have hp : (e - (-1074)).toNat ≤ 104 + 1074 := by omega
      generalize (e - (-1074)).toNat = u at hp
      generalize 104 + 1074 = w at hp
      exact Nat.mul_le_mul (Nat.le_of_lt h1) (Nat.pow_le_pow_right (by omega) hp)
    · have hm : m ≠ 0 := by
        rintro rfl
        rw [n1] at h0
        cases h0
      refine ⟨?_, ?_⟩
      · rw [hz]
        refine Nat.le_trans (Nat.le_of_ble_eq_true cv_low) (RgN_mono double (by decide) ?_)
        have hp : 1074 - 149 ≤ (e - (-1074)).toNat := by omega
        generalize (e - (-1074)).toNat = u at hp
        generalize 1074 - 149 = w at hp
        exact Nat.le_trans (Nat.pow_le_pow_right (by omega) hp) (Nat.le_mul_of_pos_left _ (Nat.pos_of_ne_zero hm))
      · rw [n2]
        have : (m == 0) = false := by simpa using hm
        rw [this]; simp
theorem abs_word {s : Bool} {z : Nat} (h : z < double.infRung) : F.abs .f64 (double.word s z) = z := by
  have hs := inf_lt_sign double
  obtain ⟨m, e, h1, _, _⟩ := read_pos double h
  have hn : isNan .f64 (double.word s z) = false := by
    unfold isNan
    cases s
    · rw [word_pos]
      rw [show FloatKind.f64.format.read z = .number false m e from h1]; rfl
    · rw [show FloatKind.f64.format.read (double.word true z) = .number true m e from read_neg (k := .f64) h h1]; rfl
  unfold F.abs
  rw [hn]
  simp only [Bool.false_eq_true, if_false]
  show double.word s z % double.signWeight = z
  cases s
  · rw [word_pos]; exact Nat.mod_eq_of_lt (by omega)
  · have e0 : double.word true z = double.signWeight + z := by simp [Format.word]
    rw [e0, Nat.add_mod_left]; exact Nat.mod_eq_of_lt (by omega)
theorem neg_word {z : Nat} (h : z < double.infRung) : F.neg .f64 (double.word true z) = z := by
  have hs := inf_lt_sign double
  have e0 : double.word true z = 2 ^ 63 + z := by
    have : double.signWeight = 2 ^ 63 := by decide
    simp [Format.word, this]
  have hz : z < 2 ^ 63 := by
    have : double.signWeight = 2 ^ 63 := by decide
    omega
  have e1 : Op.negFloat .f64 (double.word true z) = z := by
    unfold Op.negFloat
    show double.word true z ^^^ 2 ^ 63 = z
    rw [e0, ← xor_top hz, Nat.xor_assoc, Nat.xor_self, Nat.xor_zero]
  unfold F.neg
  rw [e1]
  obtain ⟨m, e, h1, _, _⟩ := read_pos double h
  refine canon_not .f64 _ ?_
  unfold isNan
  rw [show FloatKind.f64.format.read z = .number false m e from h1]
  rfl

/-! The terms -/
def cvA : Tm := .op (.conv .f32 .f64) (.var 0) .nil
def isNg : Tm := .op (.flt .f32) (.var 0) (.fl 0)
def is0 : Tm := .op (.feq .f32) (.var 0) (.fl 0)
/-- The number without its sign, as the reference and as the program write it. -/
def b0S : Tm := .ite isNg (.op (.fneg .f64) cvA .nil) cvA
def b0I : Tm := .op (.fabs .f64) cvA .nil
def pcCb (b0 : Tm) : PC := [(.op (.ffin .f32) (.var 0) .nil, true), (.ite is0 (.bl true) (leW b0 cmax).1, true), (.ite is0 (.bl true) (geW cmin b0).1, true)]
def cbU (b0 : Tm) : Tm := .app 30 (listT [b0, .fl c1, .var 0])
def cbD (b0 : Tm) : Tm := .app 31 (listT [.nth 0 (cbU b0), .nth 1 (cbU b0), .var 0])
def cbN (b0 : Tm) : Tm := .app 32 (listT [.fl c15, .il 0, .nth 0 (cbD b0), .nth 1 (cbD b0), .var 0])
def cbY (b0 : Tm) : Tm := .op (.fmul .f64) (.nth 0 (cbN b0)) (.nth 1 (cbD b0))
def CBs : Tm := .ite is0 (listT [.fl 0, .il 0]) (listT [.ite isNg (.op (.fneg .f32) (.op (.conv .f64 .f32) (cbY b0S) .nil) .nil) (.op (.conv .f64 .f32) (cbY b0S) .nil), .il 0])
def CBi : Tm := listT [.ite is0 (.fl 0) (.ite isNg (.op (.conv .f64 .f32) (.op (.fneg .f64) (cbY b0I) .nil) .nil) (.op (.conv .f64 .f32) (cbY b0I) .nil))]

section
variable {E : Env}
theorem b0_eq (hf : F.fin .f32 (E.v 0).toF = true) (h0 : (is0.den E).toB = false) : ∃ z, b0S.den E = .f z ∧ b0I.den E = .f z ∧ cmin ≤ z ∧ z ≤ cmax := by
  obtain ⟨s, z, h1, h2, h3⟩ := cv_fin hf
  obtain ⟨h4, h5⟩ := h3 h0
  have hz : z < double.infRung := Nat.lt_of_le_of_lt h2 (by decide)
  have hc : cvA.den E = .f (double.word s z) := by
    show Sc.f (F.conv .f32 .f64 (E.v 0).toF) = _
    rw [h1]
  have hng : (isNg.den E).toB = s := h5
  refine ⟨z, ?_, ?_, h4, h2⟩
  · simp only [b0S, Tm.den, hng, hc]
    cases s
    · simp only [Bool.false_eq_true, if_false]; rw [word_pos]
    · simp only [if_true, Opc.den, Sc.toF_f]; rw [neg_word hz]
  · simp only [b0I, Tm.den, hc, Opc.den, Sc.toF_f]
    rw [abs_word hz]
theorem pcCb_ok (hf : F.fin .f32 (E.v 0).toF = true) : PcOk E (pcCb b0S) ∧ PcOk E (pcCb b0I) := by
  have key : ∀ b0 : Tm, ((is0.den E).toB = false → ∃ z, b0.den E = .f z ∧ cmin ≤ z ∧ z ≤ cmax) → PcOk E (pcCb b0) := by
    intro b0 h p hp
    rcases List.mem_cons.1 hp with rfl | hp
    · exact hf
    · have one : ∀ q : Tm × Bool, ((is0.den E).toB = false → (q.1.den E).toB = true) → ((Tm.ite is0 (.bl true) q.1).den E).toB = true := by
        intro q hq
        simp only [Tm.den]
        cases hc : (is0.den E).toB with
        | true => rfl
        | false => simp only [Bool.false_eq_true, if_false]; exact hq hc
      rcases List.mem_cons.1 hp with rfl | hp
      · refine one (leW b0 cmax) fun h0 => ?_
        obtain ⟨z, e, _, h2⟩ := h h0
        exact leW_iff.2 (by rw [e]; exact h2)
      · rcases List.mem_cons.1 hp with rfl | hp
        · refine one (geW cmin b0) fun h0 => ?_
          obtain ⟨z, e, h1, _⟩ := h h0
          exact geW_iff.2 (by rw [e]; exact h1)
        · cases hp
  exact ⟨key _ fun h0 => by obtain ⟨z, e, _, h1, h2⟩ := b0_eq hf h0; exact ⟨z, e, h1, h2⟩, key _ fun h0 => by obtain ⟨z, _, e, h1, h2⟩ := b0_eq hf h0; exact ⟨z, e, h1, h2⟩⟩
/-- The product that is made single is not great. -/
theorem y_le (h30 : ∀ c, E.fn 30 c = upF c) (h31 : ∀ c, E.fn 31 c = dnF c) (h32 : ∀ c, E.fn 32 c = nwF c) {b0 : Tm} (h1 : cmin ≤ (b0.den E).toF) (h2 : (b0.den E).toF ≤ cmax) : ((cbY b0).den E).toF ≤ F.mul .f64 c64 x43 := by
  have eU : (cbU b0).den E = .cons (upR (b0.den E) (.f c1)).1 (.cons (upR (b0.den E) (.f c1)).2 (.cons (E.v 0) .nil)) := by
    show E.fn 30 _ = _
    rw [h30]; rfl
  obtain ⟨g1, g2⟩ := up_rounds (pl := []) (m := 1) (fn := E.fn) (rest := [E.v 0]) rfl 42 0 (b0.den E) (.f c1) rfl h2 h1 rfl
  obtain ⟨g3, _⟩ := g1.end_
  have k1 := geW_iff.1 (g3 _ (List.mem_cons_self ..))
  have k2 := leW_iff.1 (g3 _ (List.mem_cons_of_mem _ (List.mem_cons_self ..)))
  have k1 : cmin ≤ (upR (b0.den E) (.f c1)).1.toF := k1
  have k2 : (upR (b0.den E) (.f c1)).2.toF ≤ x43 := k2
  have g2 : (upR (b0.den E) (.f c1)).1.toF ≤ c8 - 1 := g2
  generalize hb1 : (upR (b0.den E) (.f c1)).1 = B1 at *
  generalize hx1 : (upR (b0.den E) (.f c1)).2 = X1 at *
  have eD : (cbD b0).den E = .cons (dnR B1 X1).1 (.cons (dnR B1 X1).2 (.cons (E.v 0) .nil)) := by
    show E.fn 31 (.cons (((cbU b0).den E).at_ 0) (.cons (((cbU b0).den E).at_ 1) (.cons (E.v 0) .nil))) = _
    rw [h31, eU]; rfl
  obtain ⟨r1, r2⟩ := dn_rounds (pl := []) (m := 1) (fn := E.fn) (rest := [E.v 0]) rfl 50 0 B1 X1 rfl k1 g2 k2
  obtain ⟨r3, _⟩ := r1.end_
  have q1 := leW_iff.1 (r3 _ (List.mem_cons_self ..))
  have q2 := leW_iff.1 (r3 _ (List.mem_cons_of_mem _ (List.mem_cons_self ..)))
  have q1 : (dnR B1 X1).1.toF ≤ c8 - 1 := q1
  have q2 : (dnR B1 X1).2.toF ≤ x43 := q2
  have r2 : c1 ≤ (dnR B1 X1).1.toF := r2
  generalize hb2 : (dnR B1 X1).1 = B2 at *
  generalize hx2 : (dnR B1 X1).2 = X2 at *
  have eN : (cbN b0).den E = .cons (nwR (.f c15) (.i 0) B2).1 (.cons (nwR (.f c15) (.i 0) B2).2 (.cons B2 (.cons X2 (.cons (E.v 0) .nil)))) := by
    show E.fn 32 (.cons (.f c15) (.cons (.i 0) (.cons (((cbD b0).den E).at_ 0) (.cons (((cbD b0).den E).at_ 1) (.cons (E.v 0) .nil))))) = _
    rw [h32, eD]; rfl
  have hr : (nwR (.f c15) (.i 0) B2).1.toF ≤ c64 := by
    rw [nwR, nw_r]
    exact newt6_le r2 (Nat.lt_of_le_of_lt q1 (by decide))
  have eY : ((cbY b0).den E).toF = F.mul .f64 (nwR (.f c15) (.i 0) B2).1.toF X2.toF := by
    show F.mul .f64 (((cbN b0).den E).at_ 0).toF (((cbD b0).den E).at_ 1).toF = _
    rw [eN, eD]; rfl
  rw [eY]
  exact mul_bits (k := .f64) hr q2 (by rw [infD_eq]; decide) (by rw [infD_eq]; decide)
theorem cbY_eq {b b' : Tm} (h : b.den E = b'.den E) : (cbY b).den E = (cbY b').den E := by
  have hU : (cbU b).den E = (cbU b').den E := by simp only [cbU, listT, Tm.den, h]
  have hD : (cbD b).den E = (cbD b').den E := by simp only [cbD, listT, Tm.den, hU]
  have hN : (cbN b).den E = (cbN b').den E := by simp only [cbN, listT, Tm.den, hD]
  simp only [cbY, Tm.den, hN, hD]
/-- ONE VALUE. -/
theorem cb_same (h30 : ∀ c, E.fn 30 c = upF c) (h31 : ∀ c, E.fn 31 c = dnF c) (h32 : ∀ c, E.fn 32 c = nwF c) (hf : F.fin .f32 (E.v 0).toF = true) : (CBi.den E).at_ 0 = (CBs.den E).at_ 0 := by
  cases h0 : (is0.den E).toB with
  | true => simp only [CBi, CBs, listT, Tm.den, h0, if_true, Sc.at_zero]
  | false =>
    obtain ⟨z, e1, e2, z1, z2⟩ := b0_eq hf h0
    have hY := cbY_eq (b := b0I) (b' := b0S) (e2.trans e1.symm)
    have hle := y_le h30 h31 h32 (b0 := b0S) (by rw [e1]; exact z1) (by rw [e1]; exact z2)
    have hle' : ((cbY b0S).den E).toF ≤ topR := Nat.le_trans hle (Nat.le_of_ble_eq_true rx_top)
    obtain ⟨_, n2, _⟩ := narrow_neg hle'
    simp only [CBi, CBs, listT, Tm.den, h0, Bool.false_eq_true, if_false, Sc.at_zero, hY]
    cases hn : (isNg.den E).toB with
    | true => simp only [if_true, Opc.den, Sc.toF_f]; rw [n2]
    | false => simp only [Bool.false_eq_true, if_false]
end
end Go.Sx
