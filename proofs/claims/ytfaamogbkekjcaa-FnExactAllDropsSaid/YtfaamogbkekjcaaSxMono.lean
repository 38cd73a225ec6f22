/- Rounding keeps order: of two numbers that are not below nought the greater one's word is not the lesser. No condition. -/
import Derived.WalkKit
import Derived.Test.YtfaamogbkekjcaaSxNum
set_option linter.unusedVariables false
set_option linter.unusedSimpArgs false
noncomputable section
namespace Go.Sx
open Go Ieee

/-- n / 2^d rounded, half to even. -/
def rne (n d : Nat) : Nat := n / 2 ^ d + (if 2 ^ d < 2 * (n % 2 ^ d) ∨ (2 ^ d = 2 * (n % 2 ^ d) ∧ (n / 2 ^ d) % 2 = 1) then 1 else 0)

theorem cut_rne (neg : Bool) (n d : Nat) : Toward.even.cut neg n d = rne n d := by
  have big : 2 * n < 2 ^ (n.log2 + 2) := by
    have : n < 2 ^ (n.log2 + 1) := Nat.lt_log2_self
    rw [Nat.pow_succ]; omega
  unfold Toward.cut rne
  simp only [Nat.one_shiftLeft]
  have tb : ∀ (p : Prop) [Decidable p] (b : Bool), (b = true ↔ p) → b.toNat = if p then 1 else 0 := by
    intro p _ b hb
    by_cases hp : p
    · rw [if_pos hp, hb.2 hp]; rfl
    · have : b = false := by cases b with | true => exact absurd (hb.1 rfl) hp | false => rfl
      rw [if_neg hp, this]; rfl
  by_cases hd : d ≤ n.log2 + 2
  · rw [Nat.min_eq_left hd]
    congr 1
    apply tb
    simp
  · have hd' : n.log2 + 2 ≤ d := by omega
    rw [Nat.min_eq_right hd']
    have h1 : 2 ^ (n.log2 + 2) ≤ 2 ^ d := Nat.pow_le_pow_right (by omega) hd'
    have e1 : n / 2 ^ (n.log2 + 2) = 0 := Nat.div_eq_of_lt (by omega)
    have e2 : n / 2 ^ d = 0 := Nat.div_eq_of_lt (by omega)
    have e3 : n % 2 ^ (n.log2 + 2) = n := Nat.mod_eq_of_lt (by omega)
    have e4 : n % 2 ^ d = n := Nat.mod_eq_of_lt (by omega)
    rw [e1, e2, e3, e4]
    congr 1
    apply tb
    simp
    omega

theorem rne_lo (n d : Nat) : 2 ^ d * (2 * rne n d) ≤ 2 * n + 2 ^ d ∧ (2 ^ d * (2 * rne n d) = 2 * n + 2 ^ d → rne n d % 2 = 0) := by
  have hp : 0 < 2 ^ d := Nat.pow_pos (by omega)
  have h := Nat.div_add_mod n (2 ^ d)
  have hm := Nat.mod_lt n hp
  unfold rne
  generalize n / 2 ^ d = q at *
  generalize n % 2 ^ d = r at *
  generalize 2 ^ d = p at *
  have e1 : p * (2 * (q + 1)) = 2 * (p * q) + 2 * p := by rw [← Nat.mul_assoc, Nat.mul_comm p 2, Nat.mul_assoc, Nat.mul_add, Nat.mul_add]; omega
  have e2 : p * (2 * (q + 0)) = 2 * (p * q) := by rw [Nat.add_zero, ← Nat.mul_assoc, Nat.mul_comm p 2, Nat.mul_assoc]
  split
  · rename_i hc
    rw [e1]
    refine ⟨by omega, fun he => ?_⟩
    omega
  · rw [e2]
    refine ⟨by omega, fun he => ?_⟩
    omega
theorem rne_hi (n d : Nat) : 2 * n ≤ 2 ^ d * (2 * rne n d) + 2 ^ d ∧ (2 * n = 2 ^ d * (2 * rne n d) + 2 ^ d → rne n d % 2 = 0) := by
  have hp : 0 < 2 ^ d := Nat.pow_pos (by omega)
  have h := Nat.div_add_mod n (2 ^ d)
  have hm := Nat.mod_lt n hp
  unfold rne
  generalize n / 2 ^ d = q at *
  generalize n % 2 ^ d = r at *
  generalize 2 ^ d = p at *
  have e1 : p * (2 * (q + 1)) = 2 * (p * q) + 2 * p := by rw [← Nat.mul_assoc, Nat.mul_comm p 2, Nat.mul_assoc, Nat.mul_add, Nat.mul_add]; omega
  have e2 : p * (2 * (q + 0)) = 2 * (p * q) := by rw [Nat.add_zero, ← Nat.mul_assoc, Nat.mul_comm p 2, Nat.mul_assoc]
  split
  · rename_i hc
    rw [e1]
    refine ⟨by omega, fun he => ?_⟩
    omega
  · rename_i hc
    rw [e2]
    refine ⟨by omega, fun he => ?_⟩
    omega
theorem rne_mono {n m d : Nat} (h : n ≤ m) : rne n d ≤ rne m d := by
  have hp : 0 < 2 ^ d := Nat.pow_pos (by omega)
  obtain ⟨h1, h2⟩ := rne_lo n d
  obtain ⟨h3, h4⟩ := rne_hi m d
  rcases Nat.lt_or_ge (rne m d) (rne n d) with hlt | hge
  · exfalso
    generalize rne n d = a at *
    generalize rne m d = b at *
    generalize 2 ^ d = p at *
    have hb : p * (2 * (b + 1)) ≤ p * (2 * a) := Nat.mul_le_mul_left _ (by omega)
    have e1 : p * (2 * (b + 1)) = p * (2 * b) + 2 * p := by rw [Nat.mul_add, Nat.mul_add]; omega
    have h5 : p * (2 * a) = p * (2 * (b + 1)) := by omega
    have h6 : 2 * a = 2 * (b + 1) := Nat.eq_of_mul_eq_mul_left hp h5
    have := h2 (by omega)
    have := h4 (by omega)
    omega
  · exact hge
theorem rne_exact {n d : Nat} : rne (n * 2 ^ d) d = n := by
  have hp : 0 < 2 ^ d := Nat.pow_pos (by omega)
  unfold rne
  rw [Nat.mul_div_cancel _ hp, Nat.mul_mod_left]
  rw [if_neg (by omega)]
  rfl
theorem rne_scale (n d s : Nat) : rne (n * 2 ^ s) (d + s) = rne n d := by
  have hs : 0 < 2 ^ s := Nat.pow_pos (by omega)
  unfold rne
  rw [Nat.pow_add, Nat.mul_div_mul_right _ _ hs, Nat.mul_mod_mul_right]
  have e1 : (2 ^ d * 2 ^ s < 2 * (n % 2 ^ d * 2 ^ s)) ↔ 2 ^ d < 2 * (n % 2 ^ d) := by
    rw [← Nat.mul_assoc]; exact Nat.mul_lt_mul_right hs
  have e2 : (2 ^ d * 2 ^ s = 2 * (n % 2 ^ d * 2 ^ s)) ↔ 2 ^ d = 2 * (n % 2 ^ d) := by
    rw [← Nat.mul_assoc]; exact Nat.mul_left_inj (by omega)
  simp only [e1, e2]
theorem rne_le {n d k : Nat} (h : n ≤ k * 2 ^ d) : rne n d ≤ k := by
  have := rne_mono (d := d) h
  rwa [rne_exact] at this
theorem rne_ge {n d k : Nat} (h : k * 2 ^ d ≤ n) : k ≤ rne n d := by
  have := rne_mono (d := d) h
  rwa [rne_exact] at this

/-- The rung of N * 2^b. -/
def lastP (f : Format) (N : Nat) (b : Int) : Int := max (b + N.log2 - f.fractionBits) f.leastPlace
def Rg (f : Format) (N : Nat) (b : Int) : Nat := (lastP f N b - f.leastPlace).toNat * f.binade + rne N (lastP f N b - b).toNat

theorem log2_shift {m : Nat} (hm : m ≠ 0) (s : Nat) : (m * 2 ^ s).log2 = m.log2 + s := by
  have h0 : m * 2 ^ s ≠ 0 := Nat.mul_ne_zero hm (Nat.ne_of_gt (Nat.pow_pos (by omega)))
  have h1 : 2 ^ m.log2 ≤ m := Nat.log2_self_le hm
  have h2 : m < 2 ^ (m.log2 + 1) := Nat.lt_log2_self
  have hs : 0 < 2 ^ s := Nat.pow_pos (by omega)
  have a1 : 2 ^ (m.log2 + s) ≤ m * 2 ^ s := by rw [Nat.pow_add]; exact Nat.mul_le_mul_right _ h1
  have a2 : m * 2 ^ s < 2 ^ (m.log2 + s + 1) := by
    rw [show m.log2 + s + 1 = (m.log2 + 1) + s by omega, Nat.pow_add]
    exact (Nat.mul_lt_mul_right hs).2 h2
  have b1 : (m * 2 ^ s).log2 < m.log2 + s + 1 := (Nat.log2_lt h0).2 a2
  have b2 : m.log2 + s ≤ (m * 2 ^ s).log2 := (Nat.le_log2 h0).2 a1
  omega
theorem nearest_Rg (f : Format) (neg : Bool) {mag : Nat} (hm : mag ≠ 0) {place b : Int} (h1 : b ≤ place) (h2 : b ≤ f.leastPlace) :
    f.nearest neg mag place = f.word neg (min (Rg f (mag * 2 ^ (place - b).toNat) b) f.infRung) := by
  unfold Format.nearest Rg
  rw [if_neg hm]
  have el : lastP f (mag * 2 ^ (place - b).toNat) b = max (place + mag.log2 - f.fractionBits) f.leastPlace := by
    unfold lastP
    rw [log2_shift hm]
    congr 1
    omega
  rw [el]
  simp only []
  generalize hL : max (place + (mag.log2 : Int) - f.fractionBits) f.leastPlace = last
  have hge : f.leastPlace ≤ last := by rw [← hL]; exact Int.le_max_right ..
  rw [cut_rne]
  congr 3
  rcases Int.le_total last place with hc | hc
  · have e1 : (last - place).toNat = 0 := by omega
    rw [e1, Nat.shiftLeft_eq]
    have e2 : (place - b).toNat = (place - last).toNat + (last - b).toNat := by omega
    rw [e2, Nat.pow_add, ← Nat.mul_assoc, rne_exact]
    have := rne_exact (n := mag * 2 ^ (place - last).toNat) (d := 0)
    simpa using this
  · have e1 : (place - last).toNat = 0 := by omega
    rw [e1]
    have e2 : (last - b).toNat = (last - place).toNat + (place - b).toNat := by omega
    rw [e2, rne_scale]
    simp

theorem Rg_mono (f : Format) {N M : Nat} {b : Int} (hb : b ≤ f.leastPlace) (hN : N ≠ 0) (h : N ≤ M) : Rg f N b ≤ Rg f M b := by
  have hM : M ≠ 0 := by omega
  have hlog : N.log2 ≤ M.log2 := (Nat.le_log2 hM).2 (Nat.le_trans (Nat.log2_self_le hN) h)
  have hl : lastP f N b ≤ lastP f M b := by unfold lastP; omega
  unfold Rg
  rcases Int.lt_or_eq_of_le hl with hlt | heq
  · -- another binade
    have hM' : lastP f M b = b + M.log2 - f.fractionBits := by unfold lastP at hlt ⊢; omega
    have hN1 : b + N.log2 - f.fractionBits ≤ lastP f N b := by unfold lastP; exact Int.le_max_left ..
    have hN2 : f.leastPlace ≤ lastP f N b := by unfold lastP; exact Int.le_max_right ..
    -- below: at most two binades' worth
    have k1 : rne N (lastP f N b - b).toNat ≤ 2 * f.binade := by
      apply rne_le
      have : N < 2 ^ (N.log2 + 1) := Nat.lt_log2_self
      have e : 2 * f.binade * 2 ^ (lastP f N b - b).toNat = 2 ^ (f.fractionBits + 1 + (lastP f N b - b).toNat) := by
        unfold Format.binade
        rw [Nat.pow_add, Nat.pow_succ]
        congr 1
        omega
      rw [e]
      have : 2 ^ (N.log2 + 1) ≤ 2 ^ (f.fractionBits + 1 + (lastP f N b - b).toNat) := Nat.pow_le_pow_right (by omega) (by omega)
      omega
    have k2 : f.binade ≤ rne M (lastP f M b - b).toNat := by
      apply rne_ge
      unfold Format.binade
      rw [← Nat.pow_add]
      have : f.fractionBits + (lastP f M b - b).toNat ≤ M.log2 := by omega
      exact Nat.le_trans (Nat.pow_le_pow_right (by omega) this) (Nat.log2_self_le hM)
    have k3 : (lastP f N b - f.leastPlace).toNat + 1 ≤ (lastP f M b - f.leastPlace).toNat := by omega
    have k4 : ((lastP f N b - f.leastPlace).toNat + 1) * f.binade ≤ (lastP f M b - f.leastPlace).toNat * f.binade := Nat.mul_le_mul_right _ k3
    rw [Nat.add_mul, Nat.one_mul] at k4
    omega
  · rw [heq]
    exact Nat.add_le_add_left (rne_mono h) _
end Go.Sx
