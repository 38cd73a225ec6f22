/- The root of a number of single precision is again in the range of single precision. No condition. -/
import Derived.Test.YtfaamogbkekjcaaSxBits
import Derived.WalkKit
set_option linter.unusedVariables false
set_option linter.unusedSimpArgs false
noncomputable section
namespace Go.Sx
open Go Ieee

theorem rootFrom_le (n : Nat) : ∀ (todo root : Nat), Datum.rootFrom n todo root + 1 ≤ root + 2 ^ todo
  | 0, root => by simp [Datum.rootFrom]
  | todo + 1, root => by
    simp only [Datum.rootFrom, Nat.one_shiftLeft]
    rw [Nat.pow_succ]
    split
    · have := rootFrom_le n todo (root + 2 ^ todo)
      omega
    · have := rootFrom_le n todo root
      omega

/-- The greatest double that a single can be. -/
def topY : Nat := 5183643170566569984
/-- A root of it. -/
def topR : Nat := 5080060379673919488
theorem narrow_pos {w : Nat} (h : w < double.infRung) : ∃ m e, double.read w = .number false m e ∧ single.write (double.read w) = RgN single (valN double w) (-1074) := by
  obtain ⟨m, e, h1, h2, h3⟩ := read_pos double h
  have hlp : double.leastPlace = -1074 := by decide
  rw [hlp] at h2 h3
  refine ⟨m, e, h1, ?_⟩
  rw [h1]
  show single.nearest false m e = _
  rw [nearest_RgN single (b := -1074) h2 (by decide), ← h3]
theorem narrow_ok {w : Nat} (h : w ≤ topR) : F.convOk .f64 .f32 w = true := by
  have hlt : w < double.infRung := Nat.lt_of_le_of_lt h (by decide)
  obtain ⟨m, e, h1, h2⟩ := narrow_pos hlt
  have h3 : RgN single (valN double w) (-1074) ≤ RgN single (valN double topR) (-1074) := RgN_mono single (by decide) (valN_le.2 h)
  have h4 : RgN single (valN double topR) (-1074) < single.infRung := by decide +kernel
  unfold F.convOk
  simp only [reduceCtorEq, if_false]
  show (match double.read w with
    | .number n m e => !(single.read (single.write (.number n m e))).isInfinity
    | _ => true) = true
  have h5 := h2
  rw [h1] at h5 ⊢
  simp only
  rw [h5]
  obtain ⟨m', e', g1, _⟩ := read_pos single (x := RgN single (valN double w) (-1074)) (by omega)
  rw [g1]
  rfl
theorem k1 : Nat.ble (RgN double (2 ^ (66 + 1074)) (-1074)) topR = true := by kernel_rfl
theorem k2 : Nat.beq (Rg double (valN single (single.infRung - 1) * 2 ^ 925) (-1074)) topY = true := by kernel_rfl
theorem k3 : Nat.blt (valN double topY) (2 ^ (128 + 1074)) = true := by kernel_rfl
theorem root_small {m : Nat} {i : Int} {d : Datum} (hm : m ≠ 0) (hb : (m.log2 : Int) + i ≤ 127) (hi : -1074 ≤ i) (h : Datum.root 54 (.number false m i) = some d) : double.write d ≤ topR := by
  simp only [Datum.root, if_neg hm, Bool.false_eq_true, if_false, Option.some.injEq] at h
  subst h
  simp only [Format.write]
  generalize hmore : (2 * 54 - m.log2 + ((i - (2 * 54 - m.log2 : Nat)) % 2).toNat) = more
  have heven : (i - (more : Int)) % 2 = 0 := by rw [← hmore]; omega
  have hsm : more ≤ 109 := by rw [← hmore]; omega
  generalize hw : Datum.rootFrom (m <<< more) ((m <<< more).log2 / 2 + 1) 0 = whole
  have hlog : (m <<< more).log2 = m.log2 + more := by rw [Nat.shiftLeft_eq, log2_shift hm]
  have hwl : whole + 1 ≤ 2 ^ ((m.log2 + more) / 2 + 1) := by
    have := rootFrom_le (m <<< more) ((m <<< more).log2 / 2 + 1) 0
    rw [hw, hlog] at this
    omega
  generalize hb' : (whole * whole != m <<< more).toNat = s
  have hs : s ≤ 1 := by rw [← hb']; exact Bool.toNat_le _
  have hmag : 2 * whole + s ≤ 2 ^ ((m.log2 + more) / 2 + 2) := by
    rw [Nat.pow_succ]; omega
  by_cases hz : 2 * whole + s = 0
  · rw [hz]
    have : double.nearest false 0 ((i - more) / 2 - 1) = 0 := by simp [Format.nearest, Format.word]
    rw [this]; exact Nat.zero_le _
  have hp : -1074 ≤ (i - (more : Int)) / 2 - 1 := by omega
  rw [nearest_RgN double (b := -1074) hp (by decide)]
  have h1 : ∀ q : Nat, q = 66 + 1074 → (2 * whole + s) * 2 ^ ((i - (more : Int)) / 2 - 1 - -1074).toNat ≤ 2 ^ q := by
    intro q hq
    refine Nat.le_trans (Nat.mul_le_mul_right _ hmag) ?_
    rw [← Nat.pow_add]
    exact Nat.pow_le_pow_right (by omega) (by omega)
  exact Nat.le_trans (RgN_mono double (by decide) (h1 _ rfl)) (Nat.le_of_ble_eq_true k1)
theorem sqrt_narrow (x : Nat) : F.convOk .f64 .f32 (F.sqrt (F.conv .f32 .f64 x)) = true := by
  have hnan : F.convOk .f64 .f32 (nanOf .f64) = true := by decide +kernel
  unfold F.conv
  simp only [reduceCtorEq, if_false]
  have hslp : single.leastPlace = -149 := by decide
  have hdlp : double.leastPlace = -1074 := by decide
  split
  · decide +kernel
  · rename_i d hd
    show F.convOk .f64 .f32 (F.sqrt (double.write (single.read x))) = true
    cases hr : single.read x with
    | nan s t => exact absurd hr (hd s t)
    | infinity s => cases s <;> decide +kernel
    | number s m e =>
      -- what the single is
      have hval : -149 ≤ e ∧ m * 2 ^ (e + 149).toNat ≤ valN single (single.infRung - 1) := by
        have hlt : x % single.signWeight < single.infRung := by
          rcases Nat.lt_or_ge (x % single.signWeight) single.infRung with h | h
          · exact h
          · exfalso
            have hb : single.binade ≤ single.infRung := by decide
            unfold Format.read at hr
            simp only at hr
            rw [if_neg (by omega), if_neg (by omega)] at hr
            split at hr <;> cases hr
        have hmod : (x % single.signWeight) % single.signWeight = x % single.signWeight := Nat.mod_mod ..
        obtain ⟨m', i', g1, g2, g3⟩ := read_pos single hlt
        have same : ∃ s', single.read x = .number s' m' i' := by
          unfold Format.read at g1 ⊢
          simp only [hmod] at g1 ⊢
          by_cases hb : x % single.signWeight < single.binade
          · rw [if_pos hb] at g1 ⊢
            simp only [Datum.number.injEq] at g1
            obtain ⟨_, rfl, rfl⟩ := g1
            exact ⟨_, rfl⟩
          · rw [if_neg hb, if_pos hlt] at g1 ⊢
            simp only [Datum.number.injEq] at g1
            obtain ⟨_, rfl, rfl⟩ := g1
            exact ⟨_, rfl⟩
        obtain ⟨s', hs'⟩ := same
        rw [hr] at hs'
        cases hs'
        rw [hslp] at g2 g3
        refine ⟨g2, ?_⟩
        have : (e - -149).toNat = (e + 149).toNat := by omega
        rw [this] at g3
        rw [g3]
        exact valN_le.2 (by omega)
      obtain ⟨he, hv⟩ := hval
      by_cases hm : m = 0
      · subst hm
        have e1 : double.write (.number s 0 e) = double.word s 0 := by simp [Format.write, Format.nearest]
        rw [e1]
        cases s <;> decide +kernel
      · have e1 : double.write (.number s m e) = double.word s (min (Rg double (m * 2 ^ (e - -1074).toNat) (-1074)) double.infRung) := nearest_Rg double s hm (by omega) (by decide)
        rw [e1]
        have hY : min (Rg double (m * 2 ^ (e - -1074).toNat) (-1074)) double.infRung ≤ topY := by
          have a1 : ∀ q : Nat, q = 925 → m * 2 ^ (e - -1074).toNat ≤ valN single (single.infRung - 1) * 2 ^ q := by
            intro q hq
            have : m * 2 ^ (e - -1074).toNat = m * 2 ^ (e + 149).toNat * 2 ^ q := by
              rw [Nat.mul_assoc, ← Nat.pow_add]; congr 2; omega
            rw [this]
            exact Nat.mul_le_mul_right _ hv
          have a2 := Rg_mono double (b := -1074) (by decide) (Nat.mul_ne_zero hm (Nat.ne_of_gt (Nat.pow_pos (by omega)))) (a1 _ rfl)
          have a3 : Rg double (valN single (single.infRung - 1) * 2 ^ 925) (-1074) = topY := Nat.eq_of_beq_eq_true k2
          rw [a3] at a2
          exact Nat.le_trans (Nat.min_le_left ..) a2
        have hY0 : 0 < min (Rg double (m * 2 ^ (e - -1074).toNat) (-1074)) double.infRung := by
          have a1 : 1 ≤ m * 2 ^ (e - -1074).toNat := Nat.mul_pos (Nat.pos_of_ne_zero hm) (Nat.pow_pos (by omega))
          have a2 := Rg_mono double (b := -1074) (by decide) (by decide) a1
          have a3 : Rg double 1 (-1074) = 1 := by decide +kernel
          have a4 : 1 < double.infRung := by decide
          omega
        generalize min (Rg double (m * 2 ^ (e - -1074).toNat) (-1074)) double.infRung = r at hY hY0
        have hlt : r < double.infRung := Nat.lt_of_le_of_lt hY (by decide)
        obtain ⟨m', i', g1, g2, g3⟩ := read_pos double hlt
        rw [hdlp] at g2 g3
        have hm' : m' ≠ 0 := by
          rintro rfl
          rw [Nat.zero_mul] at g3
          have := valN_zero.1 g3.symm
          omega
        cases s with
        | true =>
          -- below nought: no root
          have hrd : ∃ m2 i2, m2 ≠ 0 ∧ double.read (double.word true r) = .number true m2 i2 := by
            have e2 : double.word true r = double.signWeight + r := by simp [Format.word]
            have hs := inf_lt_sign double
            have e3 : (double.signWeight + r) % double.signWeight = r := by rw [Nat.add_mod_left]; exact Nat.mod_eq_of_lt (by omega)
            have e4 : (double.signWeight + r) / double.signWeight = 1 := by
              rw [Nat.add_div_left _ (by omega), Nat.div_eq_of_lt (by omega)]
            rw [e2]
            unfold Format.read
            simp only [e3, e4]
            by_cases hb : r < double.binade
            · rw [if_pos hb]; exact ⟨r, _, by omega, rfl⟩
            · rw [if_neg hb, if_pos hlt]; exact ⟨_, _, by have := binade_pos double; omega, rfl⟩
          obtain ⟨m2, i2, hm2, hrd⟩ := hrd
          have : F.sqrt (double.word true r) = nanOf .f64 := by
            show ((Datum.root 54 (double.read (double.word true r))).map double.write).getD (nanOf .f64) = _
            rw [hrd]
            simp [Datum.root, hm2]
          rw [this]; exact hnan
        | false =>
          rw [word_pos]
          have hb : (m'.log2 : Int) + i' ≤ 127 := by
            have a1 : 2 ^ m'.log2 ≤ m' := Nat.log2_self_le hm'
            have a2 : 2 ^ m'.log2 * 2 ^ (i' - -1074).toNat ≤ valN double topY := by
              refine Nat.le_trans (Nat.mul_le_mul_right _ a1) ?_
              rw [g3]; exact valN_le.2 hY
            rw [← Nat.pow_add] at a2
            have a4 : ∀ q : Nat, Nat.blt (valN double topY) (2 ^ q) = true → m'.log2 + (i' - -1074).toNat < q := fun q hq =>
              (Nat.pow_lt_pow_iff_right (by omega : 1 < 2)).1 (Nat.lt_of_le_of_lt a2 (by simpa [Nat.blt_eq] using hq))
            have a5 := a4 _ k3
            omega
          show F.convOk .f64 .f32 (((Datum.root 54 (double.read r)).map double.write).getD (nanOf .f64)) = true
          rw [g1]
          cases hd' : Datum.root 54 (.number false m' i') with
          | none => exact hnan
          | some d => exact narrow_ok (root_small hm' hb (by omega) hd')
end Go.Sx
