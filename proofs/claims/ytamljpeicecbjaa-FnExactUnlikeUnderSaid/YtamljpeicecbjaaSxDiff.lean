/- How different two looks are is finite where the looks are not great. No condition. -/
import Derived.Test.YtamljpeicecbjaaSxCb
set_option linter.unusedVariables false
set_option linter.unusedSimpArgs false
noncomputable section
namespace Go.Sx
open Go Ieee

def infS : Nat := 2139095040
theorem infS_eq : FloatKind.f32.format.infRung = infS := by decide
/-- A finite number of a size at most M. -/
def Sg (M x : Nat) : Prop := ∃ s z, x = single.word s z ∧ z ≤ M
theorem Sg.mono {M N x : Nat} (h : Sg M x) (hn : M ≤ N) : Sg N x := by
  obtain ⟨s, z, e, hz⟩ := h
  exact ⟨s, z, e, Nat.le_trans hz hn⟩
theorem Sg.pos {M x : Nat} (h : x ≤ M) : Sg M x := ⟨false, x, (word_pos single x).symm, h⟩
theorem sum_comm (a b : Datum) (h : ∀ s, a ≠ .infinity s) (h' : ∀ s, b ≠ .infinity s) : a.sum b = b.sum a := by
  cases a with
  | nan s t => cases b <;> rfl
  | infinity s => exact absurd rfl (h s)
  | number s m i =>
    cases b with
    | nan s t => rfl
    | infinity s => exact absurd rfl (h' s)
    | number t n j =>
      simp only [Datum.sum]
      rw [show min j i = min i j by omega, Int.add_comm (signed t n (j - min i j).toNat), Bool.and_comm t s]
theorem read_word {s : Bool} {z : Nat} (h : z < infS) : ∃ m e, FloatKind.f32.format.read (single.word s z) = .number s m e ∧ FloatKind.f32.format.read z = .number false m e := by
  have h' : z < FloatKind.f32.format.infRung := by rw [infS_eq]; exact h
  obtain ⟨m, e, h1, _, _⟩ := read_pos FloatKind.f32.format h'
  cases s
  · rw [word_pos]; exact ⟨m, e, h1, h1⟩
  · exact ⟨m, e, read_neg h' h1, h1⟩
theorem sub_as_add {x : Nat} {t : Bool} {b : Nat} (hb : b < infS) : F.sub .f32 x (single.word t b) = F.add .f32 x (single.word (!t) b) := by
  obtain ⟨m, e, h1, _⟩ := read_word (s := t) hb
  obtain ⟨m', e', h2, h3⟩ := read_word (s := !t) hb
  obtain ⟨m2, e2, h4, h5⟩ := read_word (s := t) hb
  rw [h1] at h4; cases h4
  rw [h3] at h5; cases h5
  unfold F.sub F.add Format.sub Format.add
  rw [h1, h2]
  rfl
theorem add_comm' {s t : Bool} {a b : Nat} (ha : a < infS) (hb : b < infS) : F.add .f32 (single.word s a) (single.word t b) = F.add .f32 (single.word t b) (single.word s a) := by
  obtain ⟨m, e, h1, _⟩ := read_word (s := s) ha
  obtain ⟨n, j, h2, _⟩ := read_word (s := t) hb
  unfold F.add Format.add
  rw [h1, h2, sum_comm _ _ (fun s h => by cases h) (fun s h => by cases h)]
theorem add_neg2 {a b : Nat} (ha : a < infS) (hb : b < infS) : F.add .f32 (single.word true a) (single.word true b) = single.word true (F.add .f32 a b) := by
  obtain ⟨m, i, h1, h1'⟩ := read_word (s := true) ha
  obtain ⟨n, j, h2, h2'⟩ := read_word (s := true) hb
  unfold F.add Format.add
  rw [h1, h2, h1', h2']
  simp only [Datum.sum, Option.map_some, Option.getD_some, Format.write]
  have s1 : signed true m (i - min i j).toNat = -((m * 2 ^ (i - min i j).toNat : Nat) : Int) := by simp [signed, Nat.shiftLeft_eq]
  have s2 : signed true n (j - min i j).toNat = -((n * 2 ^ (j - min i j).toNat : Nat) : Int) := by simp [signed, Nat.shiftLeft_eq]
  rw [s1, s2, signed_pos, signed_pos]
  generalize m * 2 ^ (i - min i j).toNat = A
  generalize n * 2 ^ (j - min i j).toNat = B
  have hneg : (if -(A : Int) + -(B : Int) = 0 then (true && true) else decide (-(A : Int) + -(B : Int) < 0)) = true := by
    split
    · rfl
    · exact decide_eq_true (by omega)
  have hpos : (if (A : Int) + (B : Int) = 0 then (false && false) else decide ((A : Int) + (B : Int) < 0)) = false := by
    split
    · rfl
    · exact decide_eq_false (by omega)
  rw [hneg, hpos, nearest_neg]
  congr 2
  omega
theorem add_sg {M N x y : Nat} (hM : M < infS) (hN : N < infS) (hx : Sg M x) (hy : Sg N y) : Sg (F.add .f32 M N) (F.add .f32 x y) := by
  obtain ⟨s, a, rfl, ha⟩ := hx
  obtain ⟨t, b, rfl, hb⟩ := hy
  have ha' : a < infS := by omega
  have hb' : b < infS := by omega
  have hai : a < FloatKind.f32.format.infRung := by rw [infS_eq]; exact ha'
  have hbi : b < FloatKind.f32.format.infRung := by rw [infS_eq]; exact hb'
  have hMi : M < FloatKind.f32.format.infRung := by rw [infS_eq]; exact hM
  have hNi : N < FloatKind.f32.format.infRung := by rw [infS_eq]; exact hN
  have top : F.add .f32 a b ≤ F.add .f32 M N := add_bits ha hb hMi hNi
  have mix : ∀ {p q : Nat}, p < FloatKind.f32.format.infRung → q < FloatKind.f32.format.infRung → p ≤ F.add .f32 M N → q ≤ F.add .f32 M N → Sg (F.add .f32 M N) (F.add .f32 p (single.word true q)) := by
    intro p q hp hq h1 h2
    have e : F.add .f32 p (single.word true q) = F.sub .f32 p q := by
      have := sub_as_add (x := p) (t := false) (b := q) (by rw [← infS_eq]; exact hq)
      rw [word_pos] at this
      exact this.symm
    rw [e]
    rcases Nat.lt_or_ge p q with h | h
    · rw [sub_less hq h]
      exact ⟨true, _, rfl, Nat.le_trans (sub_le_self hq (by omega)) h2⟩
    · exact Sg.pos (Nat.le_trans (sub_le_self hp h) h1)
  have la : a ≤ F.add .f32 M N := Nat.le_trans ha (le_add_self hMi hNi)
  have lb : b ≤ F.add .f32 M N := by
    have := add_comm' (s := false) (t := false) hM hN
    rw [word_pos, word_pos] at this
    rw [this]
    exact Nat.le_trans hb (le_add_self hNi hMi)
  cases s
  · cases t
    · rw [word_pos, word_pos]; exact Sg.pos top
    · rw [word_pos]; exact mix hai hbi la lb
  · cases t
    · rw [add_comm' ha' hb', word_pos]; exact mix hbi hai lb la
    · rw [add_neg2 ha' hb']; exact ⟨true, _, rfl, top⟩
theorem sub_sg {M N x y : Nat} (hM : M < infS) (hN : N < infS) (hx : Sg M x) (hy : Sg N y) : Sg (F.add .f32 M N) (F.sub .f32 x y) := by
  obtain ⟨t, b, rfl, hb⟩ := hy
  rw [sub_as_add (by omega)]
  exact add_sg hM hN hx ⟨!t, b, rfl, hb⟩
theorem mul_word {s t : Bool} {a b : Nat} (ha : a < infS) (hb : b < infS) : F.mul .f32 (single.word s a) (single.word t b) = single.word (s ^^ t) (F.mul .f32 a b) := by
  obtain ⟨m, i, h1, h1'⟩ := read_word (s := s) ha
  obtain ⟨n, j, h2, h2'⟩ := read_word (s := t) hb
  unfold F.mul Format.mul
  rw [h1, h2, h1', h2']
  simp only [Datum.product, Option.map_some, Option.getD_some, Format.write]
  rw [nearest_neg, show (false ^^ false) = false from rfl]
  rfl
theorem mul_sg {M N x y : Nat} (hM : M < infS) (hN : N < infS) (hx : Sg M x) (hy : Sg N y) : Sg (F.mul .f32 M N) (F.mul .f32 x y) := by
  obtain ⟨s, a, rfl, ha⟩ := hx
  obtain ⟨t, b, rfl, hb⟩ := hy
  rw [mul_word (by omega) (by omega)]
  exact ⟨_, _, rfl, mul_bits ha hb (by rw [infS_eq]; exact hM) (by rw [infS_eq]; exact hN)⟩
theorem sq_le {M x : Nat} (hM : M < infS) (hx : Sg M x) : F.mul .f32 x x ≤ F.mul .f32 M M := by
  obtain ⟨s, a, rfl, ha⟩ := hx
  rw [mul_word (by omega) (by omega)]
  have : (s ^^ s) = false := by cases s <;> rfl
  rw [this, word_pos]
  exact mul_bits ha ha (by rw [infS_eq]; exact hM) (by rw [infS_eq]; exact hM)
theorem Sg.fin {M x : Nat} (hM : M < infS) (hx : Sg M x) : F.fin .f32 x = true := by
  obtain ⟨s, a, rfl, ha⟩ := hx
  exact fin_word (k := .f32) (by rw [infS_eq]; omega)

/-! Roots -/
theorem conv_top {x : Nat} (h : x < infS) : F.conv .f32 .f64 x ≤ topY := by
  have h' : x < single.infRung := by have := infS_eq; exact this ▸ h
  obtain ⟨m, e, h1, h2, h3⟩ := read_pos single h'
  have hslp : single.leastPlace = -149 := by decide
  rw [hslp] at h2 h3
  have e1 : F.conv .f32 .f64 x = double.nearest false m e := by
    unfold F.conv
    simp only [reduceCtorEq, if_false]
    show (match single.read x with
      | .nan _ _ => nanOf .f64
      | y => double.write y) = _
    rw [h1]
    rfl
  rw [e1, nearest_RgN double (b := -1074) (by omega) (by decide)]
  have a1 : ∀ q : Nat, q = 925 → m * 2 ^ (e - -1074).toNat ≤ valN single (single.infRung - 1) * 2 ^ q := by
    intro q hq
    have : m * 2 ^ (e - -1074).toNat = m * 2 ^ (e - -149).toNat * 2 ^ q := by
      rw [Nat.mul_assoc, ← Nat.pow_add]; congr 2; omega
    rw [this, h3]
    exact Nat.mul_le_mul_right _ (valN_le.2 (by omega))
  refine Nat.le_trans (RgN_mono double (by decide) (a1 _ rfl)) ?_
  have a3 : Rg double (valN single (single.infRung - 1) * 2 ^ 925) (-1074) = topY := Nat.eq_of_beq_eq_true k2
  unfold RgN
  split
  · exact Nat.zero_le _
  · rw [a3]; exact Nat.min_le_left ..
theorem sqrt_top {r : Nat} (h : r ≤ topY) : F.sqrt r ≤ topR := by
  have hdlp : double.leastPlace = -1074 := by decide
  by_cases h0 : r = 0
  · subst h0; decide +kernel
  have hlt : r < double.infRung := Nat.lt_of_le_of_lt h (by decide)
  obtain ⟨m', i', g1, g2, g3⟩ := read_pos double hlt
  rw [hdlp] at g2 g3
  have hm' : m' ≠ 0 := by
    rintro rfl
    rw [Nat.zero_mul] at g3
    exact h0 (valN_zero.1 g3.symm)
  have hb : (m'.log2 : Int) + i' ≤ 127 := by
    have a1 : 2 ^ m'.log2 ≤ m' := Nat.log2_self_le hm'
    have a2 : 2 ^ m'.log2 * 2 ^ (i' - -1074).toNat ≤ valN double topY := by
      refine Nat.le_trans (Nat.mul_le_mul_right _ a1) ?_
      rw [g3]; exact valN_le.2 h
    rw [← Nat.pow_add] at a2
    have a4 : ∀ q : Nat, Nat.blt (valN double topY) (2 ^ q) = true → m'.log2 + (i' - -1074).toNat < q := fun q hq =>
      (Nat.pow_lt_pow_iff_right (by omega : 1 < 2)).1 (Nat.lt_of_le_of_lt a2 (by simpa [Nat.blt_eq] using hq))
    have a5 := a4 _ k3
    omega
  show ((Datum.root 54 (double.read r)).map double.write).getD (nanOf .f64) ≤ topR
  rw [g1]
  cases hd' : Datum.root 54 (.number false m' i') with
  | none => simp [Datum.root, hm'] at hd'
  | some d => exact root_small hm' hb (by omega) hd'
def rootF (x : Nat) : Nat := F.conv .f64 .f32 (F.sqrt (F.conv .f32 .f64 x))
theorem root_lt {x : Nat} (h : x < infS) : rootF x < infS := by
  have := (narrow_neg (sqrt_top (conv_top h))).2.2
  rw [infS_eq] at this
  exact this

/-! The difference of two looks -/
def c001 : Nat := 1008981770
def oneS : Nat := 1065353216
def diffF (u0 u1 u2 v0 v1 v2 : Nat) : Nat :=
  rootF (F.add .f32 (F.mul .f32 (F.sub .f32 u0 v0) (F.sub .f32 u0 v0))
    (F.div .f32 (F.add .f32 (F.mul .f32 (F.sub .f32 u1 v1) (F.sub .f32 u1 v1)) (F.mul .f32 (F.sub .f32 u2 v2) (F.sub .f32 u2 v2)))
      (F.mul .f32 (F.add .f32 oneS (F.mul .f32 c001 (rootF (F.add .f32 (F.mul .f32 u1 u1) (F.mul .f32 u2 u2))))) (F.add .f32 oneS (F.mul .f32 c001 (rootF (F.add .f32 (F.mul .f32 u1 u1) (F.mul .f32 u2 u2))))))))
theorem div_inf {x : Nat} (hx : x < infS) : F.div .f32 x infS = 0 := by
  obtain ⟨m, e, h1, _, _⟩ := read_pos FloatKind.f32.format (x := x) (by rw [infS_eq]; exact hx)
  have h2 : FloatKind.f32.format.read infS = .infinity false := by decide
  unfold F.div Format.div
  rw [h1, h2]
  rfl
theorem diff_fin {M0 M1 M2 u0 u1 u2 v0 v1 v2 : Nat} (h0 : M0 < infS) (h1 : M1 < infS) (h2 : M2 < infS)
    (hu0 : Sg M0 u0) (hv0 : Sg M0 v0) (hu1 : Sg M1 u1) (hv1 : Sg M1 v1) (hu2 : Sg M2 u2) (hv2 : Sg M2 v2)
    (d0 : F.add .f32 M0 M0 < infS) (d1 : F.add .f32 M1 M1 < infS) (d2 : F.add .f32 M2 M2 < infS)
    (s0 : F.mul .f32 (F.add .f32 M0 M0) (F.add .f32 M0 M0) < infS) (s1 : F.mul .f32 (F.add .f32 M1 M1) (F.add .f32 M1 M1) < infS) (s2 : F.mul .f32 (F.add .f32 M2 M2) (F.add .f32 M2 M2) < infS)
    (q1 : F.mul .f32 M1 M1 < infS) (q2 : F.mul .f32 M2 M2 < infS) (q12 : F.add .f32 (F.mul .f32 M1 M1) (F.mul .f32 M2 M2) < infS)
    (s12 : F.add .f32 (F.mul .f32 (F.add .f32 M1 M1) (F.add .f32 M1 M1)) (F.mul .f32 (F.add .f32 M2 M2) (F.add .f32 M2 M2)) < infS)
    (t12 : F.add .f32 (F.add .f32 (F.mul .f32 (F.add .f32 M1 M1) (F.add .f32 M1 M1)) (F.mul .f32 (F.add .f32 M2 M2) (F.add .f32 M2 M2))) (F.add .f32 (F.mul .f32 (F.add .f32 M1 M1) (F.add .f32 M1 M1)) (F.mul .f32 (F.add .f32 M2 M2) (F.add .f32 M2 M2))) < infS)
    (all : F.add .f32 (F.mul .f32 (F.add .f32 M0 M0) (F.add .f32 M0 M0)) (F.add .f32 (F.add .f32 (F.mul .f32 (F.add .f32 M1 M1) (F.add .f32 M1 M1)) (F.mul .f32 (F.add .f32 M2 M2) (F.add .f32 M2 M2))) (F.add .f32 (F.mul .f32 (F.add .f32 M1 M1) (F.add .f32 M1 M1)) (F.mul .f32 (F.add .f32 M2 M2) (F.add .f32 M2 M2)))) < infS) :
    F.fin .f32 (diffF u0 u1 u2 v0 v1 v2) = true := by
  have i : ∀ {n : Nat}, n < infS → n < FloatKind.f32.format.infRung := fun h => by rw [infS_eq]; exact h
  have a0 := sq_le d0 (sub_sg h0 h0 hu0 hv0)
  have a1 := sq_le d1 (sub_sg h1 h1 hu1 hv1)
  have a2 := sq_le d2 (sub_sg h2 h2 hu2 hv2)
  have b1 := sq_le h1 hu1
  have b2 := sq_le h2 hu2
  have b12 := add_bits (k := .f32) b1 b2 (i q1) (i q2)
  have a12 := add_bits (k := .f32) a1 a2 (i s1) (i s2)
  unfold diffF
  have hr := root_lt (x := F.add .f32 (F.mul .f32 u1 u1) (F.mul .f32 u2 u2)) (by omega)
  generalize rootF (F.add .f32 (F.mul .f32 u1 u1) (F.mul .f32 u2 u2)) = R at *
  generalize F.mul .f32 (F.sub .f32 u0 v0) (F.sub .f32 u0 v0) = Q0 at *
  generalize F.add .f32 (F.mul .f32 (F.sub .f32 u1 v1) (F.sub .f32 u1 v1)) (F.mul .f32 (F.sub .f32 u2 v2) (F.sub .f32 u2 v2)) = Q12 at *
  -- the weight
  have c1 : F.mul .f32 c001 R < infS := by
    have k : Nat.blt (F.mul .f32 c001 (infS - 1)) infS = true := by kernel_rfl
    exact Nat.lt_of_le_of_lt (mul_bits (k := .f32) (Nat.le_refl _) (show R ≤ infS - 1 by omega) (i (by decide)) (i (by decide))) (blt_lt k)
  have c1' : F.mul .f32 c001 R ≤ F.mul .f32 c001 (infS - 1) := mul_bits (k := .f32) (Nat.le_refl _) (show R ≤ infS - 1 by omega) (i (by decide)) (i (by decide))
  have cA : F.add .f32 oneS (F.mul .f32 c001 R) < infS := by
    have k : Nat.blt (F.add .f32 oneS (F.mul .f32 c001 (infS - 1))) infS = true := by kernel_rfl
    have k' : Nat.blt (F.mul .f32 c001 (infS - 1)) infS = true := by kernel_rfl
    exact Nat.lt_of_le_of_lt (add_bits (k := .f32) (Nat.le_refl _) c1' (i (by decide)) (i (blt_lt k'))) (blt_lt k)
  have cB : oneS ≤ F.add .f32 oneS (F.mul .f32 c001 R) := le_add_self (i (by decide)) (i c1)
  generalize F.add .f32 oneS (F.mul .f32 c001 R) = A at *
  have hQ12 : Q12 < infS := by omega
  have hq : F.div .f32 Q12 (F.mul .f32 A A) ≤ F.add .f32 Q12 Q12 := by
    have hle : F.mul .f32 A A ≤ infS := by rw [← infS_eq]; exact mul_top (i cA) (i cA)
    have hge : oneS ≤ F.mul .f32 A A := by
      have k : Nat.beq (F.mul .f32 oneS oneS) oneS = true := by kernel_rfl
      have := mul_bits (k := .f32) cB cB (i cA) (i cA)
      rw [Nat.eq_of_beq_eq_true k] at this
      exact this
    rcases Nat.lt_or_ge (F.mul .f32 A A) infS with h | h
    · have h3 := div_bits (k := .f32) (x := Q12) (y := F.mul .f32 A A) (i hQ12) (i h) (Nat.le_trans (oneR_val .f32) (valN_le.2 (show oneR .f32 ≤ _ from hge)))
      rw [← add_pos (i hQ12) (i hQ12)] at h3
      exact h3
    · have : F.mul .f32 A A = infS := by omega
      rw [this, div_inf hQ12]; exact Nat.zero_le _
  have hq2 : F.add .f32 Q12 Q12 ≤ _ := add_bits (k := .f32) a12 a12 (i s12) (i s12)
  have hlast := add_bits (k := .f32) a0 (Nat.le_trans hq hq2) (i s0) (i t12)
  have hfin := root_lt (x := F.add .f32 Q0 (F.div .f32 Q12 (F.mul .f32 A A))) (by omega)
  exact fin_pos (i hfin)
end Go.Sx
