/- A third root is not great. No condition. -/
import Derived.Test.YtamljpeicecbjaaSxDiff
set_option linter.unusedVariables false
set_option linter.unusedSimpArgs false
noncomputable section
namespace Go.Sx
open Go Ieee

theorem narrow_val {w : Nat} (h : w ≤ topR) : F.conv .f64 .f32 w = RgN single (valN double w) (-1074) := by
  have hlt : w < double.infRung := Nat.lt_of_le_of_lt h (by decide)
  obtain ⟨m, e, h1, h2⟩ := narrow_pos hlt
  rw [h1] at h2
  unfold F.conv
  simp only [reduceCtorEq, if_false]
  show (match double.read w with
    | .nan _ _ => nanOf .f32
    | y => single.write y) = _
  rw [h1]
  exact h2
def R0 : Nat := F.conv .f64 .f32 (F.mul .f64 c64 x43)
theorem R0_k : Nat.blt R0 infS = true := by kernel_rfl
theorem R0_lt : R0 < infS := blt_lt R0_k
theorem narrow_R0 {w : Nat} (h : w ≤ F.mul .f64 c64 x43) : F.conv .f64 .f32 w ≤ R0 := by
  have ht : F.mul .f64 c64 x43 ≤ topR := Nat.le_of_ble_eq_true rx_top
  rw [R0, narrow_val (Nat.le_trans h ht), narrow_val ht]
  exact RgN_mono single (by decide) (valN_le.2 h)
theorem cb_sg {E : Env} (h30 : ∀ c, E.fn 30 c = upF c) (h31 : ∀ c, E.fn 31 c = dnF c) (h32 : ∀ c, E.fn 32 c = nwF c) (hf : F.fin .f32 (E.v 0).toF = true) : Sg R0 ((CBs.den E).at_ 0).toF := by
  cases h0 : (is0.den E).toB with
  | true =>
    simp only [CBs, listT, Tm.den, h0, if_true, Sc.at_zero, Sc.toF_f]
    exact Sg.pos (Nat.zero_le _)
  | false =>
    obtain ⟨z, e1, _, z1, z2⟩ := b0_eq hf h0
    have hle := y_le h30 h31 h32 (b0 := b0S) (by rw [e1]; exact z1) (by rw [e1]; exact z2)
    have hR := narrow_R0 hle
    simp only [CBs, listT, Tm.den, h0, Bool.false_eq_true, if_false, Sc.at_zero]
    cases hn : (isNg.den E).toB with
    | true =>
      simp only [if_true, Opc.den, Sc.toF_f]
      refine ⟨true, _, neg_pos .f32 ?_, hR⟩
      rw [infS_eq]; exact Nat.lt_of_le_of_lt hR R0_lt
    | false =>
      simp only [Bool.false_eq_true, if_false, Opc.den, Sc.toF_f]
      exact Sg.pos hR
def c116 : Nat := 1122500608
def c16 : Nat := 1098907648
def c500 : Nat := 1140457472
def c200 : Nat := 1128792064
def M0 : Nat := F.add .f32 (F.mul .f32 c116 R0) c16
def M1 : Nat := F.mul .f32 c500 (F.add .f32 R0 R0)
def M2 : Nat := F.mul .f32 c200 (F.add .f32 R0 R0)
theorem look_sg {f0 f1 f2 : Nat} (h0 : Sg R0 f0) (h1 : Sg R0 f1) (h2 : Sg R0 f2) :
    Sg M0 (F.sub .f32 (F.mul .f32 c116 f1) c16) ∧ Sg M1 (F.mul .f32 c500 (F.sub .f32 f0 f1)) ∧ Sg M2 (F.mul .f32 c200 (F.sub .f32 f1 f2)) := by
  have k1 : Nat.blt (F.mul .f32 c116 R0) infS = true := by kernel_rfl
  have k2 : Nat.blt (F.add .f32 R0 R0) infS = true := by kernel_rfl
  have c : ∀ n, Nat.blt n infS = true → Sg n n := fun n _ => Sg.pos (Nat.le_refl _)
  have l116 : c116 < infS := by decide
  have l16 : c16 < infS := by decide
  have l500 : c500 < infS := by decide
  have l200 : c200 < infS := by decide
  refine ⟨sub_sg (blt_lt k1) l16 (mul_sg l116 R0_lt (c _ (by decide)) h1) (c _ (by decide)), mul_sg l500 (blt_lt k2) (c _ (by decide)) (sub_sg R0_lt R0_lt h0 h1), mul_sg l200 (blt_lt k2) (c _ (by decide)) (sub_sg R0_lt R0_lt h1 h2)⟩
/-- How different two looks are is finite. -/
theorem looks_fin {u0 u1 u2 v0 v1 v2 : Nat} (hu0 : Sg M0 u0) (hu1 : Sg M1 u1) (hu2 : Sg M2 u2) (hv0 : Sg M0 v0) (hv1 : Sg M1 v1) (hv2 : Sg M2 v2) : F.fin .f32 (diffF u0 u1 u2 v0 v1 v2) = true := by
  have k : ((((Nat.blt M0 infS && Nat.blt M1 infS) && (Nat.blt M2 infS && Nat.blt (F.add .f32 M0 M0) infS)) && ((Nat.blt (F.add .f32 M1 M1) infS && Nat.blt (F.add .f32 M2 M2) infS) && (Nat.blt (F.mul .f32 (F.add .f32 M0 M0) (F.add .f32 M0 M0)) infS && Nat.blt (F.mul .f32 (F.add .f32 M1 M1) (F.add .f32 M1 M1)) infS))) && (((Nat.blt (F.mul .f32 (F.add .f32 M2 M2) (F.add .f32 M2 M2)) infS && Nat.blt (F.mul .f32 M1 M1) infS) && (Nat.blt (F.mul .f32 M2 M2) infS && Nat.blt (F.add .f32 (F.mul .f32 M1 M1) (F.mul .f32 M2 M2)) infS)) && ((Nat.blt (F.add .f32 (F.mul .f32 (F.add .f32 M1 M1) (F.add .f32 M1 M1)) (F.mul .f32 (F.add .f32 M2 M2) (F.add .f32 M2 M2))) infS && Nat.blt (F.add .f32 (F.add .f32 (F.mul .f32 (F.add .f32 M1 M1) (F.add .f32 M1 M1)) (F.mul .f32 (F.add .f32 M2 M2) (F.add .f32 M2 M2))) (F.add .f32 (F.mul .f32 (F.add .f32 M1 M1) (F.add .f32 M1 M1)) (F.mul .f32 (F.add .f32 M2 M2) (F.add .f32 M2 M2)))) infS) && Nat.blt (F.add .f32 (F.mul .f32 (F.add .f32 M0 M0) (F.add .f32 M0 M0)) (F.add .f32 (F.add .f32 (F.mul .f32 (F.add .f32 M1 M1) (F.add .f32 M1 M1)) (F.mul .f32 (F.add .f32 M2 M2) (F.add .f32 M2 M2))) (F.add .f32 (F.mul .f32 (F.add .f32 M1 M1) (F.add .f32 M1 M1)) (F.mul .f32 (F.add .f32 M2 M2) (F.add .f32 M2 M2))))) infS))) = true := by kernel_rfl
  simp only [Bool.and_eq_true] at k
  obtain ⟨⟨⟨⟨a1, a2⟩, a3, a4⟩, ⟨a5, a6⟩, a7, a8⟩, ⟨⟨a9, a10⟩, a11, a12⟩, ⟨a13, a14⟩, a15⟩ := k
  exact diff_fin (blt_lt a1) (blt_lt a2) (blt_lt a3) hu0 hv0 hu1 hv1 hu2 hv2 (blt_lt a4) (blt_lt a5) (blt_lt a6) (blt_lt a7) (blt_lt a8) (blt_lt a9) (blt_lt a10) (blt_lt a11) (blt_lt a12) (blt_lt a13) (blt_lt a14) (blt_lt a15)
end Go.Sx
