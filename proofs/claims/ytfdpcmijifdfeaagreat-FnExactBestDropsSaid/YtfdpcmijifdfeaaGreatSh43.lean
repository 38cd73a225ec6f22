/- The contract of a function that says whether a shelf of 1 to 6 pigments is valid. No condition. -/
import Derived.Test.YtfdpcmijifdfeaaGreatCt
noncomputable section
namespace Go.Proofs.YtfdpcmijifdfeaaGreat.Leaf
open Go.Sx
set_option linter.unusedVariables false
set_option linter.unusedSimpArgs false
set_option maxRecDepth 100000
theorem v43_1 : retT (callP Tryz.prog (ctxL l4) 1000 43 [.aggS 1 pgs t6]) .bool (bldP [.aggS 1 pgs t6] 0 0).pc (shT 1) = true := by kernel_rfl
theorem v43_2 : retT (callP Tryz.prog (ctxL l4) 1000 43 [.aggS 2 pgs t6]) .bool (bldP [.aggS 2 pgs t6] 0 0).pc (shT 2) = true := by kernel_rfl
theorem v43_3 : retT (callP Tryz.prog (ctxL l4) 1000 43 [.aggS 3 pgs t6]) .bool (bldP [.aggS 3 pgs t6] 0 0).pc (shT 3) = true := by kernel_rfl
theorem v43_4 : retT (callP Tryz.prog (ctxL l4) 1000 43 [.aggS 4 pgs t6]) .bool (bldP [.aggS 4 pgs t6] 0 0).pc (shT 4) = true := by kernel_rfl
theorem v43_5 : retT (callP Tryz.prog (ctxL l4) 1000 43 [.aggS 5 pgs t6]) .bool (bldP [.aggS 5 pgs t6] 0 0).pc (shT 5) = true := by kernel_rfl
theorem v43_6 : retT (callP Tryz.prog (ctxL l4) 1000 43 [.aggS 6 pgs t6]) .bool (bldP [.aggS 6 pgs t6] 0 0).pc (shT 6) = true := by kernel_rfl
theorem u43 : ((Nat.ble (bldP [.aggS 1 pgs t6] 0 0).j 1000 && (shT 1).under (bldP [.aggS 1 pgs t6] 0 0).n) && ((Nat.ble (bldP [.aggS 2 pgs t6] 0 0).j 1000 && (shT 2).under (bldP [.aggS 2 pgs t6] 0 0).n) && ((Nat.ble (bldP [.aggS 3 pgs t6] 0 0).j 1000 && (shT 3).under (bldP [.aggS 3 pgs t6] 0 0).n) && ((Nat.ble (bldP [.aggS 4 pgs t6] 0 0).j 1000 && (shT 4).under (bldP [.aggS 4 pgs t6] 0 0).n) && ((Nat.ble (bldP [.aggS 5 pgs t6] 0 0).j 1000 && (shT 5).under (bldP [.aggS 5 pgs t6] 0 0).n) && (Nat.ble (bldP [.aggS 6 pgs t6] 0 0).j 1000 && (shT 6).under (bldP [.aggS 6 pgs t6] 0 0).n)))))) = true := by kernel_rfl
theorem s43 {E : Env} (hE : Fok E.fn) (n : Nat) (h1 : 1 ≤ n) (h6 : n ≤ 6) : SumOk Tryz.prog E 43 (sumA [.aggS n pgs t6] .bool (10 + n)) := by
  have u := u43
  simp only [Bool.and_eq_true] at u
  match n, h1, h6 with
  | 1, _, _ => exact sumA_ok (ctx := ctxL l4) (n := 1000) (D := shT 1) (c4' hE) nm mixed (defOf (by simp [Ds]) hE) (by simp only [Bool.and_eq_true]; exact u.1) v43_1
  | 2, _, _ => exact sumA_ok (ctx := ctxL l4) (n := 1000) (D := shT 2) (c4' hE) nm mixed (defOf (by simp [Ds]) hE) (by simp only [Bool.and_eq_true]; exact u.2.1) v43_2
  | 3, _, _ => exact sumA_ok (ctx := ctxL l4) (n := 1000) (D := shT 3) (c4' hE) nm mixed (defOf (by simp [Ds]) hE) (by simp only [Bool.and_eq_true]; exact u.2.2.1) v43_3
  | 4, _, _ => exact sumA_ok (ctx := ctxL l4) (n := 1000) (D := shT 4) (c4' hE) nm mixed (defOf (by simp [Ds]) hE) (by simp only [Bool.and_eq_true]; exact u.2.2.2.1) v43_4
  | 5, _, _ => exact sumA_ok (ctx := ctxL l4) (n := 1000) (D := shT 5) (c4' hE) nm mixed (defOf (by simp [Ds]) hE) (by simp only [Bool.and_eq_true]; exact u.2.2.2.2.1) v43_5
  | 6, _, _ => exact sumA_ok (ctx := ctxL l4) (n := 1000) (D := shT 6) (c4' hE) nm mixed (defOf (by simp [Ds]) hE) (by simp only [Bool.and_eq_true]; exact u.2.2.2.2.2) v43_6
end Go.Proofs.YtfdpcmijifdfeaaGreat.Leaf
noncomputable section
namespace Go.Proofs.YtfdpcmijifdfeaaGreat.Leaf
open Go.Sx
set_option linter.unusedVariables false
set_option linter.unusedSimpArgs false
set_option maxRecDepth 100000
theorem v132_1 : retT (callP Tryz.prog (ctxL l4) 1000 41 [.ptS 1 pgs t6]) .bool (bldP [.ptS 1 pgs t6] 0 0).pc (shT 1) = true := by kernel_rfl
theorem v132_2 : retT (callP Tryz.prog (ctxL l4) 1000 41 [.ptS 2 pgs t6]) .bool (bldP [.ptS 2 pgs t6] 0 0).pc (shT 2) = true := by kernel_rfl
theorem v132_3 : retT (callP Tryz.prog (ctxL l4) 1000 41 [.ptS 3 pgs t6]) .bool (bldP [.ptS 3 pgs t6] 0 0).pc (shT 3) = true := by kernel_rfl
theorem v132_4 : retT (callP Tryz.prog (ctxL l4) 1000 41 [.ptS 4 pgs t6]) .bool (bldP [.ptS 4 pgs t6] 0 0).pc (shT 4) = true := by kernel_rfl
theorem v132_5 : retT (callP Tryz.prog (ctxL l4) 1000 41 [.ptS 5 pgs t6]) .bool (bldP [.ptS 5 pgs t6] 0 0).pc (shT 5) = true := by kernel_rfl
theorem v132_6 : retT (callP Tryz.prog (ctxL l4) 1000 41 [.ptS 6 pgs t6]) .bool (bldP [.ptS 6 pgs t6] 0 0).pc (shT 6) = true := by kernel_rfl
theorem u132 : ((Nat.ble (bldP [.ptS 1 pgs t6] 0 0).j 1000 && (shT 1).under (bldP [.ptS 1 pgs t6] 0 0).n) && ((Nat.ble (bldP [.ptS 2 pgs t6] 0 0).j 1000 && (shT 2).under (bldP [.ptS 2 pgs t6] 0 0).n) && ((Nat.ble (bldP [.ptS 3 pgs t6] 0 0).j 1000 && (shT 3).under (bldP [.ptS 3 pgs t6] 0 0).n) && ((Nat.ble (bldP [.ptS 4 pgs t6] 0 0).j 1000 && (shT 4).under (bldP [.ptS 4 pgs t6] 0 0).n) && ((Nat.ble (bldP [.ptS 5 pgs t6] 0 0).j 1000 && (shT 5).under (bldP [.ptS 5 pgs t6] 0 0).n) && (Nat.ble (bldP [.ptS 6 pgs t6] 0 0).j 1000 && (shT 6).under (bldP [.ptS 6 pgs t6] 0 0).n)))))) = true := by kernel_rfl
theorem s132 {E : Env} (hE : Fok E.fn) (n : Nat) (h1 : 1 ≤ n) (h6 : n ≤ 6) : SumOk Tryz.prog E 41 (sumA [.ptS n pgs t6] .bool (10 + n)) := by
  have u := u132
  simp only [Bool.and_eq_true] at u
  match n, h1, h6 with
  | 1, _, _ => exact sumA_ok (ctx := ctxL l4) (n := 1000) (D := shT 1) (c4' hE) nm mixed (defOf (by simp [Ds]) hE) (by simp only [Bool.and_eq_true]; exact u.1) v132_1
  | 2, _, _ => exact sumA_ok (ctx := ctxL l4) (n := 1000) (D := shT 2) (c4' hE) nm mixed (defOf (by simp [Ds]) hE) (by simp only [Bool.and_eq_true]; exact u.2.1) v132_2
  | 3, _, _ => exact sumA_ok (ctx := ctxL l4) (n := 1000) (D := shT 3) (c4' hE) nm mixed (defOf (by simp [Ds]) hE) (by simp only [Bool.and_eq_true]; exact u.2.2.1) v132_3
  | 4, _, _ => exact sumA_ok (ctx := ctxL l4) (n := 1000) (D := shT 4) (c4' hE) nm mixed (defOf (by simp [Ds]) hE) (by simp only [Bool.and_eq_true]; exact u.2.2.2.1) v132_4
  | 5, _, _ => exact sumA_ok (ctx := ctxL l4) (n := 1000) (D := shT 5) (c4' hE) nm mixed (defOf (by simp [Ds]) hE) (by simp only [Bool.and_eq_true]; exact u.2.2.2.2.1) v132_5
  | 6, _, _ => exact sumA_ok (ctx := ctxL l4) (n := 1000) (D := shT 6) (c4' hE) nm mixed (defOf (by simp [Ds]) hE) (by simp only [Bool.and_eq_true]; exact u.2.2.2.2.2) v132_6
end Go.Proofs.YtfdpcmijifdfeaaGreat.Leaf
