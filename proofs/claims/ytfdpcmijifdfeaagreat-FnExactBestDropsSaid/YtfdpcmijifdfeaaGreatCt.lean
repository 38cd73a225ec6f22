/- The contracts of the small functions: amounts, names, pigments, copies, comparisons. No condition. -/
import Derived.Test.YtfdpcmijifdfeaaGreatBigTo
import Derived.Test.YtfdpcmijifdfeaaGreatSxRes
noncomputable section
namespace Go.Proofs.YtfdpcmijifdfeaaGreat.Leaf
open Go.Sx
set_option linter.unusedVariables false
set_option linter.unusedSimpArgs false
set_option maxRecDepth 100000
def k32 : SK := .float .f32
def i64 : SK := .int .i64
def f6 : List SK := times [.float .f32] 6
def d6 : List SK := times [.int .i16] 6
def t6 : List SK := times [.int .i32] 6
def Dam (t : Tm) : Tm := .ite (.op (.fle .f32) (.fl 0) t) (.op (.ffin .f32) t .nil) (.bl false)
def amT : Nat → Nat → Tm
  | 0, _ => .bl true
  | m + 1, n => .ite (Dam (.var n)) (amT m (n + 1)) (.bl false)
def vars : Nat → Nat → List Tm
  | 0, _ => []
  | m + 1, n => .var n :: vars m (n + 1)
def D4 : Tm := .ite (.app 0 (.var 0)) (.ite (.app 3 (listT (vars 16 1))) (.ite (.app 3 (listT (vars 16 17))) (.ite (.op .lei (.il 0) (.var 33)) (.op .lei (.var 33) (.il 1000000)) (.bl false)) (.bl false)) (.bl false)) (.bl false)
def w64 (t : Tm) : Tm := .op (.wrap .i64) t .nil
def tinsT (n : Nat) : Nat → Nat → Tm
  | 0, _ => .bl true
  | m + 1, i => .ite (.op .lei (.il 0) (w64 (.var i))) (.ite (.op .lei (w64 (.var i)) (.il 1000000000)) (match Nat.blt i n with
      | true => tinsT n m (i + 1)
      | false => .ite (.op .eqi (.var i) (.il 0)) (tinsT n m (i + 1)) (.bl false)) (.bl false)) (.bl false)
def nmT (i : Nat) (rest : Tm) : Nat → Nat → Tm
  | 0, _ => rest
  | m + 1, k => .ite (.op .eqs (.var (6 + 34 * k)) (.var (6 + 34 * i))) (.bl false) (nmT i rest m (k + 1))
def pigsT (rest : Tm) : Nat → Nat → Tm
  | 0, _ => rest
  | m + 1, i => .ite (.app 4 (listT (vars 34 (6 + 34 * i)))) (nmT i (pigsT rest m (i + 1)) i 0) (.bl false)
def shT (n : Nat) : Tm := pigsT (tinsT n 6 0) n 0
def Drng : Tm := .ite (.op .lei (.var 1) (.var 0)) (.op .lei (.var 0) (.var 2)) (.bl false)
/-- What the named functions stand for. -/
def Ds : List (Nat × Tm) := [(16, shT 6), (15, shT 5), (14, shT 4), (13, shT 3), (12, shT 2), (11, shT 1), (4, D4), (3, amT 16 0)]
noncomputable def F1 : Nat → Sc → Sc := fun k c => if k = 0 then .b (nameF c.toS) else if k = 1 then szSc c else if k = 900 then F900 c else .nil
noncomputable def F2 : Nat → Sc → Sc := buildF F1 Ds
theorem asc : defsAsc Ds 900 = true := by kernel_rfl
theorem F2_900 : ∀ c, F2 900 c = F900 c := fun c => by
  have h : F2 900 = F1 900 := buildF_base (by kernel_rfl)
  rw [h]; simp [F1]
theorem F2_0 : ∀ c, F2 0 c = .b (nameF c.toS) := fun c => by
  have h : F2 0 = F1 0 := buildF_base (by kernel_rfl)
  rw [h]; simp [F1]
theorem F2_1 : ∀ c, F2 1 c = szSc c := fun c => by
  have h : F2 1 = F1 1 := buildF_base (by kernel_rfl)
  rw [h]; simp [F1]
/-- What the contracts ask of the names' meanings. -/
structure Fok (F : Nat → Sc → Sc) : Prop where
  defs : ∀ id D, (id, D) ∈ Ds → ∀ c, F id c = D.den ⟨fun i => c.at_ i, F⟩
  rows : ∀ c, F 900 c = F900 c
  name : ∀ c, F 0 c = .b (nameF c.toS)
  size : ∀ c, F 1 c = szSc c
theorem Fok_F2 : Fok F2 := ⟨fun _ _ h c => buildF_def asc h c, F2_900, F2_0, F2_1⟩
def l1 : List (Nat × Sum) := [(112, nonfinS), (101, finS), (87, nameC), (85, nameC), (135, absS)]
def l2 : List (Nat × Sum) := (89, sumD [.sc k32] .bool (Dam (.var 0))) :: (116, sumD [.sc k32] .bool (Dam (.var 0))) :: (32, sumD [.sc i64, .sc i64, .sc i64] .bool Drng) :: (26, sumD [.sc i64, .sc i64, .sc i64] .bool Drng) :: l1
def l3 : List (Nat × Sum) := (88, sumA [.agg f16, .fn 89] .bool 3) :: (86, sumA [.agg f16] .bool 3) :: l2
def l4 : List (Nat × Sum) := (62, sumA [.agg pgs] .bool 4) :: (60, sumA [.pt pgs] .bool 4) :: (54, sumI pgs) :: (11, sumI f16) :: (10, sumI d6) :: (30, sumI t6) :: (59, sumE pgs) :: (84, sumE f16) :: (23, sumE f6) :: (13, sumE d6) :: (37, sumE t6) :: l3
section
variable {E : Env}
theorem nm : Named Tryz.prog := named_of named
theorem c1 (hE : Fok E.fn) : CtxOk Tryz.prog E (ctxL l1) ∧ CtxPc E (ctxL l1) := by
  have h0 : ∀ c, E.fn 0 c = .b (nameF c.toS) := hE.name
  refine ctxL_cons (ctxL_cons (ctxL_cons (ctxL_cons (ctxL_cons (l := []) ctxL_nil (abs_ok E) sumS_pc) (nameC_ok h0 ⟨_, Tryz.func85, by kernel_rfl⟩ name2_walk) nameC_pc)
    (nameC_ok h0 ⟨_, Tryz.func87, by kernel_rfl⟩ name_walk) nameC_pc) (fin_ok E) sumS_pc) (nonfin_ok E) sumS_pc
theorem c1' (hE : Fok E.fn) : ∀ E' : Env, E'.fn = E.fn → CtxOk Tryz.prog E' (ctxL l1) ∧ CtxPc E' (ctxL l1) := fun E' h => c1 (by rw [h]; exact hE)
theorem c2 (hE : Fok E.fn) : CtxOk Tryz.prog E (ctxL l2) ∧ CtxPc E (ctxL l2) :=
  ctxL_cons (ctxL_cons (ctxL_cons (ctxL_cons (c1 hE)
    (sumD_ok (ctx := ctxL l1) (n := 100) (c1' hE) nm mixed (by kernel_rfl) (by kernel_rfl)) sumP_pc)
    (sumD_ok (ctx := ctxL l1) (n := 100) (c1' hE) nm mixed (by kernel_rfl) (by kernel_rfl)) sumP_pc)
    (sumD_ok (ctx := ctxL l1) (n := 100) (c1' hE) nm mixed (by kernel_rfl) (by kernel_rfl)) sumP_pc)
    (sumD_ok (ctx := ctxL l1) (n := 100) (c1' hE) nm mixed (by kernel_rfl) (by kernel_rfl)) sumP_pc
theorem c2' (hE : Fok E.fn) : ∀ E' : Env, E'.fn = E.fn → CtxOk Tryz.prog E' (ctxL l2) ∧ CtxPc E' (ctxL l2) := fun E' h => c2 (by rw [h]; exact hE)
theorem defOf {id : Nat} {D : Tm} (h : (id, D) ∈ Ds) (hE : Fok E.fn) : ∀ c, E.fn id c = D.den ⟨fun i => c.at_ i, E.fn⟩ := hE.defs id D h
theorem c3 (hE : Fok E.fn) : CtxOk Tryz.prog E (ctxL l3) ∧ CtxPc E (ctxL l3) :=
  ctxL_cons (ctxL_cons (c2 hE)
    (sumA_ok (ctx := ctxL l2) (n := 1000) (D := amT 16 0) (c2' hE) nm mixed (defOf (by simp [Ds]) hE) (by kernel_rfl) (by kernel_rfl)) sumP_pc)
    (sumA_ok (ctx := ctxL l2) (n := 1000) (D := amT 16 0) (c2' hE) nm mixed (defOf (by simp [Ds]) hE) (by kernel_rfl) (by kernel_rfl)) sumP_pc
theorem c3' (hE : Fok E.fn) : ∀ E' : Env, E'.fn = E.fn → CtxOk Tryz.prog E' (ctxL l3) ∧ CtxPc E' (ctxL l3) := fun E' h => c3 (by rw [h]; exact hE)
theorem c4 (hE : Fok E.fn) : CtxOk Tryz.prog E (ctxL l4) ∧ CtxPc E (ctxL l4) :=
  ctxL_cons (ctxL_cons (ctxL_cons (ctxL_cons (ctxL_cons (ctxL_cons (ctxL_cons (ctxL_cons (ctxL_cons (ctxL_cons (ctxL_cons (c3 hE)
    (sumE_ok (ctx := ctxL l3) (n := 1000) (c3' hE) nm mixed (by kernel_rfl)) sumE_pc)
    (sumE_ok (ctx := ctxL l3) (n := 1000) (c3' hE) nm mixed (by kernel_rfl)) sumE_pc)
    (sumE_ok (ctx := ctxL l3) (n := 1000) (c3' hE) nm mixed (by kernel_rfl)) sumE_pc)
    (sumE_ok (ctx := ctxL l3) (n := 1000) (c3' hE) nm mixed (by kernel_rfl)) sumE_pc)
    (sumE_ok (ctx := ctxL l3) (n := 1000) (c3' hE) nm mixed (by kernel_rfl)) sumE_pc)
    (sumI_ok (ctx := ctxL l3) (n := 1000) (c3' hE) nm mixed (by kernel_rfl)) sumP_pc)
    (sumI_ok (ctx := ctxL l3) (n := 1000) (c3' hE) nm mixed (by kernel_rfl)) sumP_pc)
    (sumI_ok (ctx := ctxL l3) (n := 1000) (c3' hE) nm mixed (by kernel_rfl)) sumP_pc)
    (sumI_ok (ctx := ctxL l3) (n := 1000) (c3' hE) nm mixed (by kernel_rfl)) sumP_pc)
    (sumA_ok (ctx := ctxL l3) (n := 1000) (D := D4) (c3' hE) nm mixed (defOf (by simp [Ds]) hE) (by kernel_rfl) (by kernel_rfl)) sumP_pc)
    (sumA_ok (ctx := ctxL l3) (n := 1000) (D := D4) (c3' hE) nm mixed (defOf (by simp [Ds]) hE) (by kernel_rfl) (by kernel_rfl)) sumP_pc
theorem c4' (hE : Fok E.fn) : ∀ E' : Env, E'.fn = E.fn → CtxOk Tryz.prog E' (ctxL l4) ∧ CtxPc E' (ctxL l4) := fun E' h => c4 (by rw [h]; exact hE)
end
end Go.Proofs.YtfdpcmijifdfeaaGreat.Leaf
