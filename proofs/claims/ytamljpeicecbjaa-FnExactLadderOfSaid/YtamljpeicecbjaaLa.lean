/- The ladder from one pigment to another one: the loop that makes a list of curves, its law, and the contexts of the law's cases. No condition. -/
import Derived.Test.YtamljpeicecbjaaMc
import Derived.Test.YtamljpeicecbjaaMkO
import Derived.Test.YtamljpeicecbjaaSxDrop
import Derived.Test.YtamljpeicecbjaaSxIter
import Derived.Test.YtamljpeicecbjaaSxLawC
set_option linter.unusedVariables false
set_option linter.unusedSimpArgs false
set_option maxRecDepth 100000
noncomputable section
namespace Go.Proofs.Ytamljpeicecbjaa.Leaf
open Go.Sx
def svL (n : Nat) : Tm := .var (8 + 34 * n)
def ivL : Tm := .var 100000
def invL (n : Nat) : PC := [(.op .lei (.il 0) ivL, true), (.op .lei ivL (.il 65), true), (.op .lei (.il 0) (.var 100001), true), (.op .lei (.var 100001) (.il 65), true), (.op .lei (.il 1) (svL n), true), (.op .lei (svL n) (.il 64), true)]
def totL (n : Nat) : Nat → Tm
  | 0 => svL n
  | z + 1 => .op (.addi .i64) (totL n z) (.il 0)
def numL (n j k : Nat) (i : Tm) (q : Nat) : Tm := match Nat.beq q j with
  | true => .op (.i2f .f32) (.op (.subi .i64) (svL n) i) .nil
  | false => match Nat.beq q k with | true => .op (.i2f .f32) i .nil | false => .fl 0
def partsL (n j k : Nat) (i : Tm) : Nat → Nat → List Tm
  | 0, _ => []
  | m + 1, q => .op (.fdiv .f32) (numL n j k i q) (.op (.i2f .f32) (totL n (5 - max j k)) .nil) :: partsL n j k i m (q + 1)
def mixE (n j k : Nat) (i : Tm) : Tm := .app (230 + n) (listT (vars 6 (34 * n) ++ (vars (34 * n) 0 ++ partsL n j k i 6 0)))
def mixL (n j k : Nat) : Tm := mixE n j k ivL
def thL (n j k : Nat) : Tm := .app 20 (listT (nths (mixL n j k) 32 0))
def condL (n j k : Nat) : Tm := .ite (.op .lei ivL (svL n)) (.ite (.op .eqi (.nth 33 (mixL n j k)) (.il 0)) (.op .eqi (.nth 16 (thL n j k)) (.il 0)) (.bl false)) (.bl false)
def nextL (n j k : Nat) : List Tm := [.op (.addi .i64) ivL (.il 1), .op (.addi .i64) (.var 100001) (.il 1), .op .snoc (.var 100002) (listT ((nths (thL n j k) 16 0).map fun t => .cons (.il 10) t))]
def LS (n j k si so : Nat) : LoopSpec := { b := 100000, places := [.slot si], lists := [(so, f16)], args := varsL (9 + 34 * n) 0, N := 2000 + (36 * n + 6 * j + k), pre := (.op .eqi (.var 100001) ivL, true) :: invL n, inv := invL n, cond := condL n j k, pol := false, next := nextL n j k }
/-! Names -/
def F1l : Nat → Sc → Sc := fun k c => if k = 911 then marksF kC c else F1 k c
def baseQ : Nat → Nat → Sc → Sc
  | 0 => F1l
  | t + 1 => fun k c => if k = 2000 + t then loopN (LS (t / 36) (t % 36 / 6) (t % 6) 0 0) (9 + 34 * (t / 36)) (buildF (baseQ t) Ds4) c else baseQ t k c
theorem baseQ_lo {n : Nat} : ∀ {m k : Nat}, n ≤ m → k < 2000 + n → baseQ m k = baseQ n k
  | 0, k, h, _ => by have : n = 0 := by omega
                     subst this; rfl
  | m + 1, k, h, hk => by
    by_cases e : n = m + 1
    · subst e; rfl
    · funext c
      have : ¬ k = 2000 + m := by omega
      show (if k = 2000 + m then _ else baseQ m k c) = _
      rw [if_neg this, baseQ_lo (m := m) (by omega) hk]
theorem baseQ_at {n : Nat} : ∀ {m : Nat}, n < m → ∀ c, baseQ m (2000 + n) c = loopN (LS (n / 36) (n % 36 / 6) (n % 6) 0 0) (9 + 34 * (n / 36)) (buildF (baseQ n) Ds4) c
  | m + 1, h, c => by
    by_cases e : n = m
    · subst e
      show (if 2000 + n = 2000 + n then _ else _) = _
      rw [if_pos rfl]
    · show (if 2000 + n = 2000 + m then _ else baseQ m (2000 + n) c) = _
      rw [if_neg (by omega)]
      exact baseQ_at (m := m) (by omega) c
theorem buildF_eqQ {F F' : Nat → Sc → Sc} {B : Nat} (h : ∀ k, k < B → F k = F' k) : ∀ {l : List (Nat × Tm)} {b : Nat}, defsAsc l b = true → b ≤ B → ∀ k, k < B → buildF F l k = buildF F' l k
  | [], _, _, _, k, hk => by funext c; exact congrFun (h k hk) c
  | (id, D) :: r, b, ha, hb, k, hk => by
    simp only [defsAsc] at ha
    split at ha
    · rename_i h1 h2
      have hlt : id < b := by simp only [Nat.blt] at h1; exact Nat.le_of_ble_eq_true h1
      have ih := buildF_eqQ h (l := r) (b := id) ha (by omega)
      funext c
      simp only [buildF]
      split
      · have hx : ∀ k, k < id → buildF F r k = buildF F' r k := fun k hk => ih k (by omega)
        exact apps_den (v := fun i => c.at_ i) hx h2
      · exact congrFun (ih k hk) c
    · cases ha
def FL : Nat → Sc → Sc := buildF (baseQ 252) Ds4
structure FokL (F : Nat → Sc → Sc) : Prop extends Fok4 F where
  mkC : ∀ c, F 911 c = marksF kC c
  lp : ∀ t, t < 252 → ∀ c, F (2000 + t) c = loopN (LS (t / 36) (t % 36 / 6) (t % 6) 0 0) (9 + 34 * (t / 36)) (buildF (baseQ t) Ds4) c
  lo : ∀ t, t < 252 → ∀ k, k < 2000 + t → F k = buildF (baseQ t) Ds4 k
theorem buildF_high {F : Nat → Sc → Sc} {k : Nat} : ∀ {l : List (Nat × Tm)} {b : Nat}, defsAsc l b = true → b ≤ k → buildF F l k = F k
  | [], _, _, _ => rfl
  | (id, D) :: r, b, ha, hb => by
    simp only [defsAsc] at ha
    split at ha
    · rename_i h1 h2
      have hlt : id < b := by simp only [Nat.blt] at h1; exact Nat.le_of_ble_eq_true h1
      funext c
      simp only [buildF]
      rw [if_neg (by omega)]
      exact congrFun (buildF_high ha (by omega)) c
    · cases ha
theorem FokL_FL : FokL FL where
  defs := fun _ _ h c => buildF_def asc4 (.tail _ (.tail _ (.tail _ (.tail _ (.tail _ (.tail _ (.tail _ (.tail _ h)))))))) c
  rows := fun c => by
    have h : FL 900 = baseQ 252 900 := buildF_high asc4 (by decide)
    rw [h, baseQ_lo (n := 0) (m := 252) (by omega) (by omega)]; simp [baseQ, F1l, F1]
  name := fun c => by
    have h : FL 0 = baseQ 252 0 := buildF_base (by kernel_rfl)
    rw [h, baseQ_lo (n := 0) (m := 252) (by omega) (by omega)]; simp [baseQ, F1l, F1]
  size := fun c => by
    have h : FL 1 = baseQ 252 1 := buildF_base (by kernel_rfl)
    rw [h, baseQ_lo (n := 0) (m := 252) (by omega) (by omega)]; simp [baseQ, F1l, F1]
  defs3 := fun _ _ h c => buildF_def asc4 (.tail _ (.tail _ (.tail _ (.tail _ (.tail _ (.tail _ h)))))) c
  defs4 := fun _ _ h c => buildF_def asc4 h c
  mkC := fun c => by
    have h : FL 911 = baseQ 252 911 := buildF_high asc4 (by decide)
    rw [h, baseQ_lo (n := 0) (m := 252) (by omega) (by omega)]; simp [baseQ, F1l]
  lp := fun t ht c => by
    have h : FL (2000 + t) = baseQ 252 (2000 + t) := buildF_high asc4 (by omega)
    rw [h]
    exact baseQ_at ht c
  lo := fun t ht k hk => buildF_eqQ (B := 2000 + t) (fun k hk => baseQ_lo (by omega) hk) asc4 (by omega) k hk
section
variable {E : Env}
theorem LS_rounds {n j k a b a' b' : Nat} {v z : List Sc} (h : Rounds (LS n j k a b) E v z) : Rounds (LS n j k a' b') E v z := by
  induction h with
  | stop h1 h2 => exact .stop (S := LS n j k a' b') h1 h2
  | more h1 h2 _ ih => exact .more (S := LS n j k a' b') h1 h2 ih
theorem LS_law0 {F : Nat → Sc → Sc} {n j k : Nat} (hn : n ≤ 6) (hc : (LS n j k 0 0).closed (9 + 34 * n) = true) (hF : ∀ c, E.fn (2000 + (36 * n + 6 * j + k)) c = loopN (LS n j k 0 0) (9 + 34 * n) F c) (hE : ∀ q, q < 2000 + (36 * n + 6 * j + k) → E.fn q = F q) : LoopLaw (LS n j k 0 0) E := by
  have v0 : ∀ v : List Sc, (envV 100000 E v).v 100000 = v.getD 0 .nil := fun v => by simp [envV, List.getD]
  have v1 : ∀ v : List Sc, (envV 100000 E v).v 100001 = v.getD 1 .nil := fun v => by simp [envV, List.getD]
  have vs : ∀ v : List Sc, (envV 100000 E v).v (8 + 34 * n) = E.v (8 + 34 * n) := fun v => envV_lt (by omega)
  refine loopN_law (m := 9 + 34 * n) (F := F) hc rfl rfl rfl hF hE fun v hv hp => ?_
  have p0 := hp (.op .eqi (.var 100001) ivL, true) (List.mem_cons_self ..)
  have p1 := hp (.op .lei (.il 0) ivL, true) (List.mem_cons_of_mem _ (List.mem_cons_self ..))
  have p2 := hp (.op .lei ivL (.il 65), true) (List.mem_cons_of_mem _ (List.mem_cons_of_mem _ (List.mem_cons_self ..)))
  have p5 := hp (.op .lei (.il 1) (svL n), true) (List.mem_cons_of_mem _ (List.mem_cons_of_mem _ (List.mem_cons_of_mem _ (List.mem_cons_of_mem _ (List.mem_cons_of_mem _ (List.mem_cons_self ..))))))
  have p6 := hp (.op .lei (svL n) (.il 64), true) (List.mem_cons_of_mem _ (List.mem_cons_of_mem _ (List.mem_cons_of_mem _ (List.mem_cons_of_mem _ (List.mem_cons_of_mem _ (List.mem_cons_of_mem _ (List.mem_cons_self ..)))))))
  have i0 : (v.getD 1 .nil).toI = (v.getD 0 .nil).toI := by rw [← v0 v, ← v1 v]; exact of_decide_eq_true p0
  have i1 : 0 ≤ (v.getD 0 .nil).toI := by rw [← v0 v]; exact of_decide_eq_true p1
  have i2 : (v.getD 0 .nil).toI ≤ 65 := by rw [← v0 v]; exact of_decide_eq_true p2
  have i5 : 1 ≤ (E.v (8 + 34 * n)).toI := by rw [← vs v]; exact of_decide_eq_true p5
  have i6 : (E.v (8 + 34 * n)).toI ≤ 64 := by rw [← vs v]; exact of_decide_eq_true p6
  obtain ⟨z, hz, _⟩ := rounds_fall (S := LS n j k 0 0) (E := E) (fun v => (v.getD 1 .nil).toI = (v.getD 0 .nil).toI ∧ 0 ≤ (v.getD 0 .nil).toI ∧ (v.getD 0 .nil).toI ≤ 65) (fun v => (66 - (v.getD 0 .nil).toI).toNat)
    (fun v hI p hp => by
      obtain ⟨q0, q1, q2⟩ := hI
      simp only [LS, invL, List.mem_cons, List.not_mem_nil, or_false] at hp
      rcases hp with rfl | rfl | rfl | rfl | rfl | rfl
      · show decide ((0 : Int) ≤ ((envV 100000 E v).v 100000).toI) = true
        rw [v0]; exact decide_eq_true q1
      · show decide (((envV 100000 E v).v 100000).toI ≤ 65) = true
        rw [v0]; exact decide_eq_true q2
      · show decide ((0 : Int) ≤ ((envV 100000 E v).v 100001).toI) = true
        rw [v1]; exact decide_eq_true (by omega)
      · show decide (((envV 100000 E v).v 100001).toI ≤ 65) = true
        rw [v1]; exact decide_eq_true (by omega)
      · show decide ((1 : Int) ≤ ((envV 100000 E v).v (8 + 34 * n)).toI) = true
        rw [vs]; exact decide_eq_true i5
      · show decide (((envV 100000 E v).v (8 + 34 * n)).toI ≤ 64) = true
        rw [vs]; exact decide_eq_true i6)
    (fun v hI hcd => by
      obtain ⟨q0, q1, q2⟩ := hI
      have hle : (v.getD 0 .nil).toI ≤ (E.v (8 + 34 * n)).toI := by
        obtain ⟨hd, _⟩ := ite_true (c := ((Tm.op .lei ivL (svL n)).den (envV 100000 E v)).toB) (x := (Tm.ite (.op .eqi (.nth 33 (mixL n j k)) (.il 0)) (.op .eqi (.nth 16 (thL n j k)) (.il 0)) (.bl false)).den (envV 100000 E v)) hcd
        have : ((envV 100000 E v).v 100000).toI ≤ ((envV 100000 E v).v (8 + 34 * n)).toI := of_decide_eq_true hd
        rw [v0, vs] at this
        exact this
      have e0 : ((((LS n j k 0 0).next.map (Tm.den (envV 100000 E v))).getD 0 .nil)).toI = (v.getD 0 .nil).toI + 1 := by
        show IntKind.i64.wrap (((envV 100000 E v).v 100000).toI + 1) = _
        rw [v0]
        exact wrap_in .i64 (by rw [← kmin_eq]; show (-9223372036854775808 : Int) ≤ _; omega) (by rw [← kmax_eq]; show _ ≤ (9223372036854775807 : Int); omega)
      have e1 : ((((LS n j k 0 0).next.map (Tm.den (envV 100000 E v))).getD 1 .nil)).toI = (v.getD 0 .nil).toI + 1 := by
        show IntKind.i64.wrap (((envV 100000 E v).v 100001).toI + 1) = _
        rw [v1, q0]
        exact wrap_in .i64 (by rw [← kmin_eq]; show (-9223372036854775808 : Int) ≤ _; omega) (by rw [← kmax_eq]; show _ ≤ (9223372036854775807 : Int); omega)
      refine ⟨⟨?_, ?_, ?_⟩, ?_⟩
      · rw [show (LS n j k 0 0).b = 100000 from rfl, e0, e1]
      · rw [show (LS n j k 0 0).b = 100000 from rfl, e0]; omega
      · rw [show (LS n j k 0 0).b = 100000 from rfl, e0]; omega
      · rw [show (LS n j k 0 0).b = 100000 from rfl, e0]; omega) _ v (Nat.le_refl _) ⟨i0, i1, i2⟩
  exact ⟨z, hz, fun p hp => by cases hp⟩
theorem LS_law (hE : FokL E.fn) {n j k a b : Nat} (hn : n ≤ 6) (hj : j < 6) (hk : k < 6) (hc : (LS n j k 0 0).closed (9 + 34 * n) = true) : LoopLaw (LS n j k a b) E := by
  have ht : 36 * n + 6 * j + k < 252 := by omega
  have e1 : (36 * n + 6 * j + k) / 36 = n := by omega
  have e2 : (36 * n + 6 * j + k) % 36 / 6 = j := by omega
  have e3 : (36 * n + 6 * j + k) % 6 = k := by omega
  have hl := hE.lp _ ht
  rw [e1, e2, e3] at hl
  have h0 := LS_law0 (F := buildF (baseQ (36 * n + 6 * j + k)) Ds4) hn hc hl (hE.lo _ ht)
  exact fun v hv hp => ⟨LS_rounds (h0 v hv hp).1, (h0 v hv hp).2⟩
/-! The contexts -/
def cxLS (n j k : Nat) : Ctx := withLoops (withAp cxC) Try.prog 1000 [(8, LS n j k 12 11)]
def cxLI (n j k : Nat) : Ctx := withLoops (withAp cxC) Try.prog 1000 [(7, LS n j k 43 10)]
theorem kC_sc : MkSc kC f16 := ⟨rfl, fun i => ⟨_, _, rfl, by
  have : i % 16 < 16 := Nat.mod_lt _ (by decide)
  show f16[i % 16]? = some (.float .f32)
  match i % 16, this with
  | 0, _ | 1, _ | 2, _ | 3, _ | 4, _ | 5, _ | 6, _ | 7, _ | 8, _ | 9, _ | 10, _ | 11, _ | 12, _ | 13, _ | 14, _ | 15, _ => rfl
  | q + 16, h => exact absurd h (by omega), fun E => rfl⟩⟩
theorem eqCv : isTrueO (rE 95 f16) = true := by kernel_rfl
def elL (f : Nat) : Sum := call cxC Try.prog 1000 f
def cxLg (n j k : Nat) : Ctx := ctxL ((107, call (cxLS n j k) Try.prog 1000 107) :: (108, call (cxLI n j k) Try.prog 1000 108) :: (95, orS (eqOk f16) (elL 95)) :: (164, orS (heldX kP) (elL 164)) :: (109, orS (heldO kC 911) (elL 109)) :: (69, disp shArg2 mxI (call cxB Try.prog 1000 69)) :: (157, disp shPtr2 mxS (call cxB Try.prog 1000 157)) :: (172, thick 172) :: (174, thick 174) :: (173, offS 173) :: (175, offS 175) :: orL (ctxL l3) Try.prog 1000 l5)
def cxLa (n j k : Nat) : Ctx := withFxs (withFxs (withFx (cxLg n j k) (fun g => Nat.beq g 73 || Nat.beq g 163 || Nat.beq g 99)) 163 (markX kP pgs)) 99 (markO kC f16 911)
theorem cxLa_ok (hE : FokL E.fn) {n j k : Nat} (hn : n ≤ 6) (hj : j < 6) (hk : k < 6) (hc : (LS n j k 0 0).closed (9 + 34 * n) = true) : CtxOk Try.prog E (cxLa n j k) ∧ CtxPc E (cxLa n j k) := by
  have hT := cxC_okF hE.toFok4
  have hS : CtxOk Try.prog E (cxLS n j k) ∧ CtxPc E (cxLS n j k) := withLoops_ok (fun E' h => withAp_ok (cxC_okF (by rw [h]; exact hE.toFok4))) nm mixed fun k' S hS => by
    simp only [List.mem_cons, Prod.mk.injEq, List.not_mem_nil, or_false] at hS
    obtain ⟨_, rfl⟩ := hS
    exact LS_law hE hn hj hk hc
  have hI : CtxOk Try.prog E (cxLI n j k) ∧ CtxPc E (cxLI n j k) := withLoops_ok (fun E' h => withAp_ok (cxC_okF (by rw [h]; exact hE.toFok4))) nm mixed fun k' S hS => by
    simp only [List.mem_cons, Prod.mk.injEq, List.not_mem_nil, or_false] at hS
    obtain ⟨_, rfl⟩ := hS
    exact LS_law hE hn hj hk hc
  have ca : ∀ f, SumOk Try.prog E f (elL f) := fun f => call_ok hT.1 hT.2 nm mixed 1000 f
  have cp : ∀ f args m pc, PcOk E pc → Pcs E Res.pc (elL f args m pc) := fun f => call_pc hT.2 1000 f
  have hg : CtxOk Try.prog E (cxLg n j k) ∧ CtxPc E (cxLg n j k) := ctxL_cons (ctxL_cons (ctxL_cons (ctxL_cons (ctxL_cons hT
    (orS_ok (heldO_ok kC_ok kC_sc hE.mkC ⟨_, Try.func109, by kernel_rfl⟩ heldC_walk) (ca 109)) (orS_pc heldO_pc (cp 109)))
    (orS_ok (heldX_ok kP_ok ⟨_, Try.func164, by kernel_rfl⟩ heldP_walk) (ca 164)) (orS_pc heldX_pc (cp 164)))
    (orS_ok (eqO_ok eqCv ⟨_, Try.func95, by kernel_rfl⟩) (ca 95)) (orS_pc eqOk_pc (cp 95)))
    (call_ok hI.1 hI.2 nm mixed 1000 108) (call_pc hI.2 1000 108))
    (call_ok hS.1 hS.2 nm mixed 1000 107) (call_pc hS.2 1000 107)
  exact withFxs_ok (withFxs_ok (withFx_ok hg _)
    (fun args σ o ho r hr hp => (markX_ok kP_ok rfl hE.rows ⟨_, Try.func163, by kernel_rfl⟩ markP_walk args σ o ho r hr hp).2) (fun args σ o ho hp r hr => (markX_ok kP_ok rfl hE.rows ⟨_, Try.func163, by kernel_rfl⟩ markP_walk args σ o ho r hr hp).1))
    (markO_fx kC_ok kC_sc hE.mkC hE.rows ⟨_, Try.func99, by kernel_rfl⟩ markC_walk) (markO_pc kC_ok kC_sc hE.rows ⟨_, Try.func99, by kernel_rfl⟩ markC_walk)
end
/-! The cases of the law -/
def aL (n : Nat) : Tm := .var (6 + 34 * n)
def bL (n : Nat) : Tm := .var (7 + 34 * n)
def csL (n j k : Nat) : PC := [(.op .eqi (aL n) (.il (.ofNat j)), true), (.op .eqi (bL n) (.il (.ofNat k)), true)]
def endI (n j k : Nat) : Tm := .nth 0 (.app (2000 + (36 * n + 6 * j + k)) (consT (varsL (9 + 34 * n) 0 ++ [.il 0, .il (.ofNat 0), .nil])))
def T1 (n j k : Nat) : Tm := .op .lei (endI n j k) (svL n)
def T2 (n j k : Nat) : Tm := .op .eqi (.nth 33 (mixE n j k (endI n j k))) (.il 0)
def csA (n j k : Nat) : Nat → PC
  | 0 => (T1 n j k, false) :: csL n j k
  | 1 => (T2 n j k, false) :: (T1 n j k, true) :: csL n j k
  | _ => (T2 n j k, true) :: (T1 n j k, true) :: csL n j k
def csO (n : Nat) : Nat → PC
  | 0 => [(.op .lei (.il 0) (aL n), false)]
  | 1 => [(.op .lei (aL n) (.il (.ofNat (n - 1))), false)]
  | 2 => [(.op .lei (.il 0) (bL n), false)]
  | _ => [(.op .lei (bL n) (.il (.ofNat (n - 1))), false)]
def tL (w j k : Nat) (cs : PC) : Bool := treeX Try.prog (cxLa (w - 1) j k) 1000 28 6 [36, 2, 2, 2] [w] 100000 [] cs
theorem cl101 : (LS 1 0 0 0 0).closed (9 + 34 * 1) = true := by kernel_rfl
theorem caseL {E : Env} (hE : FokL E.fn) {n : Nat} (h1 : 1 ≤ n) (hn : n ≤ 6) (hc : ∀ j k, j < n → k < n → (LS n j k 0 0).closed (9 + 34 * n) = true)
    (hO : ∀ q, q < 4 → tL (n + 1) 0 0 (csO n q) = true) (hJ : ∀ j k, j < n → k < n → j = k → tL (n + 1) j k (csL n j k) = true) (hI : ∀ j k q, j < n → k < n → j ≠ k → q < 3 → tL (n + 1) j k (csA n j k q) = true) : CaseOk Try.prog E 1000 28 6 [36, 2, 2, 2] [n + 1] 100000 [] := by
  have out : ∀ q, q < 4 → PcOk E (csO n q) → CaseOk Try.prog E 1000 28 6 [36, 2, 2, 2] [n + 1] 100000 [] := fun q hq hp => ⟨_, _, cxLa_ok hE hn (by decide) (by decide) (hc 0 0 h1 h1), hp, hO q hq⟩
  have one : ∀ t b, (t.den E).toB = b → PcOk E [((t : Tm), b)] := fun t b h => PcOk.cons (fun p hp => by cases hp) h
  by_cases a1 : 0 ≤ (E.v (6 + 34 * n)).toI
  · by_cases a2 : (E.v (6 + 34 * n)).toI ≤ ((n - 1 : Nat) : Int)
    · by_cases b1 : 0 ≤ (E.v (7 + 34 * n)).toI
      · by_cases b2 : (E.v (7 + 34 * n)).toI ≤ ((n - 1 : Nat) : Int)
        · have hj : (E.v (6 + 34 * n)).toI.toNat < n := by omega
          have hk : (E.v (7 + 34 * n)).toI.toNat < n := by omega
          have base : PcOk E (csL n (E.v (6 + 34 * n)).toI.toNat (E.v (7 + 34 * n)).toI.toNat) := by
            refine PcOk.cons (PcOk.cons (fun p hp => by cases hp) ?_) ?_
            · show decide ((E.v (7 + 34 * n)).toI = Int.ofNat _) = true
              exact decide_eq_true (by simp only [Int.ofNat_eq_natCast]; omega)
            · show decide ((E.v (6 + 34 * n)).toI = Int.ofNat _) = true
              exact decide_eq_true (by simp only [Int.ofNat_eq_natCast]; omega)
          revert base
          generalize (E.v (6 + 34 * n)).toI.toNat = j at *
          generalize (E.v (7 + 34 * n)).toI.toNat = k at *
          intro base
          have hctx := cxLa_ok hE (j := j) (k := k) hn (by omega) (by omega) (hc _ _ hj hk)
          by_cases e : j = k
          · exact ⟨_, _, hctx, base, hJ _ _ hj hk e⟩
          · cases h1 : ((T1 n j k).den E).toB with
            | false => exact ⟨_, _, hctx, (base.cons h1 : PcOk E (csA n j k 0)), hI _ _ 0 hj hk e (by decide)⟩
            | true => cases h2 : ((T2 n j k).den E).toB with
              | false => exact ⟨_, _, hctx, ((base.cons h1).cons h2 : PcOk E (csA n j k 1)), hI _ _ 1 hj hk e (by decide)⟩
              | true => exact ⟨_, _, hctx, ((base.cons h1).cons h2 : PcOk E (csA n j k 2)), hI _ _ 2 hj hk e (by decide)⟩
        · exact out 3 (by decide) (one _ _ (decide_eq_false b2))
      · exact out 2 (by decide) (one _ _ (decide_eq_false b1))
    · exact out 1 (by decide) (one _ _ (decide_eq_false a2))
  · exact out 0 (by decide) (one _ _ (decide_eq_false a1))
theorem caseL0 {E : Env} (hE : FokL E.fn) {w : Nat} (h : treeX Try.prog (cxLa 1 0 0) 1000 28 6 [36, 2, 2, 2] [w] 100000 [] [] = true) : CaseOk Try.prog E 1000 28 6 [36, 2, 2, 2] [w] 100000 [] :=
  ⟨_, _, cxLa_ok hE (by decide) (by decide) (by decide) cl101, fun p hp => (by cases hp), h⟩
end Go.Proofs.Ytamljpeicecbjaa.Leaf
namespace Go.Proofs.Ytamljpeicecbjaa.LeafLa
open Go.Sx
theorem F2_900 : ∀ c, Leaf.FL 900 c = F900 c := Leaf.FokL_FL.rows
end Go.Proofs.Ytamljpeicecbjaa.LeafLa
