/- All drops: the program's function, its list being the model's; the contexts of the law's cases. No condition. -/
import Derived.Test.YtfaamogbkekjcaaEa
set_option linter.unusedVariables false
set_option linter.unusedSimpArgs false
set_option maxRecDepth 100000
noncomputable section
namespace Go.Proofs.Ytfaamogbkekjcaa.Leaf
open Go.Sx
open Go.Sx.All (SI SS NI NS v0T chT TotOk Agree)
section
variable {E : Env}
def fixR (c : Nat) (r : Res) : Res := match r.v with
  | .tup [.og j ks n t, s] => match n.beq (lenI c), t.beq (rowI c) with
    | true, true => ⟨.tup [.og j ks (lenS c) (rowS c), s], r.nb, r.nxt, r.pc⟩
    | _, _ => r
  | _ => r
def lo1 : Tm := .op .lei (.il 0) (.var 1)
def hi1 : Tm := .op .lei (.var 1) (.il 1000)
def moreI (c : Nat) : Tm := .op .lti (.il 500) (lenI c)
def Sum5 (c : Nat) : Sum := fun args m pc => match decB pc lo1, decB pc hi1, Go.Sx.look pc (qS c) with
  | some true, some true, some false => (call (cxI c (c - 1)) Try.prog 1000 5 args m ((moreI c, false) :: pc)).bind fun r => .ret (fixR c r)
  | some true, some true, some true => call (cxI c (c - 1)) Try.prog 1000 5 args m ((moreI c, true) :: pc)
  | _, _, _ => call (cxI c (c - 1)) Try.prog 1000 5 args m pc
theorem tot_of {pc : PC} (hp : PcOk E pc) (h1 : decB pc lo1 = some true) (h2 : decB pc hi1 = some true) : TotOk E :=
  ⟨of_decide_eq_true (decB_ok hp _ h1), of_decide_eq_true (decB_ok hp _ h2)⟩
theorem pc_false (hE : FokE E.fn) {c : Nat} (h2 : 2 ≤ c) (hc : c ≤ 6) {pc : PC} (hp : PcOk E pc) (h1 : decB pc lo1 = some true) (h3 : decB pc hi1 = some true) (hq : Go.Sx.look pc (qS c) = some false) :
    PcOk E ((moreI c, false) :: pc) ∧ (lenI c).den E = (lenS c).den E ∧ (rowI c).den E = (rowS c).den E := by
  obtain ⟨a, b, d⟩ := (one_list hE h2 hc (tot_of hp h1 h3)).1 (look_ok hp hq)
  exact ⟨hp.cons (decide_eq_false (show ¬ (500 : Int) < ((lenI c).den E).toI by omega)), a, b⟩
theorem pc_true (hE : FokE E.fn) {c : Nat} (h2 : 2 ≤ c) (hc : c ≤ 6) {pc : PC} (hp : PcOk E pc) (h1 : decB pc lo1 = some true) (h3 : decB pc hi1 = some true) (hq : Go.Sx.look pc (qS c) = some true) :
    PcOk E ((moreI c, true) :: pc) := by
  have := (one_list hE h2 hc (tot_of hp h1 h3)).2 (look_ok hp hq)
  exact hp.cons (decide_eq_true (show (500 : Int) < ((lenI c).den E).toI from this))
theorem fixR_rep {c : Nat} {r : Res} {β : Pl} {v : Value} (h1 : (lenI c).den E = (lenS c).den E) (h2 : (rowI c).den E = (rowS c).den E) (h : SV.rep E β r.v v) : SV.rep E β (fixR c r).v v := by
  unfold fixR
  split
  · rename_i j ks n t s hv
    split
    · rename_i e1 e2
      have e1 := Tm.beq_eq e1
      have e2 := Tm.beq_eq e2
      subst e1 e2
      rw [hv] at h
      simp only [SV.rep, SV.reps, h1, h2] at h ⊢
      exact h
    · exact h
  · exact h
theorem fixR_pc {c : Nat} {r : Res} : (fixR c r).pc = r.pc ∧ (fixR c r).nb = r.nb ∧ (fixR c r).nxt = r.nxt := by
  unfold fixR
  split
  · split <;> exact ⟨rfl, rfl, rfl⟩
  · exact ⟨rfl, rfl, rfl⟩
theorem Sum5_ok (hE : FokE E.fn) {c : Nat} (h2 : 2 ≤ c) (hc : c ≤ 6) : SumOk Try.prog E 5 (Sum5 c) := by
  have hC := cxI_ok hc (c - 1) (by omega) E hE
  intro args m pc r hr β w vals g1 g2 g3 g4 hp
  unfold Sum5 at hr
  split at hr
  · rename_i k1 k2 k3
    obtain ⟨hp', e1, e2⟩ := pc_false hE h2 hc hp k1 k2 k3
    obtain ⟨r0, h0, h1⟩ := Out.sel_bind_some hr
    simp only [Out.sel, Option.some.injEq] at h1
    subst h1
    obtain ⟨q1, q2, q3, q4⟩ := call_ok hC.1 hC.2 nm mixed 1000 5 _ _ _ _ h0 β w vals g1 g2 g3 g4 hp'
    obtain ⟨f1, f2, f3⟩ := fixR_pc (c := c) (r := r0)
    refine ⟨by rw [f1]; exact q1, by rw [f3]; exact q2, q3, q4.mono fun e w' ⟨v, β', he, hv, hst⟩ => ⟨v, β', he, fixR_rep e1 e2 hv, ?_⟩⟩
    rw [f2, f3]
    exact hst
  · rename_i k1 k2 k3
    exact call_ok hC.1 hC.2 nm mixed 1000 5 _ _ _ _ hr β w vals g1 g2 g3 g4 (pc_true hE h2 hc hp k1 k2 k3)
  · exact call_ok hC.1 hC.2 nm mixed 1000 5 _ _ _ _ hr β w vals g1 g2 g3 g4 hp
theorem Sum5_pc (hE : FokE E.fn) {c : Nat} (h2 : 2 ≤ c) (hc : c ≤ 6) (args : List SV) (m : Mm) (pc : PC) (hp : PcOk E pc) : Pcs E Res.pc (Sum5 c args m pc) := by
  have hC := cxI_ok hc (c - 1) (by omega) E hE
  unfold Sum5
  split
  · rename_i k1 k2 k3
    obtain ⟨hp', e1, e2⟩ := pc_false hE h2 hc hp k1 k2 k3
    exact Pcs.bind (call_pc hC.2 1000 5 _ _ _ hp') fun r hr => .ret (by rw [fixR_pc.1]; exact hr)
  · rename_i k1 k2 k3
    exact call_pc hC.2 1000 5 _ _ _ (pc_true hE h2 hc hp k1 k2 k3)
  · exact call_pc hC.2 1000 5 _ _ _ hp
def S5 : Nat → Sum
  | 0 => call base Try.prog 1000 5
  | 1 => call base Try.prog 1000 5
  | c + 2 => Sum5 (c + 2)
theorem base_ok : CtxOk Try.prog E base ∧ CtxPc E base := withFx_ok ctxL_nil _
theorem S5_ok (hE : FokE E.fn) {c : Nat} (hc : c ≤ 6) : SumOk Try.prog E 5 (S5 c) := by
  match c, hc with
  | 0, _ | 1, _ => exact call_ok base_ok.1 base_ok.2 nm mixed 1000 5
  | c + 2, hc => exact Sum5_ok hE (by omega) hc
theorem S5_pc (hE : FokE E.fn) {c : Nat} (hc : c ≤ 6) : ∀ args m pc, PcOk E pc → Pcs E Res.pc (S5 c args m pc) := by
  match c, hc with
  | 0, _ | 1, _ => exact call_pc base_ok.2 1000 5
  | c + 2, hc => exact Sum5_pc hE (by omega) hc
theorem kD_sc : MkSc kD d6 := ⟨rfl, fun i => ⟨_, _, rfl, by
  have : i % 6 < 6 := Nat.mod_lt _ (by decide)
  show d6[i % 6]? = some (.int .i16)
  match i % 6, this with
  | 0, _ | 1, _ | 2, _ | 3, _ | 4, _ | 5, _ => rfl, fun E => rfl⟩⟩
theorem eqD : isTrueO (rE 6 d6) = true := by kernel_rfl
def plE (f : Nat) : Sum := call (ctxL []) Try.prog 1000 f
def cxEg (c : Nat) : Ctx := ctxL ((4, call (cxS c (c - 1)) Try.prog 1000 4) :: (5, S5 c) :: (6, orS (eqOk d6) (plE 6)) :: (8, orS (heldO kD 910) (plE 8)) :: [])
def cxE (c : Nat) : Ctx := withFxs (withFx (cxEg c) (fun g => Nat.beq g 7)) 7 (markO kD d6 910)
theorem cxE_ok (hE : FokE E.fn) {c : Nat} (h1 : 1 ≤ c) (hc : c ≤ 6) : CtxOk Try.prog E (cxE c) ∧ CtxPc E (cxE c) := by
  have hS := cxS_ok hc (c - 1) (by omega) E hE
  have hN : CtxOk Try.prog E (ctxL []) ∧ CtxPc E (ctxL []) := ctxL_nil
  have ca : ∀ f, SumOk Try.prog E f (plE f) := fun f => call_ok hN.1 hN.2 nm mixed 1000 f
  have cp : ∀ f args m pc, PcOk E pc → Pcs E Res.pc (plE f args m pc) := fun f => call_pc hN.2 1000 f
  have hg : CtxOk Try.prog E (cxEg c) ∧ CtxPc E (cxEg c) := ctxL_cons (ctxL_cons (ctxL_cons (ctxL_cons hN
    (orS_ok (heldO_ok kD_ok kD_sc hE.mkD ⟨_, Try.func8, by kernel_rfl⟩ heldD_walk) (ca 8)) (orS_pc heldO_pc (cp 8)))
    (orS_ok (eqO_ok eqD ⟨_, Try.func6, by kernel_rfl⟩) (ca 6)) (orS_pc eqOk_pc (cp 6)))
    (S5_ok hE hc) (S5_pc hE hc))
    (call_ok hS.1 hS.2 nm mixed 1000 4) (call_pc hS.2 1000 4)
  exact withFxs_ok (withFx_ok hg _)
    (markO_fx kD_ok kD_sc hE.mkD hE.rows ⟨_, Try.func7, by kernel_rfl⟩ markD_walk) (markO_pc kD_ok kD_sc hE.rows ⟨_, Try.func7, by kernel_rfl⟩ markD_walk)
end
/-! The cases -/
def csE (c : Nat) : PC := [(.op .eqi (.var 0) (.il (.ofNat c)), true)]
def csQ (c : Nat) (b : Bool) : PC := (qS c, b) :: csE c
def csL0 : PC := [(.op .lei (.il 1) (.var 0), false)]
def csL7 : PC := [(.op .lei (.var 0) (.il 6), false)]
def tE (c : Nat) (cs : PC) : Bool := treeX Try.prog (cxE c) 1000 3 6 [2, 2] [] 100000 [] cs
theorem caseE {E : Env} (hE : FokE E.fn) (hI1 : tE 1 (csE 1) = true) (hI : ∀ c b, 2 ≤ c → c ≤ 6 → tE c (csQ c b) = true) (h0 : tE 1 csL0 = true) (h7 : tE 1 csL7 = true) : CaseOk Try.prog E 1000 3 6 [2, 2] [] 100000 [] := by
  have one : ∀ t b, (t.den E).toB = b → PcOk E [((t : Tm), b)] := fun t b h => PcOk.cons (fun p hp => by cases hp) h
  by_cases a1 : 1 ≤ (E.v 0).toI
  · by_cases a2 : (E.v 0).toI ≤ 6
    · have h1 : 1 ≤ (E.v 0).toI.toNat := by omega
      have h2 : (E.v 0).toI.toNat ≤ 6 := by omega
      have hb : PcOk E (csE (E.v 0).toI.toNat) := one _ _ (show decide ((E.v 0).toI = Int.ofNat _) = true from decide_eq_true (by simp only [Int.ofNat_eq_natCast]; omega))
      revert hb
      generalize (E.v 0).toI.toNat = c at *
      intro hb
      by_cases e : c = 1
      · subst e
        exact ⟨_, _, cxE_ok hE h1 h2, hb, hI1⟩
      · cases hq : ((qS c).den E).toB with
        | true => exact ⟨_, _, cxE_ok hE h1 h2, (hb.cons hq : PcOk E (csQ c true)), hI c true (by omega) h2⟩
        | false => exact ⟨_, _, cxE_ok hE h1 h2, (hb.cons hq : PcOk E (csQ c false)), hI c false (by omega) h2⟩
    · exact ⟨_, _, cxE_ok hE (by decide) (by decide), (one (.op .lei (.var 0) (.il 6)) false (decide_eq_false a2) : PcOk E csL7), h7⟩
  · exact ⟨_, _, cxE_ok hE (by decide) (by decide), (one (.op .lei (.il 1) (.var 0)) false (decide_eq_false a1) : PcOk E csL0), h0⟩
end Go.Proofs.Ytfaamogbkekjcaa.Leaf
namespace Go.Proofs.Ytfaamogbkekjcaa.LeafE
open Go.Sx
theorem F2_900 : ∀ c, Leaf.FE 900 c = F900 c := Leaf.FokE_FE.rows
end Go.Proofs.Ytfaamogbkekjcaa.LeafE
