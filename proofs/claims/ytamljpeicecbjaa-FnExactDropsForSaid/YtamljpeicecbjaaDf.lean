/- The drops for parts: floors of parts of a sum. No condition. -/
import Derived.Test.YtamljpeicecbjaaCs
import Derived.Test.YtamljpeicecbjaaMin
import Derived.Test.YtamljpeicecbjaaSxTrim
import Derived.Test.YtamljpeicecbjaaSxDrop
import Derived.Test.YtamljpeicecbjaaSxIter
noncomputable section
namespace Go.Proofs.Ytamljpeicecbjaa.Leaf
open Go.RowKit Go.Sx
set_option linter.unusedVariables false
set_option linter.unusedSimpArgs false
set_option maxRecDepth 100000
section
variable {E : Env}
/-- math.Floor, where its argument is a part of a sum. -/
def floorX : Sum := fun args m pc => match args with
  | [.sc k q] => match partT pc q with
    | true => call cxB Try.prog 1000 169 [.sc k q] m (partF q ++ pc)
    | false => call cxB Try.prog 1000 169 [.sc k q] m pc
  | _ => .bad 380
theorem floorX_ok (hE : Fok E.fn) : SumOk Try.prog E 169 floorX := by
  intro args m pc r hr β w vals hreps hm hfr hl hp
  unfold floorX at hr
  split at hr
  · split at hr
    · rename_i h
      exact call_ok (cxB_okF hE).1 (cxB_okF hE).2 nm mixed 1000 169 _ _ _ _ hr β w vals hreps hm hfr hl (partF_ok hp h)
    · exact call_ok (cxB_okF hE).1 (cxB_okF hE).2 nm mixed 1000 169 _ _ _ _ hr β w vals hreps hm hfr hl hp
  · cases hr
theorem floorX_pc (hE : Fok E.fn) (args : List SV) (m : Mm) (pc : PC) (hp : PcOk E pc) : Pcs E Res.pc (floorX args m pc) := by
  unfold floorX
  split
  · split
    · rename_i h
      exact call_pc (cxB_okF hE).2 1000 169 _ _ _ (partF_ok hp h)
    · exact call_pc (cxB_okF hE).2 1000 169 _ _ _ hp
  · exact .bad
/-- What a sum of parts answers, without the noughts behind. -/
def trimR (r : Res) : Res := match r.v with
  | .sc k t => ⟨.sc k (trim r.pc t), r.nb, r.nxt, oneFin r.pc (trim r.pc t)⟩
  | _ => r
def sumX : Sum := fun args m pc => (call cxB Try.prog 1000 170 args m pc).bind fun r => .ret (trimR r)
theorem sumX_ok (hE : Fok E.fn) : SumOk Try.prog E 170 sumX := by
  intro args m pc r hr β w vals hreps hm hfr hl hp
  obtain ⟨r0, h0, h1⟩ := Out.sel_bind_some hr
  simp only [Out.sel, Option.some.injEq] at h1
  subst h1
  obtain ⟨g1, g2, g3, g4⟩ := call_ok (cxB_okF hE).1 (cxB_okF hE).2 nm mixed 1000 170 _ _ _ _ h0 β w vals hreps hm hfr hl hp
  unfold trimR
  split
  · rename_i k t hv
    refine ⟨oneFin_ok g1, g2, g3, g4.mono fun e w' ⟨v, β', he, hr, hs⟩ => ⟨v, β', he, ?_, hs⟩⟩
    rw [hv] at hr
    simp only [SV.rep, trim_ok g1] at hr ⊢
    exact hr
  · exact ⟨g1, g2, g3, g4⟩
theorem sumX_pc (hE : Fok E.fn) (args : List SV) (m : Mm) (pc : PC) (hp : PcOk E pc) : Pcs E Res.pc (sumX args m pc) := by
  refine Pcs.bind (call_pc (cxB_okF hE).2 1000 170 _ _ _ hp) fun r hr => .ret ?_
  unfold trimR
  split
  · exact oneFin_ok hr
  · exact hr
/-- A product of two numbers, of which one may be a quotient by such a sum. -/
def mulX : Sum := fun args m pc => match args with
  | [.sc k t, u] => call cxB Try.prog 1000 171 [.sc k (divOne pc t), u] m pc
  | _ => .bad 381
theorem mulX_ok (hE : Fok E.fn) : SumOk Try.prog E 171 mulX := by
  intro args m pc r hr β w vals hreps hm hfr hl hp
  unfold mulX at hr
  split at hr
  · refine call_ok (cxB_okF hE).1 (cxB_okF hE).2 nm mixed 1000 171 _ _ _ _ hr β w vals ?_ hm hfr hl hp
    simp only [SV.reps, SV.rep, divOne_ok hp] at hreps ⊢
    exact hreps
  · cases hr
theorem mulX_pc (hE : Fok E.fn) (args : List SV) (m : Mm) (pc : PC) (hp : PcOk E pc) : Pcs E Res.pc (mulX args m pc) := by
  unfold mulX
  split
  · exact call_pc (cxB_okF hE).2 1000 171 _ _ _ hp
  · exact .bad
def cxP : Ctx := ctxL ((171, mulX) :: (170, sumX) :: (169, floorX) :: (139, sumD [.sc i64, .sc i64] i64 Dmin) :: orL (ctxL l3) Try.prog 1000 l5)
theorem cxP_okF (hE : Fok E.fn) : CtxOk Try.prog E cxP ∧ CtxPc E cxP := ctxL_cons (ctxL_cons (ctxL_cons (ctxL_cons (cxB_okF hE) (min_ok hE) sumP_pc) (floorX_ok hE) (floorX_pc hE)) (sumX_ok hE) (sumX_pc hE)) (mulX_ok hE) (mulX_pc hE)
/-! The loop that hands out what is left -/
def sumD (n : Nat) : Nat → Tm
  | 0 => .var (6 + 34 * n)
  | k + 1 => .op (.fadd .f32) (sumD n k) (.var (6 + 34 * n + k + 1))
def qD (n i : Nat) : Tm := .op (.fmul .f32) (.op (.fdiv .f32) (.var (6 + 34 * n + i)) (sumD n (n - 1))) (.op (.i2f .f32) (.var (12 + 34 * n)) .nil)
def wD (n i : Nat) : Tm := .op (.fsub .f32) (qD n i) (.op (.i2f .f32) (.var (100001 + i)) .nil)
/-- What a round makes of the j-th drops. -/
def tD (n j : Nat) : Nat → Nat → Nat → Tm
  | 0, b, _ => match Nat.beq b j with | true => .op (.addi .i16) (.var (100001 + j)) (.il 1) | false => .var (100001 + j)
  | f + 1, b, i => match Nat.beq b j, Nat.blt j i with
    | false, true => .var (100001 + j)
    | _, _ => .ite (.op (.flt .f32) (wD n b) (wD n i)) (tD n j f i (i + 1)) (tD n j f b (i + 1))
def oneD (n j : Nat) : Tm := match Nat.blt j n with | true => tD n j (n - 1) 0 1 | false => .var (100001 + j)
def nextD (n : Nat) : List Tm := [.op (.subi .i64) (.var 100000) (.il 1), oneD n 0, oneD n 1, oneD n 2, oneD n 3, oneD n 4, oneD n 5]
def invD : PC := [(.op .lei (.il (-64000)) (.var 100000), true), (.op .lei (.var 100000) (.il 64000), true)]
def DL (n : Nat) (pls : List Sx.Place) : LoopSpec := { b := 100000, places := pls, args := varsL (13 + 34 * n) 0, N := 930 + n, pre := invD, inv := invD, cond := .op .lti (.il 0) (.var 100000), pol := false, next := nextD n }
def plI : List Sx.Place := [.slot 11, .cell 10 0, .cell 10 1, .cell 10 2, .cell 10 3, .cell 10 4, .cell 10 5]
def plS : List Sx.Place := [.slot 14, .cell 13 0, .cell 13 1, .cell 13 2, .cell 13 3, .cell 13 4, .cell 13 5]
theorem DL_law {F : Nat → Sc → Sc} {n : Nat} {pls : List Sx.Place} (hl : pls.length = 7) (hc : (DL n pls).closed (13 + 34 * n) = true) (hF : ∀ c, E.fn (930 + n) c = loopN (DL n pls) (13 + 34 * n) F c) (hE : ∀ k, k < 930 + n → E.fn k = F k) : LoopLaw (DL n pls) E := by
  have val : ∀ v : List Sc, (envV 100000 E v).v 100000 = v.getD 0 .nil := fun v => by simp [envV, List.getD]
  have dec : ∀ v : List Sc, -64000 ≤ (v.getD 0 .nil).toI → ((Tm.op (.subi .i64) (.var 100000) (.il 1)).den (envV 100000 E v)).toI = (v.getD 0 .nil).toI - 1 ∨ 64000 < (v.getD 0 .nil).toI := fun v h1 => by
    by_cases h2 : 64000 < (v.getD 0 .nil).toI
    · exact .inr h2
    · left
      show IntKind.i64.wrap (((envV 100000 E v).v 100000).toI - 1) = _
      rw [val v]
      exact wrap_in .i64 (by rw [← kmin_eq]; show (-9223372036854775808 : Int) ≤ _; omega) (by rw [← kmax_eq]; show _ ≤ (9223372036854775807 : Int); omega)
  refine loopN_law (m := 13 + 34 * n) (F := F) hc rfl rfl (by simp [DL, LoopSpec.width, hl, nextD]) hF hE fun v hv hp => ?_
  have p1 := hp (.op .lei (.il (-64000)) (.var 100000), true) (List.mem_cons_self ..)
  have p2 := hp (.op .lei (.var 100000) (.il 64000), true) (List.mem_cons_of_mem _ (List.mem_cons_self ..))
  have i1 : -64000 ≤ (v.getD 0 .nil).toI := by rw [← val v]; exact of_decide_eq_true p1
  have i2 : (v.getD 0 .nil).toI ≤ 64000 := by rw [← val v]; exact of_decide_eq_true p2
  obtain ⟨z, hz, _⟩ := rounds_fall (S := DL n pls) (E := E) (fun v => -64000 ≤ (v.getD 0 .nil).toI ∧ (v.getD 0 .nil).toI ≤ 64000) (fun v => (v.getD 0 .nil).toI.toNat)
    (fun v hI p hp => by
      simp only [DL, invD, List.mem_cons, List.not_mem_nil, or_false] at hp
      rcases hp with rfl | rfl
      · show decide ((-64000 : Int) ≤ ((envV 100000 E v).v 100000).toI) = true
        rw [val v]; exact decide_eq_true hI.1
      · show decide (((envV 100000 E v).v 100000).toI ≤ 64000) = true
        rw [val v]; exact decide_eq_true hI.2)
    (fun v hI hcd => by
      have l1 : 0 < (v.getD 0 .nil).toI := by
        have : (0 : Int) < ((envV 100000 E v).v 100000).toI := of_decide_eq_true hcd
        rw [val v] at this
        exact this
      have e : ((((DL n pls).next.map (Tm.den (envV 100000 E v))).getD 0 .nil)).toI = (v.getD 0 .nil).toI - 1 := by
        rcases dec v hI.1 with h | h
        · exact h
        · omega
      have hI2 := hI.2
      refine ⟨⟨?_, ?_⟩, ?_⟩
      · show -64000 ≤ _; rw [show (DL n pls).b = 100000 from rfl, e]; omega
      · rw [show (DL n pls).b = 100000 from rfl, e]; omega
      · rw [show (DL n pls).b = 100000 from rfl, e]; omega) _ v (Nat.le_refl _) ⟨i1, i2⟩
  exact ⟨z, hz, fun p hp => by cases hp⟩
end
end Go.Proofs.Ytamljpeicecbjaa.Leaf
