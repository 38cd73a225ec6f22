/- Parts of which an amount has been shifted: not all of them are nought. No condition. -/
import Derived.Test.YtamljpeicecbjaaSxTrim
import Derived.Test.YtamljpeicecbjaaSxSound
import Derived.Test.YtamljpeicecbjaaSxPat
set_option linter.unusedVariables false
set_option linter.unusedSimpArgs false
noncomputable section
namespace Go.Sx
open Go Ieee
theorem nz_eq {k : FloatKind} {x : Nat} (h : x % k.format.signWeight ≠ 0) : F.eq k x 0 = false := by
  cases hc : F.eq k x 0 with
  | false => rfl
  | true =>
    exfalso
    obtain ⟨t, hr⟩ := read_eq0 hc
    have hb := binade_pos k.format
    unfold Format.read at hr
    simp only at hr
    split at hr
    · simp only [Datum.number.injEq] at hr; omega
    · split at hr
      · simp only [Datum.number.injEq] at hr; omega
      · split at hr <;> cases hr
theorem nz_lt {k : FloatKind} {x : Nat} (h0 : F.le k 0 x = true) (h : x % k.format.signWeight ≠ 0) : F.lt k 0 x = true := by
  rw [(lt0_eq0 k x).1 h0, nz_eq h]; rfl
/-- What is taken away, and leaves nought of a number above nought, is above nought. -/
theorem sub_nz {k : FloatKind} {z m : Nat} (hz : F.le k 0 z = true) (z0 : z % k.format.signWeight ≠ 0) (hm : F.le k 0 m = true) (h : F.eq k (F.sub k z m) 0 = true) : m % k.format.signWeight ≠ 0 := by
  intro h0
  have hb := binade_pos k.format
  have hr : ∃ t, k.format.read m = .number t 0 k.format.leastPlace := by
    refine ⟨m / k.format.signWeight % 2 == 1, ?_⟩
    unfold Format.read
    simp only [h0]
    rw [if_pos hb]
  obtain ⟨t, hr⟩ := hr
  have hy : ∃ y, k.format.read y = .number (!t) 0 k.format.leastPlace ∧ F.eq k y 0 = true := by
    have e : ∀ y b, k.format.read y = .number b 0 k.format.leastPlace → F.eq k y 0 = true := fun y b hr => by
      unfold F.eq Format.order
      rw [hr, read_zero]
      simp [Datum.order, sg0]
    cases t with
    | true => exact ⟨0, read_zero k, e _ _ (read_zero k)⟩
    | false =>
      have h1 : k.format.read k.format.signWeight = .number true 0 k.format.leastPlace := by cases k <;> rfl
      exact ⟨k.format.signWeight, h1, e _ _ h1⟩
  obtain ⟨y, y1, y2⟩ := hy
  have es : F.sub k z m = F.add k z y := by
    unfold F.sub F.add Format.sub Format.add
    rw [hr, y1]
    rfl
  rw [es, add_nought hz z0 y2] at h
  have : F.eq k (z % k.format.signWeight) 0 = false := nz_eq (by rw [Nat.mod_mod]; exact z0)
  rw [this] at h
  cases h
section
variable {P : Program} {E : Env}
def nzFacts (pc : PC) : List Tm → PC
  | [] => []
  | u :: r => match posS pc u with
    | true => (.op (.feq .f32) u (.fl 0), false) :: nzFacts pc r
    | false => nzFacts pc r
theorem nzFacts_ok {pc : PC} (hp : PcOk E pc) : ∀ {l : List Tm}, PcOk E (nzFacts pc l)
  | [] => fun p hp => by cases hp
  | u :: r => by
    simp only [nzFacts]
    split
    · rename_i h
      exact (nzFacts_ok hp).cons (nz_eq (posS_ok hp h))
    · exact nzFacts_ok hp
/-- A difference of a number above nought and another one that is not below. -/
def subOf (pc : PC) : List Tm → Option (Tm × Tm)
  | [] => none
  | u :: r => match u with
    | .op o z m => match Nat.beq o.n (Opc.fsub .f32).n, nnT pc .f32 z, posS pc z, nnT pc .f32 m with
      | true, true, true, true => some (.op o z m, m)
      | _, _, _, _ => subOf pc r
    | _ => subOf pc r
theorem subOf_ok {pc : PC} (hp : PcOk E pc) {u m : Tm} : ∀ {l : List Tm}, subOf pc l = some (u, m) → ((Tm.op (.feq .f32) u (.fl 0)).den E).toB = true → ((Tm.op (.flt .f32) (.fl 0) m).den E).toB = true
  | [], h, _ => by cases h
  | u' :: r, h, he => by
    unfold subOf at h
    split at h
    · rename_i o z m'
      split at h
      · rename_i q1 q2 q3 q4
        cases h
        have ho : o = .fsub .f32 := Opc.n_inj (Nat.eq_of_beq_eq_true q1)
        subst ho
        exact nz_lt (nnT_ok hp q4) (sub_nz (nnT_ok hp q2) (posS_ok hp q3) (nnT_ok hp q4) he)
      · exact subOf_ok hp h he
    · exact subOf_ok hp h he
def f32s : List SV → Option (List Tm)
  | [] => some []
  | s :: r => match s with
    | .sc (.float .f32) t => match f32s r with
      | some l => some (t :: l)
      | none => none
    | _ => none
def partsArg : List SV → List Tm
  | [_, .agg cs] => match f32s cs with
    | some l => l
    | none => []
  | _ => []
def isNil64 (o : Out Res) : Bool := match o with
  | .ret r => match r.v with
    | .sc (.int .i64) (.il 0) => true
    | _ => false
  | _ => false
theorem isNil64_ok {o : Out Res} (h : isNil64 o = true) : ∃ r, o = .ret r ∧ r.v = .sc (.int .i64) (.il 0) := by
  unfold isNil64 at h
  split at h
  · rename_i r
    split at h
    · rename_i hv; exact ⟨r, rfl, hv⟩
    · cases h
  · cases h
/-- A test of parts: it is known that they are not all nought. -/
def shiftX (S : Sum) : Sum := fun args m pc =>
  match subOf pc (partsArg args) with
  | some (u, a) => match isNil64 (S args m (nzFacts ((.op (.feq .f32) u (.fl 0), true) :: (.op (.flt .f32) (.fl 0) a, true) :: pc) (partsArg args) ++ ((.op (.feq .f32) u (.fl 0), true) :: (.op (.flt .f32) (.fl 0) a, true) :: pc))), isNil64 (S args m ((.op (.feq .f32) u (.fl 0), false) :: (nzFacts pc (partsArg args) ++ pc))) with
    | true, true => val m pc (.sc (.int .i64) (.il 0))
    | _, _ => S args m (nzFacts pc (partsArg args) ++ pc)
  | none => S args m (nzFacts pc (partsArg args) ++ pc)
theorem pcApp {a b : PC} (ha : PcOk E a) (hb : PcOk E b) : PcOk E (a ++ b) := fun p hp => by
  rcases List.mem_append.1 hp with hp | hp
  · exact ha p hp
  · exact hb p hp
theorem shiftX_ok {f : Nat} {S : Sum} (hS : SumOk P E f S) : SumOk P E f (shiftX S) := by
  intro args m pc r hr
  have more : ∀ {pc' : PC} {r' : Res}, (PcOk E pc → PcOk E pc') → (S args m pc').sel E = some r' → CallOk P E f args m pc r' := fun h hr β w vals h1 h2 h3 h4 hp => hS args m _ _ hr β w vals h1 h2 h3 h4 (h hp)
  unfold shiftX at hr
  split at hr
  · rename_i u a hs
    split at hr
    · rename_i k1 k2
      obtain ⟨r1, e1, v1⟩ := isNil64_ok k1
      obtain ⟨r2, e2, v2⟩ := isNil64_ok k2
      simp only [val, Out.sel, Option.some.injEq] at hr
      subst hr
      intro β w vals h1 h2 h3 h4 hp
      have fin : ∀ {pc' : PC} {r' : Res}, PcOk E pc' → S args m pc' = .ret r' → r'.v = .sc (.int .i64) (.il 0) →
          (PcOk E pc ∧ m.nxt ≤ m.lim ∧ (∃ fn, P.funcs[f]? = some fn ∧ fn.body.isSome = true) ∧ Calls P f vals.toArray w fun e w' => ∃ v β', e = .returned v ∧ SV.rep E β' (.sc (.int .i64) (.il 0)) v ∧ Step E β β' w w' m.nxt m.nxt []) := fun hp' e hv => by
        obtain ⟨_, _, g3, g4⟩ := hS args m _ _ (by rw [e]; rfl) β w vals h1 h2 h3 h4 hp'
        refine ⟨hp, h4, g3, g4.mono fun e w' ⟨v, β', he, hr, hst⟩ => ⟨v, β, he, ?_, Step.same _ hst.below⟩⟩
        rw [hv] at hr
        simp only [SV.rep] at hr ⊢
        exact hr
      cases hd : ((Tm.op (.feq .f32) u (.fl 0)).den E).toB with
      | true =>
        have hp1 : PcOk E ((.op (.feq .f32) u (.fl 0), true) :: (.op (.flt .f32) (.fl 0) a, true) :: pc) := (hp.cons (subOf_ok hp hs hd)).cons hd
        exact fin (pcApp (nzFacts_ok hp1) hp1) e1 v1
      | false => exact fin ((pcApp (nzFacts_ok hp) hp).cons hd) e2 v2
    · exact more (fun hp => pcApp (nzFacts_ok hp) hp) hr
  · exact more (fun hp => pcApp (nzFacts_ok hp) hp) hr
theorem shiftX_pc {S : Sum} (hS : ∀ args m pc, PcOk E pc → Pcs E Res.pc (S args m pc)) (args : List SV) (m : Mm) (pc : PC) (hp : PcOk E pc) : Pcs E Res.pc (shiftX S args m pc) := by
  unfold shiftX
  split
  · split
    · exact .ret hp
    · exact hS _ _ _ (pcApp (nzFacts_ok hp) hp)
  · exact hS _ _ _ (pcApp (nzFacts_ok hp) hp)
end
end Go.Sx
