/- The functions without a body for which the model stands in, as operations of the executor. No condition. -/
import Derived.Test.YtfdpcmijifdfeaaGreatSxRun
import Derived.Test.YtfdpcmijifdfeaaGreatSxOpS
import Derived.Laws.Externs
set_option linter.unusedVariables false
set_option linter.unusedSimpArgs false
noncomputable section
namespace Go.Sx
open Go Go.RowKit

/-- No function of the program bears the one name that the machine serves by itself. -/
def Named (P : Program) : Prop := ∀ (f : Nat) (fn : Func), P.funcs[f]? = some fn → (fn.name == "runtime.NumGoroutine") = false

theorem next_none {fn : Func} (ho : fn.origin = "") (h : (Extern.allNextRows.lookup fn.name).isNone = true) : Extern.findNext fn = none := by
  unfold Extern.findNext
  have h1 : Extern.allNextRows.lookup fn.name = none := by simpa using h
  have h2 : Extern.allNextRows.lookup "" = none := by kernel_rfl
  simp [h1, h2, ho]
theorem find_some {fn : Func} {e : Array Value → Sem Value} (h1 : Extern.allGenericRows.lookup fn.name = none) (h2 : Extern.allTypedRows.lookup fn.name = none) (h3 : Extern.allRows.lookup fn.name = some e) : Extern.find fn = some e := by
  unfold Extern.find
  simp [h1, h2, h3]
theorem ext_row : (∀ fn : Func, fn.origin = "" → fn.name = "math.Float64bits" → Extern.findNext fn = none ∧ Extern.find fn = some Extern.MathFloatBits.float64bits) ∧
    (∀ fn : Func, fn.origin = "" → fn.name = "math.Float32bits" → Extern.findNext fn = none ∧ Extern.find fn = some Extern.MathFloatBits.float32bits) ∧
    (∀ fn : Func, fn.origin = "" → fn.name = "math.sqrt" → Extern.findNext fn = none ∧ Extern.find fn = some Extern.MathSqrt.sqrt) ∧
    (∀ fn : Func, fn.origin = "" → fn.name = "math.archFloor" → Extern.findNext fn = none ∧ Extern.find fn = some (Extern.MathFloor.toIntegral "math.archFloor" .down)) := by
  refine ⟨fun fn ho hn => ⟨next_none ho ?_, find_some ?_ ?_ ?_⟩, fun fn ho hn => ⟨next_none ho ?_, find_some ?_ ?_ ?_⟩, fun fn ho hn => ⟨next_none ho ?_, find_some ?_ ?_ ?_⟩, fun fn ho hn => ⟨next_none ho ?_, find_some ?_ ?_ ?_⟩⟩
  all_goals rw [hn]
  all_goals kernel_rfl

theorem extN_name {n : String} : (extN n = 1 → n = "math.Float64bits") ∧ (extN n = 2 → n = "math.Float32bits") ∧ (extN n = 3 → n = "math.sqrt") ∧ (extN n = 4 → n = "math.archFloor") := by
  unfold extN
  refine ⟨fun h => ?_, fun h => ?_, fun h => ?_, fun h => ?_⟩
  all_goals
    split at h
    · rename_i h1; first | exact eq_of_beq h1 | cases h
    · split at h
      · rename_i h1; first | exact eq_of_beq h1 | cases h
      · split at h
        · rename_i h1; first | exact eq_of_beq h1 | cases h
        · split at h
          · rename_i h1; first | exact eq_of_beq h1 | cases h
          · cases h

theorem sqrt_eq (x : Nat) : Extern.MathSqrt.sqrt #[.float .f64 x] = (match FloatKind.f64.format.sqrt x with
    | some r => pure (.float .f64 r)
    | none => do pure (.float .f64 (← choose (.nanBits .f64 x x)))) := rfl
theorem floor_eq (x : Nat) : Extern.MathFloor.toIntegral "math.archFloor" .down #[.float .f64 x] = (match FloatKind.f64.decode x with
    | .nan s t =>
      if FloatKind.f64.format.quiet t = t then pure (.float .f64 x) else do
      let kept ← choose (.extern "math.Floor,Ceil,Trunc,RoundToEven.signallingNaN kept" 2)
      pure (.float .f64 (if kept == 1 then x else FloatKind.f64.encode (.nan s (FloatKind.f64.format.quiet t))))
    | d => pure (.float .f64 (FloatKind.f64.encode (d.integral .down)))) := rfl
theorem sqrt_run {P : Program} (w : World) (x : Nat) : FRun P (Extern.MathSqrt.sqrt #[.float .f64 x]) .f64 (F.sqrt (canon .f64 x)) w := by
  have hs : FloatKind.f64.format.sqrt (canon .f64 x) = FloatKind.f64.format.sqrt x := by
    cases hx : isNan .f64 x with
    | false => rw [canon_not _ _ hx]
    | true =>
      rw [canon_nan _ _ hx]
      have h1 : isNanD (FloatKind.f64.format.read x) = true := by rw [← isNan_eq]; exact hx
      have h2 : isNanD (FloatKind.f64.format.read (nanOf .f64)) = true := by rw [← isNan_eq]; exact nanOf_nan _
      have key : ∀ (d : Ieee.Datum) (n : Nat), isNanD d = true → d.root n = none := by intro d n h; cases d <;> simp [isNanD] at h; rfl
      unfold Ieee.Format.sqrt
      rw [key _ _ h1, key _ _ h2]
  unfold F.sqrt
  rw [hs]
  cases hr : FloatKind.f64.format.sqrt x with
  | some r =>
    refine ⟨r, w, by rw [sqrt_eq]; simp [hr], ?_, .inl rfl⟩
    unfold Ieee.Format.sqrt at hr
    obtain ⟨d, hd, rfl⟩ := Option.map_eq_some_iff.1 hr
    exact canon_write .f64 d (root_some hd)
  | none =>
    exact ⟨_, w.drew, by rw [sqrt_eq]; simp [hr, Question.forced]; rfl, canon_nan _ _ (nanBits_nan .f64 x x _), .inr rfl⟩
theorem floor_run {P : Program} (w : World) (x : Nat) (hx : isNan .f64 x = false) : FRun P (Extern.MathFloor.toIntegral "math.archFloor" .down #[.float .f64 x]) .f64 (F.floor (canon .f64 x)) w := by
  rw [canon_not _ _ hx]
  have hn : isNanD (FloatKind.f64.decode x) = false := by have := hx; rw [isNan_eq] at this; exact this
  cases hd : FloatKind.f64.decode x with
  | nan s t => rw [hd] at hn; cases hn
  | number s m e =>
    refine ⟨_, w, by rw [floor_eq]; simp only [hd]; rfl, ?_, .inl rfl⟩
    simp only [F.floor, hd]
    exact canon_write .f64 _ rfl
  | infinity s =>
    refine ⟨_, w, by rw [floor_eq]; simp only [hd]; rfl, ?_, .inl rfl⟩
    simp only [F.floor, hd]
    exact canon_write .f64 _ rfl

section
variable {P : Program} {E : Env} {β : Pl} {w : World}
theorem extK_name {g k : Nat} (h : extK P g = k + 1) : ∃ fn, P.funcs[g]? = some fn ∧ fn.body.isNone = true ∧ fn.origin = "" ∧ extN fn.name = k + 1 := by
  unfold extK at h
  split at h
  · rename_i fn hfn
    split at h
    · rename_i hb
      split at h
      · rename_i ho; exact ⟨fn, hfn, by simp [hb], eq_of_beq ho, h⟩
      · cases h
    · cases h
  · cases h
/-- What is shown of a call that the model serves by itself. -/
theorem ext_ok {g k : Nat} {as : List SV} {vals : List Value} {m : Mm} {pc : PC} {r : Res} (hN : Named P) (hk : extK P g = k + 1) (hr : SV.reps E β as vals) (hl : m.nxt ≤ m.lim) (hp : PcOk E pc)
    (h : (extS (k + 1) as m pc).sel E = some r) :
    PcOk E r.pc ∧ r.nxt ≤ m.lim ∧ ∃ v w', (callFunc g vals.toArray).run P w = .ok (.value v) w' ∧ SV.rep E β r.v v ∧ Step E β β w w' m.nxt r.nxt r.nb := by
  obtain ⟨fn, hfn, hb, ho, hn⟩ := extK_name hk
  have hnm : (fn.name == "runtime.NumGoroutine") = false := hN g fn hfn
  obtain ⟨r1, r2, r3, r4⟩ := ext_row
  obtain ⟨n1, n2, n3, n4⟩ := extN_name (n := fn.name)
  have fin : ∀ {e : Array Value → Sem Value} {kf : FloatKind} {want : Nat} {t : Tm} {pc' : PC} {x : Nat}, PcOk E pc' → vals = [.float .f64 x] → Extern.findNext fn = none ∧ Extern.find fn = some e → FRun P (e #[.float .f64 x]) kf want w →
      want = (t.den E).toF → (val m pc' (.sc (.float kf) t)).sel E = some r →
      PcOk E r.pc ∧ r.nxt ≤ m.lim ∧ ∃ v w', (callFunc g vals.toArray).run P w = .ok (.value v) w' ∧ SV.rep E β r.v v ∧ Step E β β w w' m.nxt r.nxt r.nb := by
    intro e kf want t pc' x hp' hv hf ⟨y, w', h1, h2, h3⟩ hw hs
    simp only [val, Out.sel, Option.some.injEq] at hs
    subst hs
    subst hv
    refine ⟨hp', hl, .float kf y, w', ?_, ?_, ?_⟩
    · rw [run_callFunc_extern hfn hnm hb hf.1 hf.2, h1]; rfl
    · simp only [SV.rep, SK.rep]; exact ⟨y, rfl, by rw [h2, hw]⟩
    · rcases h3 with rfl | rfl
      · exact Step.refl _
      · exact Step.drew _
  have bits : ∀ {e : Array Value → Sem Value} {kf : FloatKind} {ik : IntKind} {t : Tm} {pc' : PC} {x : Nat}, PcOk E pc' → vals = [.float kf x] → Extern.findNext fn = none ∧ Extern.find fn = some e → e #[.float kf x] = pure (.int ik x) →
      (x : Int) = (t.den E).toI → (val m pc' (.sc (.int ik) t)).sel E = some r →
      PcOk E r.pc ∧ r.nxt ≤ m.lim ∧ ∃ v w', (callFunc g vals.toArray).run P w = .ok (.value v) w' ∧ SV.rep E β r.v v ∧ Step E β β w w' m.nxt r.nxt r.nb := by
    intro e kf ik t pc' x hp' hv hf he hw hs
    simp only [val, Out.sel, Option.some.injEq] at hs
    subst hs
    subst hv
    refine ⟨hp', hl, .int ik x, w, ?_, ?_, Step.refl _⟩
    · rw [run_callFunc_extern hfn hnm hb hf.1 hf.2, he]; rfl
    · simp only [SV.rep, SK.rep]; rw [hw]
  unfold extS at h
  split at h
  · rename_i t
    obtain ⟨v, rest, rfl, hv, hrest⟩ : ∃ v rest, vals = v :: rest ∧ SV.rep E β (.sc (.float .f64) t) v ∧ SV.reps E β [] rest := by simpa only [SV.reps] using hr
    simp only [reps_nil] at hrest
    subst hrest
    simp only [SV.rep, SK.rep] at hv
    obtain ⟨x, rfl, hx⟩ := hv
    split at h
    · rename_i hk1
      obtain ⟨pc', hp', ⟨hc, h⟩ | ⟨hc, h⟩⟩ := fork_sel hp h
      · cases h
      · rw [mkOp_den] at hc
        simp only [Opc.den, Sc.toB_b] at hc
        rw [← hx, isNan_canon] at hc
        rw [canon_not _ _ hc] at hx
        exact bits hp' rfl (r1 fn ho (n1 (by omega))) rfl (by rw [mkOp_den]; simp only [Opc.den, Sc.toI_i, hx]) h
    · exact fin hp rfl (r3 fn ho (n3 (by omega))) (sqrt_run w x) (by rw [mkOp_den]; simp only [Opc.den, Sc.toF_f, hx]) h
    · obtain ⟨pc', hp', ⟨hc, h⟩ | ⟨hc, h⟩⟩ := fork_sel hp h
      · cases h
      · rw [mkOp_den] at hc
        simp only [Opc.den, Sc.toB_b] at hc
        have hc' := hc
        rw [← hx, isNan_canon] at hc'
        exact fin hp' rfl (r4 fn ho (n4 (by omega))) (floor_run w x hc') (by rw [mkOp_den]; simp only [Opc.den, Sc.toF_f, hx]) h
    · cases h
  · rename_i t
    obtain ⟨v, rest, rfl, hv, hrest⟩ : ∃ v rest, vals = v :: rest ∧ SV.rep E β (.sc (.float .f32) t) v ∧ SV.reps E β [] rest := by simpa only [SV.reps] using hr
    simp only [reps_nil] at hrest
    subst hrest
    simp only [SV.rep, SK.rep] at hv
    obtain ⟨x, rfl, hx⟩ := hv
    split at h
    · obtain ⟨pc', hp', ⟨hc, h⟩ | ⟨hc, h⟩⟩ := fork_sel hp h
      · cases h
      · rw [mkOp_den] at hc
        simp only [Opc.den, Sc.toB_b] at hc
        rw [← hx, isNan_canon] at hc
        rw [canon_not _ _ hc] at hx
        exact bits hp' rfl (r2 fn ho (n2 (by omega))) rfl (by rw [mkOp_den]; simp only [Opc.den, Sc.toI_i, hx]) h
    · cases h
  · cases h
end
end Go.Sx
