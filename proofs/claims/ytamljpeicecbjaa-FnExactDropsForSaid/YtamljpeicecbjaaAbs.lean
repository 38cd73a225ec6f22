/- The contract of math.Abs. No condition. -/
import Derived.Test.YtamljpeicecbjaaProg
import Derived.Test.YtamljpeicecbjaaSxPat
import Derived.Test.YtamljpeicecbjaaSxFin
import Derived.WalkKit
import Derived.Laws.Externs
namespace Go.Proofs.Ytamljpeicecbjaa.Leaf
open Go.RowKit
set_option linter.unusedVariables false
set_option linter.unusedSimpArgs false
set_option maxRecDepth 100000
theorem bits_run (x : Nat) (w : World) : (callFunc 236 #[.float .f64 x]).run Try.prog w = .ok (.value (.int .u64 x)) w := by
  have h := run_callFunc_extern (P := Try.prog) (f := 236) (fn := Try.f236) (e := Extern.MathFloatBits.float64bits) Try.func236 (by kernel_rfl) (by kernel_rfl) (by kernel_rfl) (by kernel_rfl) #[.float .f64 x] w
  exact h
theorem from_run (x : Int) (w : World) : (callFunc 235 #[.int .u64 x]).run Try.prog w = .ok (.value (.float .f64 x.toNat)) w := by
  have h := run_callFunc_extern (P := Try.prog) (f := 235) (fn := Try.f235) (e := Extern.MathFloatBits.float64frombits) Try.func235 (by kernel_rfl) (by kernel_rfl) (by kernel_rfl) (by kernel_rfl) #[.int .u64 x] w
  exact h
theorem abs_walk (x : Nat) (w : World) : Calls Try.prog 223 #[.float .f64 x] w fun e w' => e = .returned (.float .f64 (x % 9223372036854775808)) ∧ w' = w := by
  have h1 := bits_run
  have h2 := from_run
  go_enter Try.func223, Try.ntmps223
  go_wp2
  go_ret
  rw [Go.Sx.andnot_top]
  exact ⟨rfl, rfl⟩
theorem abs_ok (E : Go.Sx.Env) : Go.Sx.SumOk Try.prog E 223 (Go.Sx.sumS [.float .f64] (.float .f64) fun ts => Go.Sx.mkOp (.fabs .f64) (ts.headD .nil) .nil) := by
  intro args m pc r hr β w vals hreps hm hf hl hp
  unfold Go.Sx.sumS at hr
  split at hr
  · rename_i ts hts
    simp only [Go.Sx.val, Go.Sx.Out.sel, Option.some.injEq] at hr
    subst hr
    obtain ⟨g1, g2, g3⟩ := Go.Sx.matchKs_reps hts hreps
    obtain ⟨t, rfl⟩ : ∃ t, ts = [t] := by
      match ts, g2 with
      | [t], _ => exact ⟨t, rfl⟩
    obtain ⟨v, rfl⟩ : ∃ v, vals = [v] := by
      match vals, g1 with
      | [v], _ => exact ⟨v, rfl⟩
    obtain ⟨x, rfl, hx⟩ := g3 0 _ _ _ rfl rfl rfl
    refine ⟨hp, hl, ⟨_, Try.func223, by kernel_rfl⟩, (abs_walk x w).mono fun e w' ⟨he, hw⟩ => ⟨_, β, he, ?_, ?_⟩⟩
    · simp only [Go.Sx.SV.rep, Go.Sx.SK.rep]
      refine ⟨_, rfl, ?_⟩
      rw [Go.Sx.mkOp_den, Go.Sx.abs_canon, hx]
      rfl
    · subst hw; exact Go.Sx.Step.refl _
  · cases hr

open Go.Sx in
theorem named : (Try.prog.funcs.toList.all fun fn => !(fn.name == "runtime.NumGoroutine")) = true := by kernel_rfl
theorem mixed : Try.prog.follows .mixedOrders = true := by kernel_rfl
open Go.Sx in
def absS : Sum := sumS [.float .f64] (.float .f64) fun ts => mkOp (.fabs .f64) (ts.headD .nil) .nil
open Go.Sx in
def cxAbs : Ctx := ctxL [(223, absS)]
open Go.Sx in
theorem cxAbs_ok (E : Env) : CtxOk Try.prog E cxAbs ∧ CtxPc E cxAbs := ctxL_cons (l := []) ctxL_nil (abs_ok E) fun args m pc hp => sumS_pc args m pc hp
open Go.Sx in
theorem nonfin_ok (E : Env) : SumOk Try.prog E 197 (sumS [.float .f32] .bool fun ts => mkNot (mkOp (.ffin .f32) (ts.headD .nil) .nil)) := by
  refine sum_ok (ctx := cxAbs) (n := 100) (T := .ite (.op (.fnan .f64) (.op (.conv .f32 .f64) (.var 0) .nil) .nil) (.bl true) (.op (.flt .f64) (.fl 9218868437227405311) (.op (.fabs .f64) (.op (.conv .f32 .f64) (.var 0) .nil) .nil)))
    (fun E' _ => cxAbs_ok E') (named_of named) mixed (by kernel_rfl) fun E' ts hfn hl hE v hv => ?_
  obtain ⟨t, rfl⟩ : ∃ t, ts = [t] := by
    match ts, hl with
    | [t], _ => exact ⟨t, rfl⟩
  have h0 := hE 0 t rfl
  simp only [SK.rep] at hv ⊢
  rw [hv, mkNot_den, List.headD_cons, mkOp_den]
  have := wide_fin (t.den E).toF
  simp only [Tm.den, Opc.den, h0, Sc.toB_b, Sc.toF_f] at this ⊢
  rw [← this]
  cases isNan FloatKind.f64 (F.conv FloatKind.f32 FloatKind.f64 (t.den E).toF) <;> simp
open Go.Sx in
theorem fin_ok (E : Env) : SumOk Try.prog E 151 (sumS [.float .f32] .bool fun ts => mkOp (.ffin .f32) (ts.headD .nil) .nil) := by
  refine sum_ok (ctx := cxAbs) (n := 100) (T := .op (.feq .f32) (.op (.fsub .f32) (.var 0) (.var 0)) (.fl 0))
    (fun E' _ => cxAbs_ok E') (named_of named) mixed (by kernel_rfl) fun E' ts hfn hl hE v hv => ?_
  obtain ⟨t, rfl⟩ : ∃ t, ts = [t] := by
    match ts, hl with
    | [t], _ => exact ⟨t, rfl⟩
  have h0 := hE 0 t rfl
  simp only [SK.rep] at hv ⊢
  rw [hv, List.headD_cons, mkOp_den]
  have := sub_self_fin .f32 (t.den E).toF
  simp only [Tm.den, Opc.den, h0, Sc.toB_b, Sc.toF_f] at this ⊢
  exact congrArg Value.bool this
end Go.Proofs.Ytamljpeicecbjaa.Leaf
