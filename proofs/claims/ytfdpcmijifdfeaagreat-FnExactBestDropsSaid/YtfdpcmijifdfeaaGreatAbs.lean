/- The contract of math.Abs. No condition. -/
import Derived.Test.YtfdpcmijifdfeaaGreatProg
import Derived.Test.YtfdpcmijifdfeaaGreatSxPat
import Derived.Test.YtfdpcmijifdfeaaGreatSxFin
import Derived.WalkKit
import Derived.Laws.Externs
import Derived.Test.YtfdpcmijifdfeaaGreatSxSum
import Derived.LoopTactic
namespace Go.Proofs.YtfdpcmijifdfeaaGreat.Leaf
open Go.RowKit
set_option linter.unusedVariables false
set_option linter.unusedSimpArgs false
set_option maxRecDepth 100000
theorem bits_run (x : Nat) (w : World) : (callFunc 147 #[.float .f64 x]).run Tryz.prog w = .ok (.value (.int .u64 x)) w := by
  have h := run_callFunc_extern (P := Tryz.prog) (f := 147) (fn := Tryz.f147) (e := Extern.MathFloatBits.float64bits) Tryz.func147 (by kernel_rfl) (by kernel_rfl) (by kernel_rfl) (by kernel_rfl) #[.float .f64 x] w
  exact h
theorem from_run (x : Int) (w : World) : (callFunc 146 #[.int .u64 x]).run Tryz.prog w = .ok (.value (.float .f64 x.toNat)) w := by
  have h := run_callFunc_extern (P := Tryz.prog) (f := 146) (fn := Tryz.f146) (e := Extern.MathFloatBits.float64frombits) Tryz.func146 (by kernel_rfl) (by kernel_rfl) (by kernel_rfl) (by kernel_rfl) #[.int .u64 x] w
  exact h
theorem abs_walk (x : Nat) (w : World) : Calls Tryz.prog 135 #[.float .f64 x] w fun e w' => e = .returned (.float .f64 (x % 9223372036854775808)) ∧ w' = w := by
  have h1 := bits_run
  have h2 := from_run
  go_enter Tryz.func135, Tryz.ntmps135
  go_wp2
  go_ret
  rw [Go.Sx.andnot_top]
  exact ⟨rfl, rfl⟩
theorem abs_ok (E : Go.Sx.Env) : Go.Sx.SumOk Tryz.prog E 135 (Go.Sx.sumS [.float .f64] (.float .f64) fun ts => Go.Sx.mkOp (.fabs .f64) (ts.headD .nil) .nil) := by
  intro args m pc r hr β w vals hreps hm hf hl hp
  unfold Go.Sx.sumS at hr
  split at hr
  · rename_i ts hts
    simp only [Go.Sx.val, Go.Sx.Out.sel, Option.some.injEq] at hr
    subst hr
    obtain ⟨g1, g2, g3⟩ := Go.Sx.matchKs_reps hts hreps
    obtain ⟨t, rfl⟩ : ∃ t, ts = [t] := by
      match ts, g2 with
      | [t], _ => exact ⟨t, rfl⟩
    obtain ⟨v, rfl⟩ : ∃ v, vals = [v] := by
      match vals, g1 with
      | [v], _ => exact ⟨v, rfl⟩
    obtain ⟨x, rfl, hx⟩ := g3 0 _ _ _ rfl rfl rfl
    refine ⟨hp, hl, ⟨_, Tryz.func135, by kernel_rfl⟩, (abs_walk x w).mono fun e w' ⟨he, hw⟩ => ⟨_, β, he, ?_, ?_⟩⟩
    · simp only [Go.Sx.SV.rep, Go.Sx.SK.rep]
      refine ⟨_, rfl, ?_⟩
      rw [Go.Sx.mkOp_den, Go.Sx.abs_canon, hx]
      rfl
    · subst hw; exact Go.Sx.Step.refl _
  · cases hr

open Go.Sx in
theorem named : (Tryz.prog.funcs.toList.all fun fn => !(fn.name == "runtime.NumGoroutine")) = true := by kernel_rfl
theorem mixed : Tryz.prog.follows .mixedOrders = true := by kernel_rfl
open Go.Sx in
def absS : Sum := sumS [.float .f64] (.float .f64) fun ts => mkOp (.fabs .f64) (ts.headD .nil) .nil
open Go.Sx in
def cxAbs : Ctx := ctxL [(135, absS)]
open Go.Sx in
theorem cxAbs_ok (E : Env) : CtxOk Tryz.prog E cxAbs ∧ CtxPc E cxAbs := ctxL_cons (l := []) ctxL_nil (abs_ok E) fun args m pc hp => sumS_pc args m pc hp
open Go.Sx in
theorem nonfin_ok (E : Env) : SumOk Tryz.prog E 112 (sumS [.float .f32] .bool fun ts => mkNot (mkOp (.ffin .f32) (ts.headD .nil) .nil)) := by
  refine sum_ok (ctx := cxAbs) (n := 100) (T := .ite (.op (.fnan .f64) (.op (.conv .f32 .f64) (.var 0) .nil) .nil) (.bl true) (.op (.flt .f64) (.fl 9218868437227405311) (.op (.fabs .f64) (.op (.conv .f32 .f64) (.var 0) .nil) .nil)))
    (fun E' _ => cxAbs_ok E') (named_of named) mixed (by kernel_rfl) fun E' ts hfn hl hE v hv => ?_
  obtain ⟨t, rfl⟩ : ∃ t, ts = [t] := by
    match ts, hl with
    | [t], _ => exact ⟨t, rfl⟩
  have h0 := hE 0 t rfl
  simp only [SK.rep] at hv ⊢
  rw [hv, mkNot_den, List.headD_cons, mkOp_den]
  have := wide_fin (t.den E).toF
  simp only [Tm.den, Opc.den, h0, Sc.toB_b, Sc.toF_f] at this ⊢
  rw [← this]
  cases isNan FloatKind.f64 (F.conv FloatKind.f32 FloatKind.f64 (t.den E).toF) <;> simp
open Go.Sx in
theorem fin_ok (E : Env) : SumOk Tryz.prog E 101 (sumS [.float .f32] .bool fun ts => mkOp (.ffin .f32) (ts.headD .nil) .nil) := by
  refine sum_ok (ctx := cxAbs) (n := 100) (T := .op (.feq .f32) (.op (.fsub .f32) (.var 0) (.var 0)) (.fl 0))
    (fun E' _ => cxAbs_ok E') (named_of named) mixed (by kernel_rfl) fun E' ts hfn hl hE v hv => ?_
  obtain ⟨t, rfl⟩ : ∃ t, ts = [t] := by
    match ts, hl with
    | [t], _ => exact ⟨t, rfl⟩
  have h0 := hE 0 t rfl
  simp only [SK.rep] at hv ⊢
  rw [hv, List.headD_cons, mkOp_den]
  have := sub_self_fin .f32 (t.den E).toF
  simp only [Tm.den, Opc.den, h0, Sc.toB_b, Sc.toF_f] at this ⊢
  exact congrArg Value.bool this
end Go.Proofs.YtfdpcmijifdfeaaGreat.Leaf
namespace Go.Proofs.YtfdpcmijifdfeaaGreat.Leaf
open Go.RowKit
set_option linter.unusedVariables false
set_option linter.unusedSimpArgs false
set_option maxRecDepth 100000
def small (l : List UInt8) : Bool := l.all fun c => decide (97 ≤ c.toNat) && decide (c.toNat ≤ 122)
def nameF (l : List UInt8) : Bool := small l && (decide (1 ≤ l.length) && decide (l.length ≤ 12))
theorem at_get {s : ByteArray} {k : Nat} (h : k < s.size) : s.data.toList[k]? = some s[k] := by
  rw [Array.getElem?_toList, Array.getElem?_eq_getElem h]; rfl
theorem name_bad {s : ByteArray} {k : Nat} (h : k < s.size) (hb : (s[k].toNat : Int) < 97 ∨ 122 < (s[k].toNat : Int)) : nameF s.data.toList = false := by
  have hm : s[k] ∈ s.data.toList := List.mem_of_getElem? (at_get h)
  unfold nameF
  have : small s.data.toList = false := by
    unfold small
    rw [List.all_eq_false]
    exact ⟨_, hm, by rw [Bool.and_eq_true, decide_eq_true_eq, decide_eq_true_eq]; omega⟩
  rw [this]; rfl
theorem small_succ {s : ByteArray} {k : Nat} (h : k < s.size) (hs : small (s.data.toList.take k) = true) (h1 : 97 ≤ (s[k].toNat : Int)) (h2 : (s[k].toNat : Int) ≤ 122) : small (s.data.toList.take (k + 1)) = true := by
  rw [List.take_add_one, at_get h]
  unfold small at hs ⊢
  rw [List.all_append, hs]
  have e : (some s[k]).toList = [s[k]] := rfl
  rw [e, List.all_cons, List.all_nil, Bool.and_true, Bool.true_and, Bool.and_eq_true, decide_eq_true_eq, decide_eq_true_eq]
  omega
theorem name_end {s : ByteArray} (hs : small (s.data.toList.take s.size) = true) : nameF s.data.toList = (decide (1 ≤ s.size) && decide (s.size ≤ 12)) := by
  have e : s.data.toList.take s.size = s.data.toList := List.take_of_length_le (Nat.le_of_eq Array.length_toList)
  rw [e] at hs
  unfold nameF
  rw [hs, Bool.true_and]
  have e2 : s.data.toList.length = s.size := Array.length_toList
  rw [e2]
theorem name_walk (s : ByteArray) (hs : (s.size : Int) ≤ 9223372036854775807) (w : World) :
    Calls Tryz.prog 87 #[.string s] w fun e w' => e = .returned (.bool (nameF s.data.toList)) ∧ Below w.heap.size w w' := by
  go_enter Tryz.func87, Tryz.ntmps87
  go_wp2
  go_loop [6] (fun i => ∃ k : Nat, k ≤ s.size ∧ i = .int .i64 k ∧ small (s.data.toList.take k) = true) (fun i => s.size - (intOf i).toNat)
  case atStart => exact ⟨0, Nat.zero_le _, rfl, rfl⟩
  case round =>
    obtain ⟨k, hk, rfl, hsm⟩ := hrel
    go_wp2
    · go_ret
      refine ⟨?_, Below.refl _ _⟩
      rw [name_bad (k := k) (by assumption) (by omega)]
      rfl
    · go_round
      case rel => exact ⟨k + 1, by omega, by go_num, small_succ (by assumption) hsm (by omega) (by omega)⟩
      case measure => simp [intOf]; omega
    · go_ret
      refine ⟨?_, Below.refl _ _⟩
      rw [name_bad (k := k) (by assumption) (by omega)]
      rfl
    · have : k = s.size := by omega
      subst this
      go_ret
      refine ⟨?_, Below.refl _ _⟩
      rw [name_end hsm]
      have h1 : 1 ≤ s.size := by omega
      have h2 : decide ((s.size : Int) ≤ 12) = decide (s.size ≤ 12) := by simp only [decide_eq_decide]; omega
      rw [decide_eq_true h1, Bool.true_and, ← h2]
      rfl
    · have : k = s.size := by omega
      subst this
      go_ret
      refine ⟨?_, Below.refl _ _⟩
      rw [name_end hsm]
      have h1 : ¬ 1 ≤ s.size := by omega
      rw [decide_eq_false h1, Bool.false_and]
      rfl
theorem name2_walk (s : ByteArray) (hs : (s.size : Int) ≤ 9223372036854775807) (w : World) :
    Calls Tryz.prog 85 #[.string s] w fun e w' => e = .returned (.bool (nameF s.data.toList)) ∧ Below w.heap.size w w' := by
  go_enter Tryz.func85, Tryz.ntmps85
  go_wp2
  go_loop [3] (fun i => ∃ k : Nat, k ≤ s.size ∧ i = .int .i64 k ∧ small (s.data.toList.take k) = true) (fun i => s.size - (intOf i).toNat)
  case atStart => exact ⟨0, Nat.zero_le _, rfl, rfl⟩
  case round =>
    obtain ⟨k, hk, rfl, hsm⟩ := hrel
    go_wp2
    · go_ret
      refine ⟨?_, Below.refl _ _⟩
      rw [name_bad (k := k) (by assumption) (by omega)]
      rfl
    · go_round
      case rel => exact ⟨k + 1, by omega, by go_num, small_succ (by assumption) hsm (by omega) (by omega)⟩
      case measure => simp [intOf]; omega
    · go_ret
      refine ⟨?_, Below.refl _ _⟩
      rw [name_bad (k := k) (by assumption) (by omega)]
      rfl
    · have : k = s.size := by omega
      subst this
      go_ret
      refine ⟨?_, Below.refl _ _⟩
      rw [name_end hsm]
      have h1 : 1 ≤ s.size := by omega
      have h2 : decide ((s.size : Int) ≤ 12) = decide (s.size ≤ 12) := by simp only [decide_eq_decide]; omega
      rw [decide_eq_true h1, Bool.true_and, ← h2]
      rfl
    · have : k = s.size := by omega
      subst this
      go_ret
      refine ⟨?_, Below.refl _ _⟩
      rw [name_end hsm]
      have h1 : ¬ 1 ≤ s.size := by omega
      rw [decide_eq_false h1, Bool.false_and]
      rfl

open Go.Sx in
/-- The contract of both: a bool of the text, where the text is no longer than a whole number can say. -/
def nameC : Sum := fun args m pc => match args with
  | [.sc .str t] => match decB pc (.op .lei (.op .lens t .nil) (.il 9223372036854775807)) with
    | some true => val m pc (.sc .bool (.app 0 t))
    | _ => .bad 320
  | _ => .bad 321
open Go.Sx in
theorem nameC_ok {E : Env} {f : Nat} (hE : ∀ c, E.fn 0 c = .b (nameF c.toS)) (hf : ∃ fn, Tryz.prog.funcs[f]? = some fn ∧ fn.body.isSome = true)
    (hw : ∀ (s : ByteArray), (s.size : Int) ≤ 9223372036854775807 → ∀ w : World, Calls Tryz.prog f #[.string s] w fun e w' => e = .returned (.bool (nameF s.data.toList)) ∧ Below w.heap.size w w') :
    SumOk Tryz.prog E f nameC := by
  intro args m pc r hr β w vals hreps hm hfr hl hp
  unfold nameC at hr
  split at hr
  · rename_i t
    split at hr
    · rename_i hd
      simp only [val, Out.sel, Option.some.injEq] at hr
      subst hr
      have hlen := decB_ok hp _ hd
      obtain ⟨v, rest, rfl, hv, hrest⟩ : ∃ v rest, vals = v :: rest ∧ SV.rep E β (.sc .str t) v ∧ SV.reps E β [] rest := by simpa only [SV.reps] using hreps
      simp only [reps_nil] at hrest
      subst hrest
      simp only [SV.rep, SK.rep] at hv
      subst hv
      simp only [Tm.den, Opc.den, Sc.toB_b, Sc.toI_i, decide_eq_true_eq] at hlen
      refine ⟨hp, hl, hf, (hw ⟨(t.den E).toS.toArray⟩ (of_decide_eq_true hlen) w).mono fun e w' ⟨he, hb⟩ => ⟨_, β, he, ?_, Step.same _ hb⟩⟩
      simp only [SV.rep, SK.rep, Tm.den, hE, Sc.toB_b]
    · cases hr
  · cases hr
open Go.Sx in
theorem nameC_pc {E : Env} (args : List SV) (m : Mm) (pc : PC) (hp : PcOk E pc) : Pcs E Res.pc (nameC args m pc) := by
  unfold nameC
  split
  · split
    · exact .ret hp
    · exact .bad
  · exact .bad
end Go.Proofs.YtfdpcmijifdfeaaGreat.Leaf
