/- 'FnExactSameShelf': for every way in which a slice may come, the tree that the executor reckons of the law is true at each leaf; the row's frame. No condition. -/
import Derived.Test.YtamljpeicecbjaaRows
import Derived.Test.YtamljpeicecbjaaSs
import Derived.Test.YtamljpeicecbjaaSmA
import Derived.Test.YtamljpeicecbjaaSmB
import Derived.Test.YtamljpeicecbjaaSmC
import Derived.Test.YtamljpeicecbjaaSmD
import Derived.Test.YtamljpeicecbjaaSmE
import Derived.Test.YtamljpeicecbjaaSmF
import Derived.Test.YtamljpeicecbjaaDoor
import Derived.WalkKit
import Derived.ProofKit
import Derived.OpenShut
import Derived.ShutString
import Derived.ChangeOld
namespace Go.Proofs.Ytamljpeicecbjaa.fnExactSameShelf
open Go.ChangeShapes Go.WideShapes Go.ChangeAt Go.RowKit
set_option linter.unusedVariables false
set_option maxRecDepth 100000

theorem own : ownKnob Try.prog.godebug = none := by kernel_rfl
theorem laidOut : laidOutB Try.prog = true := by kernel_rfl
theorem named : (Try.prog.funcs.toList.all fun fn => !(fn.name == "runtime.NumGoroutine")) = true := by kernel_rfl
theorem mixed : Try.prog.follows .mixedOrders = true := by kernel_rfl
theorem rowsOf : (Go.Sx.cksAll Try.prog [36, 36]).map (fun x => Go.Sx.rows x.1) = some 2 := by kernel_rfl
theorem trees (ws : List Nat) (h1 : ws.length = 2) (h2 : ∀ x, x ∈ ws → x ≤ 8) : Go.Sx.treeD Try.prog Go.Proofs.Ytamljpeicecbjaa.LeafSm.cxB 1000 4 6 [36, 36] ws 100000 [] = true := by
  match ws, h1 with
  | [x0, x1], _ =>
    have hx0 := h2 x0 (by simp)
    have hx1 := h2 x1 (by simp)
    match x0, x1, hx0, hx1 with
    | 0, 0, _, _ => exact t_0_0
    | 0, 1, _, _ => exact t_0_1
    | 0, 2, _, _ => exact t_0_2
    | 0, 3, _, _ => exact t_0_3
    | 0, 4, _, _ => exact t_0_4
    | 0, 5, _, _ => exact t_0_5
    | 0, 6, _, _ => exact t_0_6
    | 0, 7, _, _ => exact t_0_7
    | 0, 8, _, _ => exact t_0_8
    | 1, 0, _, _ => exact t_1_0
    | 1, 1, _, _ => exact t_1_1
    | 1, 2, _, _ => exact t_1_2
    | 1, 3, _, _ => exact t_1_3
    | 1, 4, _, _ => exact t_1_4
    | 1, 5, _, _ => exact t_1_5
    | 1, 6, _, _ => exact t_1_6
    | 1, 7, _, _ => exact t_1_7
    | 1, 8, _, _ => exact t_1_8
    | 2, 0, _, _ => exact t_2_0
    | 2, 1, _, _ => exact t_2_1
    | 2, 2, _, _ => exact t_2_2
    | 2, 3, _, _ => exact t_2_3
    | 2, 4, _, _ => exact t_2_4
    | 2, 5, _, _ => exact t_2_5
    | 2, 6, _, _ => exact t_2_6
    | 2, 7, _, _ => exact t_2_7
    | 2, 8, _, _ => exact t_2_8
    | 3, 0, _, _ => exact t_3_0
    | 3, 1, _, _ => exact t_3_1
    | 3, 2, _, _ => exact t_3_2
    | 3, 3, _, _ => exact t_3_3
    | 3, 4, _, _ => exact t_3_4
    | 3, 5, _, _ => exact t_3_5
    | 3, 6, _, _ => exact t_3_6
    | 3, 7, _, _ => exact t_3_7
    | 3, 8, _, _ => exact t_3_8
    | 4, 0, _, _ => exact t_4_0
    | 4, 1, _, _ => exact t_4_1
    | 4, 2, _, _ => exact t_4_2
    | 4, 3, _, _ => exact t_4_3
    | 4, 4, _, _ => exact t_4_4
    | 4, 5, _, _ => exact t_4_5
    | 4, 6, _, _ => exact t_4_6
    | 4, 7, _, _ => exact t_4_7
    | 4, 8, _, _ => exact t_4_8
    | 5, 0, _, _ => exact t_5_0
    | 5, 1, _, _ => exact t_5_1
    | 5, 2, _, _ => exact t_5_2
    | 5, 3, _, _ => exact t_5_3
    | 5, 4, _, _ => exact t_5_4
    | 5, 5, _, _ => exact t_5_5
    | 5, 6, _, _ => exact t_5_6
    | 5, 7, _, _ => exact t_5_7
    | 5, 8, _, _ => exact t_5_8
    | 6, 0, _, _ => exact t_6_0
    | 6, 1, _, _ => exact t_6_1
    | 6, 2, _, _ => exact t_6_2
    | 6, 3, _, _ => exact t_6_3
    | 6, 4, _, _ => exact t_6_4
    | 6, 5, _, _ => exact t_6_5
    | 6, 6, _, _ => exact t_6_6
    | 6, 7, _, _ => exact t_6_7
    | 6, 8, _, _ => exact t_6_8
    | 7, 0, _, _ => exact t_7_0
    | 7, 1, _, _ => exact t_7_1
    | 7, 2, _, _ => exact t_7_2
    | 7, 3, _, _ => exact t_7_3
    | 7, 4, _, _ => exact t_7_4
    | 7, 5, _, _ => exact t_7_5
    | 7, 6, _, _ => exact t_7_6
    | 7, 7, _, _ => exact t_7_7
    | 7, 8, _, _ => exact t_7_8
    | 8, 0, _, _ => exact t_8_0
    | 8, 1, _, _ => exact t_8_1
    | 8, 2, _, _ => exact t_8_2
    | 8, 3, _, _ => exact t_8_3
    | 8, 4, _, _ => exact t_8_4
    | 8, 5, _, _ => exact t_8_5
    | 8, 6, _, _ => exact t_8_6
    | 8, 7, _, _ => exact t_8_7
    | 8, 8, _, _ => exact t_8_8
    | n + 9, _, h, _ => exact absurd h (by omega)
    | _, n + 9, _, h => exact absurd h (by omega)

theorem lifted (os : Os) (started : os.Started) (H : Type) (enc : TypeId × Value → H) :
    ReturnsInHanded {} Try.checked os 4 .any (Rows.fnExactSameShelfSpec.pre6 enc Try.prog Try.f4 Rows.fnExactSameShelfRow.domain false) (Rows.fnExactSameShelfSpec.post enc Try.prog Try.f4 false true false false) := by
  refine returnsInHanded_of_change (C := Try.checked) own started (by kernel_rfl) Try.func4
    (ChangeSpec.witness6 (enc := enc) (C := Try.checked) false ⟨#[], #[.agg #[.slice none 0 0, .int .i32 0, .int .i32 0, .int .i32 0, .int .i32 0, .int .i32 0, .int .i32 0], .agg #[.slice none 0 0, .int .i32 0, .int .i32 0, .int .i32 0, .int .i32 0, .int .i32 0, .int .i32 0]], []⟩ 8 (by kernel_rfl) (by kernel_rfl) (by kernel_rfl) (by kernel_rfl)) ?_
  intro W base args ds gs before hval0 hW hcnd _
  have hval : ∀ (j : Nat) t v, Try.f4.params[j]? = some t → args[j]? = some v → Value.okWide Try.prog W .any base t v := hval0
  have hW' := hW
  obtain ⟨p, q, hA0, hV, rfl, hfz, hnd⟩ := hW
  have hA : DataW.TrodAll enc Try.prog W 0 (fun _ => true) true Try.f4.params.toList args.toList ds p := hA0
  rw [Try.params4] at hA hval
  obtain ⟨rfl, rfl⟩ := trodVars_none hV
  have hA1 := hA
  obtain ⟨v0, vs0, d0, ds0, p0, q0, hargs, rfl, rfl, h0, r0⟩ := trodAll_cons hA
  obtain ⟨v1, vs1, d1, ds1, p1, q1, rfl, rfl, rfl, h1, r1⟩ := trodAll_cons r0
  obtain ⟨rfl, rfl, rfl⟩ := trodAll_nil r1
  obtain rfl : args = #[v0, v1] := by cases args; simp_all
  have lt0 : ∀ x ∈ p0, x.block < W.heap.size := by obtain ⟨m, hm⟩ := h0; exact DataW.trod_lt m _ _ _ hm
  have lt1 : ∀ x ∈ p1, x.block < W.heap.size := by obtain ⟨m, hm⟩ := h1; exact DataW.trod_lt m _ _ _ hm
  clear hA0 hval0
  refine (Go.Sx.law_holdsS (ts := [36, 36]) Go.Proofs.Ytamljpeicecbjaa.LeafSm.cxB_ok named mixed Go.Proofs.Ytamljpeicecbjaa.LeafSm.F2_900 rowsOf trees hval hA1).mono fun e W' ⟨he, bel⟩ => ?_
  subst he
  exact ⟨_, rfl, _, _, _, [], _, [], hW', trodAll_mk1 (shut_bool Try.underlying4 _), (trodAll_cons_mk (Below.trod laidOut (by kernel_rfl) (of_decide_eq_true (by kernel_rfl)) h0 bel lt0) (trodAll_cons_mk (Below.trod laidOut (by kernel_rfl) (of_decide_eq_true (by kernel_rfl)) h1 bel lt1) trodAll_mk0)), rfl, bel.frame _, fun h => by cases h⟩

theorem closed : joinedFacts Try.prog 4 Try.f4 Rows.fnExactSameShelfSpec Rows.fnExactSameShelfRow = true := by
  unfold joinedFacts
  rw [Go.Proofs.Ytamljpeicecbjaa.Door.may, Go.Proofs.Ytamljpeicecbjaa.Door.lifts, Go.Proofs.Ytamljpeicecbjaa.Door.mk]
  kernel_rfl
theorem over : Rows.fnExactSameShelfRow.holds Try.pinned (OpenSpec.ofChange Rows.fnExactSameShelfSpec) :=
  OpenClaim.holds_of_wide 4 Try.f4 rfl rfl rfl rfl rfl rfl rfl ⟨rfl, rfl, rfl, rfl, rfl⟩ rfl rfl rfl rfl rfl (by kernel_rfl) Try.func4 closed
    (of_decide_eq_true (by kernel_rfl)) (by unfold Func.isWrapper; first | (rw [if_pos (by decide +kernel)]; kernel_rfl) | (rw [if_neg (by decide +kernel)]; exact ⟨rfl, rfl⟩))
    (fun os started H enc _ => lifted os started H enc)

theorem proved : Rows.FnExactSameShelfSaid := over
#print axioms proved
end Go.Proofs.Ytamljpeicecbjaa.fnExactSameShelf
