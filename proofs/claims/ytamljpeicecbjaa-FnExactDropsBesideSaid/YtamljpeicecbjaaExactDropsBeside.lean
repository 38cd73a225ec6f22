/- 'FnExactDropsBeside': for every way in which a slice may come, the tree that the executor reckons of the law is true at each leaf; the row's frame. No condition. -/
import Derived.Test.YtamljpeicecbjaaRows
import Derived.Test.YtamljpeicecbjaaAd
import Derived.Test.YtamljpeicecbjaaDoor
import Derived.WalkKit
import Derived.ProofKit
import Derived.OpenShut
import Derived.ShutString
import Derived.ChangeOld
namespace Go.Proofs.Ytamljpeicecbjaa.fnExactDropsBeside
open Go.ChangeShapes Go.WideShapes Go.ChangeAt Go.RowKit
set_option linter.unusedVariables false
set_option maxRecDepth 100000

theorem own : ownKnob Try.prog.godebug = none := by kernel_rfl
theorem laidOut : laidOutB Try.prog = true := by kernel_rfl
theorem named : (Try.prog.funcs.toList.all fun fn => !(fn.name == "runtime.NumGoroutine")) = true := by kernel_rfl
theorem mixed : Try.prog.follows .mixedOrders = true := by kernel_rfl
theorem rowsOf : (Go.Sx.cksAll Try.prog [36, 55]).map (fun x => Go.Sx.rows x.1) = some 1 := by kernel_rfl
theorem t_0 : Go.Sx.treeD Try.prog Go.Proofs.Ytamljpeicecbjaa.LeafD.cxB 1000 20 6 [36, 55] [0] 100000 [] = true := by kernel_rfl
theorem t_1 : Go.Sx.treeD Try.prog Go.Proofs.Ytamljpeicecbjaa.LeafD.cxB 1000 20 6 [36, 55] [1] 100000 [] = true := by kernel_rfl
theorem t_2 : Go.Sx.treeD Try.prog Go.Proofs.Ytamljpeicecbjaa.LeafD.cxB 1000 20 6 [36, 55] [2] 100000 [] = true := by kernel_rfl
theorem t_3 : Go.Sx.treeD Try.prog Go.Proofs.Ytamljpeicecbjaa.LeafD.cxB 1000 20 6 [36, 55] [3] 100000 [] = true := by kernel_rfl
theorem t_4 : Go.Sx.treeD Try.prog Go.Proofs.Ytamljpeicecbjaa.LeafD.cxB 1000 20 6 [36, 55] [4] 100000 [] = true := by kernel_rfl
theorem t_5 : Go.Sx.treeD Try.prog Go.Proofs.Ytamljpeicecbjaa.LeafD.cxB 1000 20 6 [36, 55] [5] 100000 [] = true := by kernel_rfl
theorem t_6 : Go.Sx.treeD Try.prog Go.Proofs.Ytamljpeicecbjaa.LeafD.cxB 1000 20 6 [36, 55] [6] 100000 [] = true := by kernel_rfl
theorem t_7 : Go.Sx.treeD Try.prog Go.Proofs.Ytamljpeicecbjaa.LeafD.cxB 1000 20 6 [36, 55] [7] 100000 [] = true := by kernel_rfl
theorem t_8 : Go.Sx.treeD Try.prog Go.Proofs.Ytamljpeicecbjaa.LeafD.cxB 1000 20 6 [36, 55] [8] 100000 [] = true := by kernel_rfl
theorem trees (ws : List Nat) (h1 : ws.length = 1) (h2 : ∀ x, x ∈ ws → x ≤ 8) : Go.Sx.treeD Try.prog Go.Proofs.Ytamljpeicecbjaa.LeafD.cxB 1000 20 6 [36, 55] ws 100000 [] = true := by
  match ws, h1 with
  | [x0], _ =>
    have hx0 := h2 x0 (by simp)
    match x0, hx0 with
    | 0, _ => exact t_0
    | 1, _ => exact t_1
    | 2, _ => exact t_2
    | 3, _ => exact t_3
    | 4, _ => exact t_4
    | 5, _ => exact t_5
    | 6, _ => exact t_6
    | 7, _ => exact t_7
    | 8, _ => exact t_8
    | n + 9, h => exact absurd h (by omega)

theorem lifted (os : Os) (started : os.Started) (H : Type) (enc : TypeId × Value → H) :
    ReturnsInHanded {} Try.checked os 20 .any (Rows.fnExactDropsBesideSpec.pre6 enc Try.prog Try.f20 Rows.fnExactDropsBesideRow.domain false) (Rows.fnExactDropsBesideSpec.post enc Try.prog Try.f20 false true false false) := by
  refine returnsInHanded_of_change (C := Try.checked) own started (by kernel_rfl) Try.func20
    (ChangeSpec.witness6 (enc := enc) (C := Try.checked) false ⟨#[], #[.agg #[.slice none 0 0, .int .i32 0, .int .i32 0, .int .i32 0, .int .i32 0, .int .i32 0, .int .i32 0], .agg #[.int .i16 0, .int .i16 0, .int .i16 0, .int .i16 0, .int .i16 0, .int .i16 0]], []⟩ 8 (by kernel_rfl) (by kernel_rfl) (by kernel_rfl) (by kernel_rfl)) ?_
  intro W base args ds gs before hval0 hW hcnd _
  have hval : ∀ (j : Nat) t v, Try.f20.params[j]? = some t → args[j]? = some v → Value.okWide Try.prog W .any base t v := hval0
  have hW' := hW
  obtain ⟨p, q, hA0, hV, rfl, hfz, hnd⟩ := hW
  have hA : DataW.TrodAll enc Try.prog W 0 (fun _ => true) true Try.f20.params.toList args.toList ds p := hA0
  rw [Try.params20] at hA hval
  obtain ⟨rfl, rfl⟩ := trodVars_none hV
  have hA1 := hA
  obtain ⟨v0, vs0, d0, ds0, p0, q0, hargs, rfl, rfl, h0, r0⟩ := trodAll_cons hA
  obtain ⟨v1, vs1, d1, ds1, p1, q1, rfl, rfl, rfl, h1, r1⟩ := trodAll_cons r0
  obtain ⟨rfl, rfl, rfl⟩ := trodAll_nil r1
  obtain rfl : args = #[v0, v1] := by cases args; simp_all
  have lt0 : ∀ x ∈ p0, x.block < W.heap.size := by obtain ⟨m, hm⟩ := h0; exact DataW.trod_lt m _ _ _ hm
  have lt1 : ∀ x ∈ p1, x.block < W.heap.size := by obtain ⟨m, hm⟩ := h1; exact DataW.trod_lt m _ _ _ hm
  clear hA0 hval0
  refine (Go.Sx.law_holdsS (ts := [36, 55]) Go.Proofs.Ytamljpeicecbjaa.LeafD.cxB_ok named mixed Go.Proofs.Ytamljpeicecbjaa.LeafD.F2_900 rowsOf trees hval hA1).mono fun e W' ⟨he, bel⟩ => ?_
  subst he
  exact ⟨_, rfl, _, _, _, [], _, [], hW', trodAll_mk1 (shut_bool Try.underlying4 _), (trodAll_cons_mk (Below.trod laidOut (by kernel_rfl) (of_decide_eq_true (by kernel_rfl)) h0 bel lt0) (trodAll_cons_mk (Below.trod laidOut (by kernel_rfl) (of_decide_eq_true (by kernel_rfl)) h1 bel lt1) trodAll_mk0)), rfl, bel.frame _, fun h => by cases h⟩

theorem closed : joinedFacts Try.prog 20 Try.f20 Rows.fnExactDropsBesideSpec Rows.fnExactDropsBesideRow = true := by
  unfold joinedFacts
  rw [Go.Proofs.Ytamljpeicecbjaa.Door.may, Go.Proofs.Ytamljpeicecbjaa.Door.lifts, Go.Proofs.Ytamljpeicecbjaa.Door.mk]
  kernel_rfl
theorem over : Rows.fnExactDropsBesideRow.holds Try.pinned (OpenSpec.ofChange Rows.fnExactDropsBesideSpec) :=
  OpenClaim.holds_of_wide 20 Try.f20 rfl rfl rfl rfl rfl rfl rfl ⟨rfl, rfl, rfl, rfl, rfl⟩ rfl rfl rfl rfl rfl (by kernel_rfl) Try.func20 closed
    (of_decide_eq_true (by kernel_rfl)) (by unfold Func.isWrapper; first | (rw [if_pos (by decide +kernel)]; kernel_rfl) | (rw [if_neg (by decide +kernel)]; exact ⟨rfl, rfl⟩))
    (fun os started H enc _ => lifted os started H enc)

theorem proved : Rows.FnExactDropsBesideSaid := over
#print axioms proved
end Go.Proofs.Ytamljpeicecbjaa.fnExactDropsBeside
