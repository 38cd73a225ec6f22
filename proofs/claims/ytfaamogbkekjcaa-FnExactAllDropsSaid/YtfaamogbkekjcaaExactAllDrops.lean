/- 'FnExactAllDrops': for every way in which a slice may come, the tree that the executor reckons of the law is true at each leaf; the row's frame. No condition. -/
import Derived.Test.YtfaamogbkekjcaaAdA
import Derived.Test.YtfaamogbkekjcaaAdB
import Derived.Test.YtfaamogbkekjcaaAdC
import Derived.Test.YtfaamogbkekjcaaRows
import Derived.Test.YtfaamogbkekjcaaEb
import Derived.WalkKit
import Derived.ProofKit
import Derived.OpenShut
import Derived.ShutString
import Derived.ChangeOld
namespace Go.Proofs.Ytfaamogbkekjcaa.fnExactAllDrops
open Go.ChangeShapes Go.WideShapes Go.ChangeAt Go.RowKit
set_option linter.unusedVariables false
set_option maxRecDepth 100000

theorem own : ownKnob Try.prog.godebug = none := by kernel_rfl
theorem laidOut : laidOutB Try.prog = true := by kernel_rfl
theorem named : (Try.prog.funcs.toList.all fun fn => !(fn.name == "runtime.NumGoroutine")) = true := by kernel_rfl
theorem mixed : Try.prog.follows .mixedOrders = true := by kernel_rfl
theorem rowsOf : (Go.Sx.cksAll Try.prog [2, 2]).map (fun x => Go.Sx.rows x.1) = some 0 := by kernel_rfl
theorem t_all : ∀ c b, 2 ≤ c → c ≤ 6 → Go.Proofs.Ytfaamogbkekjcaa.Leaf.tE c (Go.Proofs.Ytfaamogbkekjcaa.Leaf.csQ c b) = true := fun c b h1 h6 => match c, b, h1, h6 with
  | 2, true, _, _ => t_2_true
  | 2, false, _, _ => t_2_false
  | 3, true, _, _ => t_3_true
  | 3, false, _, _ => t_3_false
  | 4, true, _, _ => t_4_true
  | 4, false, _, _ => t_4_false
  | 5, true, _, _ => t_5_true
  | 5, false, _, _ => t_5_false
  | 6, true, _, _ => t_6_true
  | 6, false, _, _ => t_6_false
theorem trees (ws : List Nat) (h1 : ws.length = 0) (h2 : ∀ x, x ∈ ws → x ≤ 8) (E : Go.Sx.Env) (hE : E.fn = Go.Proofs.Ytfaamogbkekjcaa.Leaf.FE) : Go.Sx.CaseOk Try.prog E 1000 3 6 [2, 2] ws 100000 [] := by
  obtain rfl : ws = [] := List.eq_nil_of_length_eq_zero h1
  exact Go.Proofs.Ytfaamogbkekjcaa.Leaf.caseE (by rw [hE]; exact Go.Proofs.Ytfaamogbkekjcaa.Leaf.FokE_FE) t_1 t_all t_a t_b

theorem lifted (os : Os) (started : os.Started) (H : Type) (enc : TypeId × Value → H) :
    ReturnsInHanded {} Try.checked os 3 .any (Rows.fnExactAllDropsSpec.pre6 enc Try.prog Try.f3 Rows.fnExactAllDropsRow.domain false) (Rows.fnExactAllDropsSpec.post enc Try.prog Try.f3 false true false false) := by
  refine returnsInHanded_of_change (C := Try.checked) own started (by kernel_rfl) Try.func3
    (ChangeSpec.witness6 (enc := enc) (C := Try.checked) false ⟨#[], #[.int .i64 0, .int .i64 0], []⟩ 8 (by kernel_rfl) (by kernel_rfl) (by kernel_rfl) (by kernel_rfl)) ?_
  intro W base args ds gs before hval0 hW hcnd _
  have hval : ∀ (j : Nat) t v, Try.f3.params[j]? = some t → args[j]? = some v → Value.okWide Try.prog W .any base t v := hval0
  have hW' := hW
  obtain ⟨p, q, hA0, hV, rfl, hfz, hnd⟩ := hW
  have hA : DataW.TrodAll enc Try.prog W 0 (fun _ => true) true Try.f3.params.toList args.toList ds p := hA0
  rw [Try.params3] at hA hval
  obtain ⟨rfl, rfl⟩ := trodVars_none hV
  have hA1 := hA
  obtain ⟨v0, vs0, d0, ds0, p0, q0, hargs, rfl, rfl, h0, r0⟩ := trodAll_cons hA
  obtain ⟨v1, vs1, d1, ds1, p1, q1, rfl, rfl, rfl, h1, r1⟩ := trodAll_cons r0
  obtain ⟨rfl, rfl, rfl⟩ := trodAll_nil r1
  obtain rfl : args = #[v0, v1] := by cases args; simp_all
  have lt0 : ∀ x ∈ p0, x.block < W.heap.size := by obtain ⟨m, hm⟩ := h0; exact DataW.trod_lt m _ _ _ hm
  have lt1 : ∀ x ∈ p1, x.block < W.heap.size := by obtain ⟨m, hm⟩ := h1; exact DataW.trod_lt m _ _ _ hm
  clear hA0 hval0
  refine (Go.Sx.law_holdsC (F := Go.Proofs.Ytfaamogbkekjcaa.Leaf.FE) (ts := [2, 2]) named mixed Go.Proofs.Ytfaamogbkekjcaa.LeafE.F2_900 rowsOf trees hval hA1).mono fun e W' ⟨he, bel⟩ => ?_
  subst he
  exact ⟨_, rfl, _, _, _, [], _, [], hW', trodAll_mk1 (shut_bool Try.underlying4 _), (trodAll_cons_mk (Below.trod laidOut (by kernel_rfl) (of_decide_eq_true (by kernel_rfl)) h0 bel lt0) (trodAll_cons_mk (Below.trod laidOut (by kernel_rfl) (of_decide_eq_true (by kernel_rfl)) h1 bel lt1) trodAll_mk0)), rfl, bel.frame _, fun h => by cases h⟩

theorem closed : joinedFacts Try.prog 3 Try.f3 Rows.fnExactAllDropsSpec Rows.fnExactAllDropsRow = true := by kernel_rfl
theorem over : Rows.fnExactAllDropsRow.holds Try.pinned (OpenSpec.ofChange Rows.fnExactAllDropsSpec) :=
  OpenClaim.holds_of_wide 3 Try.f3 rfl rfl rfl rfl rfl rfl rfl ⟨rfl, rfl, rfl, rfl, rfl⟩ rfl rfl rfl rfl rfl (by kernel_rfl) Try.func3 closed
    (of_decide_eq_true (by kernel_rfl)) (by unfold Func.isWrapper; first | (rw [if_pos (by decide +kernel)]; kernel_rfl) | (rw [if_neg (by decide +kernel)]; exact ⟨rfl, rfl⟩))
    (fun os started H enc _ => lifted os started H enc)

theorem proved : Rows.FnExactAllDropsSaid := over
#print axioms proved
end Go.Proofs.Ytfaamogbkekjcaa.fnExactAllDrops
