/- 'FnExactLookOffOfParts': for every way in which a slice may come, the tree that the executor reckons of the law is true at each leaf; the row's frame. No condition. -/
import Derived.Test.YtamljpeicecbjaaGreatRows
import Derived.Test.YtamljpeicecbjaaGreatZx
import Derived.Test.YtamljpeicecbjaaGreatEntry
import Derived.WalkKit
import Derived.ProofKit
import Derived.OpenShut
import Derived.ShutString
import Derived.ChangeOld
namespace Go.Proofs.YtamljpeicecbjaaGreat.fnExactLookOffOfParts
open Go.ChangeShapes Go.WideShapes Go.ChangeAt Go.RowKit
set_option linter.unusedVariables false
set_option maxRecDepth 100000

theorem own : ownKnob Tryz.prog.godebug = none := by kernel_rfl
theorem laidOut : laidOutB Tryz.prog = true := by kernel_rfl
theorem named : (Tryz.prog.funcs.toList.all fun fn => !(fn.name == "runtime.NumGoroutine")) = true := by kernel_rfl
theorem mixed : Tryz.prog.follows .mixedOrders = true := by kernel_rfl
theorem rowsOf : (Go.Sx.cksAll Tryz.prog [25, 56, 29, 31]).map (fun x => Go.Sx.rows x.1) = some 1 := by kernel_rfl
theorem t_0 : Go.Sx.treeD Tryz.prog Go.Proofs.YtamljpeicecbjaaGreat.LeafZ.cxB 1000 7 6 [25, 56, 29, 31] [0] 100000 [] = true := by kernel_rfl
theorem t_1 : Go.Sx.treeD Tryz.prog Go.Proofs.YtamljpeicecbjaaGreat.LeafZ.cxB 1000 7 6 [25, 56, 29, 31] [1] 100000 [] = true := by kernel_rfl
theorem t_2 : Go.Sx.treeD Tryz.prog Go.Proofs.YtamljpeicecbjaaGreat.LeafZ.cxB 1000 7 6 [25, 56, 29, 31] [2] 100000 [] = true := by kernel_rfl
theorem t_3 : Go.Sx.treeD Tryz.prog Go.Proofs.YtamljpeicecbjaaGreat.LeafZ.cxB 1000 7 6 [25, 56, 29, 31] [3] 100000 [] = true := by kernel_rfl
theorem t_4 : Go.Sx.treeD Tryz.prog Go.Proofs.YtamljpeicecbjaaGreat.LeafZ.cxB 1000 7 6 [25, 56, 29, 31] [4] 100000 [] = true := by kernel_rfl
theorem t_5 : Go.Sx.treeD Tryz.prog Go.Proofs.YtamljpeicecbjaaGreat.LeafZ.cxB 1000 7 6 [25, 56, 29, 31] [5] 100000 [] = true := by kernel_rfl
theorem t_6 : Go.Sx.treeD Tryz.prog Go.Proofs.YtamljpeicecbjaaGreat.LeafZ.cxB 1000 7 6 [25, 56, 29, 31] [6] 100000 [] = true := by kernel_rfl
theorem t_7 : Go.Sx.treeD Tryz.prog Go.Proofs.YtamljpeicecbjaaGreat.LeafZ.cxB 1000 7 6 [25, 56, 29, 31] [7] 100000 [] = true := by kernel_rfl
theorem t_8 : Go.Sx.treeD Tryz.prog Go.Proofs.YtamljpeicecbjaaGreat.LeafZ.cxB 1000 7 6 [25, 56, 29, 31] [8] 100000 [] = true := by kernel_rfl
theorem trees (ws : List Nat) (h1 : ws.length = 1) (h2 : ∀ x, x ∈ ws → x ≤ 8) : Go.Sx.treeD Tryz.prog Go.Proofs.YtamljpeicecbjaaGreat.LeafZ.cxB 1000 7 6 [25, 56, 29, 31] ws 100000 [] = true := by
  match ws, h1 with
  | [x0], _ =>
    have hx0 := h2 x0 (by simp)
    match x0, hx0 with
    | 0, _ => exact t_0
    | 1, _ => exact t_1
    | 2, _ => exact t_2
    | 3, _ => exact t_3
    | 4, _ => exact t_4
    | 5, _ => exact t_5
    | 6, _ => exact t_6
    | 7, _ => exact t_7
    | 8, _ => exact t_8
    | n + 9, h => exact absurd h (by omega)

theorem lifted (os : Os) (started : os.Started) (H : Type) (enc : TypeId × Value → H) :
    ReturnsInHanded {} Tryz.checked os 7 .any (Rows.fnExactLookOffOfPartsSpec.pre6 enc Tryz.prog Tryz.f7 Rows.fnExactLookOffOfPartsRow.domain false) (Rows.fnExactLookOffOfPartsSpec.post enc Tryz.prog Tryz.f7 false true false false) := by
  refine returnsInHanded_of_change (C := Tryz.checked) own started (by kernel_rfl) Tryz.func7
    (ChangeSpec.witness6 (enc := enc) (C := Tryz.checked) false ⟨#[], #[.agg #[.slice none 0 0, .int .i32 0, .int .i32 0, .int .i32 0, .int .i32 0, .int .i32 0, .int .i32 0], .agg #[.float .f32 0, .float .f32 0, .float .f32 0, .float .f32 0, .float .f32 0, .float .f32 0], .agg #[.float .f32 0, .float .f32 0, .float .f32 0, .float .f32 0, .float .f32 0, .float .f32 0, .float .f32 0, .float .f32 0, .float .f32 0, .float .f32 0, .float .f32 0, .float .f32 0, .float .f32 0, .float .f32 0, .float .f32 0, .float .f32 0], .agg #[.float .f32 0, .float .f32 0, .float .f32 0]], []⟩ 8 (by kernel_rfl) (by kernel_rfl) (by kernel_rfl) (by kernel_rfl)) ?_
  intro W base args ds gs before hval0 hW hcnd _
  have hval : ∀ (j : Nat) t v, Tryz.f7.params[j]? = some t → args[j]? = some v → Value.okWide Tryz.prog W .any base t v := hval0
  have hW' := hW
  obtain ⟨p, q, hA0, hV, rfl, hfz, hnd⟩ := hW
  have hA : DataW.TrodAll enc Tryz.prog W 0 (fun _ => true) true Tryz.f7.params.toList args.toList ds p := hA0
  rw [Tryz.params7] at hA hval
  obtain ⟨rfl, rfl⟩ := trodVars_none hV
  have hA1 := hA
  obtain ⟨v0, vs0, d0, ds0, p0, q0, hargs, rfl, rfl, h0, r0⟩ := trodAll_cons hA
  obtain ⟨v1, vs1, d1, ds1, p1, q1, rfl, rfl, rfl, h1, r1⟩ := trodAll_cons r0
  obtain ⟨v2, vs2, d2, ds2, p2, q2, rfl, rfl, rfl, h2, r2⟩ := trodAll_cons r1
  obtain ⟨v3, vs3, d3, ds3, p3, q3, rfl, rfl, rfl, h3, r3⟩ := trodAll_cons r2
  obtain ⟨rfl, rfl, rfl⟩ := trodAll_nil r3
  obtain rfl : args = #[v0, v1, v2, v3] := by cases args; simp_all
  have lt0 : ∀ x ∈ p0, x.block < W.heap.size := by obtain ⟨m, hm⟩ := h0; exact DataW.trod_lt m _ _ _ hm
  have lt1 : ∀ x ∈ p1, x.block < W.heap.size := by obtain ⟨m, hm⟩ := h1; exact DataW.trod_lt m _ _ _ hm
  have lt2 : ∀ x ∈ p2, x.block < W.heap.size := by obtain ⟨m, hm⟩ := h2; exact DataW.trod_lt m _ _ _ hm
  have lt3 : ∀ x ∈ p3, x.block < W.heap.size := by obtain ⟨m, hm⟩ := h3; exact DataW.trod_lt m _ _ _ hm
  clear hA0 hval0
  refine (Go.Sx.law_holdsS (ts := [25, 56, 29, 31]) Go.Proofs.YtamljpeicecbjaaGreat.LeafZ.cxB_ok named mixed Go.Proofs.YtamljpeicecbjaaGreat.LeafZ.F2_900 rowsOf trees hval hA1).mono fun e W' ⟨he, bel⟩ => ?_
  subst he
  exact ⟨_, rfl, _, _, _, [], _, [], hW', trodAll_mk1 (shut_bool Tryz.underlying4 _), (trodAll_cons_mk (Below.trod laidOut (by kernel_rfl) (of_decide_eq_true (by kernel_rfl)) h0 bel lt0) (trodAll_cons_mk (Below.trod laidOut (by kernel_rfl) (of_decide_eq_true (by kernel_rfl)) h1 bel lt1) (trodAll_cons_mk (Below.trod laidOut (by kernel_rfl) (of_decide_eq_true (by kernel_rfl)) h2 bel lt2) (trodAll_cons_mk (Below.trod laidOut (by kernel_rfl) (of_decide_eq_true (by kernel_rfl)) h3 bel lt3) trodAll_mk0)))), rfl, bel.frame _, fun h => by cases h⟩

theorem closed : joinedFacts Tryz.prog 7 Tryz.f7 Rows.fnExactLookOffOfPartsSpec Rows.fnExactLookOffOfPartsRow = true := by
  unfold joinedFacts
  rw [Go.Proofs.YtamljpeicecbjaaGreat.Door.may, Go.Proofs.YtamljpeicecbjaaGreat.Door.lifts, Go.Proofs.YtamljpeicecbjaaGreat.Door.mk]
  kernel_rfl
theorem over : Rows.fnExactLookOffOfPartsRow.holds Tryz.pinned (OpenSpec.ofChange Rows.fnExactLookOffOfPartsSpec) :=
  OpenClaim.holds_of_wide 7 Tryz.f7 rfl rfl rfl rfl rfl rfl rfl ⟨rfl, rfl, rfl, rfl, rfl⟩ rfl rfl rfl rfl rfl (by kernel_rfl) Tryz.func7 closed
    (of_decide_eq_true (by kernel_rfl)) (by unfold Func.isWrapper; first | (rw [if_pos (by decide +kernel)]; kernel_rfl) | (rw [if_neg (by decide +kernel)]; exact ⟨rfl, rfl⟩))
    (fun os started H enc _ => lifted os started H enc)

theorem proved : Rows.FnExactLookOffOfPartsSaid := over
#print axioms proved
end Go.Proofs.YtamljpeicecbjaaGreat.fnExactLookOffOfParts
