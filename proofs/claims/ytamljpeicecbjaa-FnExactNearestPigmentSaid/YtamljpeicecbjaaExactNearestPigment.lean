/- 'FnExactNearestPigment': for every way in which a slice may come, the tree that the executor reckons of the law is true at each leaf; the row's frame. No condition. -/
import Derived.Test.YtamljpeicecbjaaRows
import Derived.Test.YtamljpeicecbjaaTh
import Derived.Test.YtamljpeicecbjaaSxLawX
import Derived.Test.YtamljpeicecbjaaDoor
import Derived.WalkKit
import Derived.ProofKit
import Derived.OpenShut
import Derived.ShutString
import Derived.ChangeOld
namespace Go.Proofs.Ytamljpeicecbjaa.fnExactNearestPigment
open Go.ChangeShapes Go.WideShapes Go.ChangeAt Go.RowKit
set_option linter.unusedVariables false
set_option maxRecDepth 100000

/-- The least distances so far, each a name of its own. -/
def npD (m : Nat) : Nat → Nat → Nat → Go.Sx.Tm → Go.Sx.Tm → List Go.Sx.Tm
  | 0, _, _, _, _ => []
  | k + 1, i, b, best, least =>
    let th := Go.Sx.Tm.app 20 (Go.Sx.listT (Go.Proofs.Ytamljpeicecbjaa.Leaf.vars 16 (34 * i + 1) ++ Go.Proofs.Ytamljpeicecbjaa.Leaf.vars 16 (34 * i + 17)))
    let off := Go.Sx.Tm.nth 0 (.app 21 (Go.Sx.listT (Go.Sx.nths th 16 0 ++ Go.Proofs.Ytamljpeicecbjaa.Leaf.vars 16 (34 * m + 6))))
    let near := Go.Sx.mkIteB (Go.Sx.mkCmp .lti (.il 0) best) (.bl true) (.op (.flt .f32) off least)
    let c := Go.Sx.mkIteB (.op .eqi (.nth 16 th) (.il 0)) (Go.Sx.mkIteB (.op (.ffin .f32) off .nil) near (.bl false)) (.bl false)
    Go.Sx.mkIte c off least :: npD m k (i + 1) (b + 1) (Go.Sx.mkIte c (.il i) best) (.var b)
def npDs : List Go.Sx.Tm := npD 1 1 0 100000 (.il (-1)) (.fl 0) ++ npD 2 2 0 100001 (.il (-1)) (.fl 0) ++ npD 3 3 0 100003 (.il (-1)) (.fl 0) ++ npD 4 4 0 100006 (.il (-1)) (.fl 0) ++ npD 5 5 0 100010 (.il (-1)) (.fl 0) ++ npD 6 6 0 100015 (.il (-1)) (.fl 0)
def npB (m : Nat) : Nat → Nat → Nat → Go.Sx.Tm → Go.Sx.Tm → Go.Sx.Tm
  | 0, _, _, best, _ => best
  | k + 1, i, b, best, least =>
    let th := Go.Sx.Tm.app 20 (Go.Sx.listT (Go.Proofs.Ytamljpeicecbjaa.Leaf.vars 16 (34 * i + 1) ++ Go.Proofs.Ytamljpeicecbjaa.Leaf.vars 16 (34 * i + 17)))
    let off := Go.Sx.Tm.nth 0 (.app 21 (Go.Sx.listT (Go.Sx.nths th 16 0 ++ Go.Proofs.Ytamljpeicecbjaa.Leaf.vars 16 (34 * m + 6))))
    let near := Go.Sx.mkIteB (Go.Sx.mkCmp .lti (.il 0) best) (.bl true) (.op (.flt .f32) off least)
    let c := Go.Sx.mkIteB (.op .eqi (.nth 16 th) (.il 0)) (Go.Sx.mkIteB (.op (.ffin .f32) off .nil) near (.bl false)) (.bl false)
    npB m k (i + 1) (b + 1) (Go.Sx.mkIte c (.il i) best) (.var b)
def okT : Go.Sx.Tm := .app 16 (Go.Sx.listT (Go.Proofs.Ytamljpeicecbjaa.Leaf.vars 6 204 ++ Go.Proofs.Ytamljpeicecbjaa.Leaf.vars 204 0))
def noneT : Go.Sx.Tm := Go.Sx.mkCmp .lti (.il 0) (npB 6 6 0 100015 (.il (-1)) (.fl 0))
theorem own : ownKnob Try.prog.godebug = none := by kernel_rfl
theorem laidOut : laidOutB Try.prog = true := by kernel_rfl
theorem named : (Try.prog.funcs.toList.all fun fn => !(fn.name == "runtime.NumGoroutine")) = true := by kernel_rfl
theorem mixed : Try.prog.follows .mixedOrders = true := by kernel_rfl
theorem rowsOf : (Go.Sx.cksAll Try.prog [36, 23]).map (fun x => Go.Sx.rows x.1) = some 1 := by kernel_rfl
theorem t_0 : Go.Sx.treeX Try.prog Go.Proofs.Ytamljpeicecbjaa.LeafT.cxB 1000 23 6 [36, 23] [0] 100000 npDs [] = true := by kernel_rfl
theorem t_1 : Go.Sx.treeX Try.prog Go.Proofs.Ytamljpeicecbjaa.LeafT.cxB 1000 23 6 [36, 23] [1] 100000 npDs [] = true := by kernel_rfl
theorem t_2 : Go.Sx.treeX Try.prog Go.Proofs.Ytamljpeicecbjaa.LeafT.cxB 1000 23 6 [36, 23] [2] 100000 npDs [] = true := by kernel_rfl
theorem t_3 : Go.Sx.treeX Try.prog Go.Proofs.Ytamljpeicecbjaa.LeafT.cxB 1000 23 6 [36, 23] [3] 100000 npDs [] = true := by kernel_rfl
theorem t_4 : Go.Sx.treeX Try.prog Go.Proofs.Ytamljpeicecbjaa.LeafT.cxB 1000 23 6 [36, 23] [4] 100000 npDs [] = true := by kernel_rfl
theorem t_5 : Go.Sx.treeX Try.prog Go.Proofs.Ytamljpeicecbjaa.LeafT.cxB 1000 23 6 [36, 23] [5] 100000 npDs [] = true := by kernel_rfl
theorem t_6 : Go.Sx.treeX Try.prog Go.Proofs.Ytamljpeicecbjaa.LeafT.cxB 1000 23 6 [36, 23] [6] 100000 npDs [] = true := by kernel_rfl
theorem t_8 : Go.Sx.treeX Try.prog Go.Proofs.Ytamljpeicecbjaa.LeafT.cxB 1000 23 6 [36, 23] [8] 100000 npDs [] = true := by kernel_rfl
theorem t_7a : Go.Sx.treeX Try.prog Go.Proofs.Ytamljpeicecbjaa.LeafT.cxB 1000 23 6 [36, 23] [7] 100000 npDs [(okT, false)] = true := by kernel_rfl
theorem t_7b : Go.Sx.treeX Try.prog Go.Proofs.Ytamljpeicecbjaa.LeafT.cxB 1000 23 6 [36, 23] [7] 100000 npDs [(noneT, true), (okT, true)] = true := by kernel_rfl
theorem t_7c : Go.Sx.treeX Try.prog Go.Proofs.Ytamljpeicecbjaa.LeafT.cxB 1000 23 6 [36, 23] [7] 100000 npDs [(noneT, false), (okT, true)] = true := by kernel_rfl
theorem trees (ws : List Nat) (h1 : ws.length = 1) (h2 : ∀ x, x ∈ ws → x ≤ 8) (E : Go.Sx.Env) (_ : E.fn = Go.Proofs.Ytamljpeicecbjaa.Leaf.F3) : ∃ cs, Go.Sx.PcOk E cs ∧ Go.Sx.treeX Try.prog Go.Proofs.Ytamljpeicecbjaa.LeafT.cxB 1000 23 6 [36, 23] ws 100000 npDs cs = true := by
  have e0 : Go.Sx.PcOk E [] := fun p hp => by cases hp
  match ws, h1 with
  | [x0], _ =>
    have hx0 := h2 x0 (by simp)
    match x0, hx0 with
    | 0, _ => exact ⟨[], e0, t_0⟩
    | 1, _ => exact ⟨[], e0, t_1⟩
    | 2, _ => exact ⟨[], e0, t_2⟩
    | 3, _ => exact ⟨[], e0, t_3⟩
    | 4, _ => exact ⟨[], e0, t_4⟩
    | 5, _ => exact ⟨[], e0, t_5⟩
    | 6, _ => exact ⟨[], e0, t_6⟩
    | 7, _ => exact Go.Sx.case2 okT e0 (fun h => Go.Sx.case2 noneT h (fun h => ⟨_, h, t_7b⟩) (fun h => ⟨_, h, t_7c⟩)) (fun h => ⟨_, h, t_7a⟩)
    | 8, _ => exact ⟨[], e0, t_8⟩
    | n + 9, h => exact absurd h (by omega)

theorem lifted (os : Os) (started : os.Started) (H : Type) (enc : TypeId × Value → H) :
    ReturnsInHanded {} Try.checked os 23 .any (Rows.fnExactNearestPigmentSpec.pre6 enc Try.prog Try.f23 Rows.fnExactNearestPigmentRow.domain false) (Rows.fnExactNearestPigmentSpec.post enc Try.prog Try.f23 false true false false) := by
  refine returnsInHanded_of_change (C := Try.checked) own started (by kernel_rfl) Try.func23
    (ChangeSpec.witness6 (enc := enc) (C := Try.checked) false ⟨#[], #[.agg #[.slice none 0 0, .int .i32 0, .int .i32 0, .int .i32 0, .int .i32 0, .int .i32 0, .int .i32 0], .agg #[.float .f32 0, .float .f32 0, .float .f32 0, .float .f32 0, .float .f32 0, .float .f32 0, .float .f32 0, .float .f32 0, .float .f32 0, .float .f32 0, .float .f32 0, .float .f32 0, .float .f32 0, .float .f32 0, .float .f32 0, .float .f32 0]], []⟩ 8 (by kernel_rfl) (by kernel_rfl) (by kernel_rfl) (by kernel_rfl)) ?_
  intro W base args ds gs before hval0 hW hcnd _
  have hval : ∀ (j : Nat) t v, Try.f23.params[j]? = some t → args[j]? = some v → Value.okWide Try.prog W .any base t v := hval0
  have hW' := hW
  obtain ⟨p, q, hA0, hV, rfl, hfz, hnd⟩ := hW
  have hA : DataW.TrodAll enc Try.prog W 0 (fun _ => true) true Try.f23.params.toList args.toList ds p := hA0
  rw [Try.params23] at hA hval
  obtain ⟨rfl, rfl⟩ := trodVars_none hV
  have hA1 := hA
  obtain ⟨v0, vs0, d0, ds0, p0, q0, hargs, rfl, rfl, h0, r0⟩ := trodAll_cons hA
  obtain ⟨v1, vs1, d1, ds1, p1, q1, rfl, rfl, rfl, h1, r1⟩ := trodAll_cons r0
  obtain ⟨rfl, rfl, rfl⟩ := trodAll_nil r1
  obtain rfl : args = #[v0, v1] := by cases args; simp_all
  have lt0 : ∀ x ∈ p0, x.block < W.heap.size := by obtain ⟨m, hm⟩ := h0; exact DataW.trod_lt m _ _ _ hm
  have lt1 : ∀ x ∈ p1, x.block < W.heap.size := by obtain ⟨m, hm⟩ := h1; exact DataW.trod_lt m _ _ _ hm
  clear hA0 hval0
  refine (Go.Sx.law_holdsX (ts := [36, 23]) Go.Proofs.Ytamljpeicecbjaa.LeafT.cxB_ok named mixed Go.Proofs.Ytamljpeicecbjaa.LeafT.F2_900 rowsOf trees hval hA1).mono fun e W' ⟨he, bel⟩ => ?_
  subst he
  exact ⟨_, rfl, _, _, _, [], _, [], hW', trodAll_mk1 (shut_bool Try.underlying4 _), (trodAll_cons_mk (Below.trod laidOut (by kernel_rfl) (of_decide_eq_true (by kernel_rfl)) h0 bel lt0) (trodAll_cons_mk (Below.trod laidOut (by kernel_rfl) (of_decide_eq_true (by kernel_rfl)) h1 bel lt1) trodAll_mk0)), rfl, bel.frame _, fun h => by cases h⟩

theorem closed : joinedFacts Try.prog 23 Try.f23 Rows.fnExactNearestPigmentSpec Rows.fnExactNearestPigmentRow = true := by
  unfold joinedFacts
  rw [Go.Proofs.Ytamljpeicecbjaa.Door.may, Go.Proofs.Ytamljpeicecbjaa.Door.lifts, Go.Proofs.Ytamljpeicecbjaa.Door.mk]
  kernel_rfl
theorem over : Rows.fnExactNearestPigmentRow.holds Try.pinned (OpenSpec.ofChange Rows.fnExactNearestPigmentSpec) :=
  OpenClaim.holds_of_wide 23 Try.f23 rfl rfl rfl rfl rfl rfl rfl ⟨rfl, rfl, rfl, rfl, rfl⟩ rfl rfl rfl rfl rfl (by kernel_rfl) Try.func23 closed
    (of_decide_eq_true (by kernel_rfl)) (by unfold Func.isWrapper; first | (rw [if_pos (by decide +kernel)]; kernel_rfl) | (rw [if_neg (by decide +kernel)]; exact ⟨rfl, rfl⟩))
    (fun os started H enc _ => lifted os started H enc)

theorem proved : Rows.FnExactNearestPigmentSaid := over
#print axioms proved
end Go.Proofs.Ytamljpeicecbjaa.fnExactNearestPigment
