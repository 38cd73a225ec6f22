/- 'FnExactBestDrops': for every way in which the shelf may come, the tree that the executor reckons of the law is true at each leaf; the row's frame. No condition. -/
import Derived.Test.YtfdpcmijifdfeaaGreatRows
import Derived.Test.YtfdpcmijifdfeaaGreatLb
import Derived.WalkKit
import Derived.ProofKit
import Derived.OpenShut
import Derived.ShutString
import Derived.ChangeOld
namespace Go.Proofs.YtfdpcmijifdfeaaGreat.fnExactBestDrops
open Go.ChangeShapes Go.WideShapes Go.ChangeAt Go.RowKit
set_option linter.unusedVariables false
set_option maxRecDepth 100000

theorem own : ownKnob Tryz.prog.godebug = none := by kernel_rfl
theorem laidOut : laidOutB Tryz.prog = true := by kernel_rfl
theorem named : (Tryz.prog.funcs.toList.all fun fn => !(fn.name == "runtime.NumGoroutine")) = true := by kernel_rfl
theorem mixed : Tryz.prog.follows .mixedOrders = true := by kernel_rfl
theorem rowsOf : (Go.Sx.cksAll Tryz.prog [25, 29, 2]).map (fun x => Go.Sx.rows x.1) = some 1 := by kernel_rfl
theorem t_0 : Go.Sx.treeX Tryz.prog (Go.Proofs.YtfdpcmijifdfeaaGreat.Leaf.cxBw 0) 1000 5 6 [25, 29, 2] [0] 100000 [] [] = true := by kernel_rfl
theorem t_1 : Go.Sx.treeX Tryz.prog (Go.Proofs.YtfdpcmijifdfeaaGreat.Leaf.cxBw 1) 1000 5 6 [25, 29, 2] [1] 100000 [] [] = true := by kernel_rfl
theorem t_2 : Go.Sx.treeX Tryz.prog (Go.Proofs.YtfdpcmijifdfeaaGreat.Leaf.cxBw 2) 1000 5 6 [25, 29, 2] [2] 100000 [] [] = true := by kernel_rfl
theorem t_3 : Go.Sx.treeX Tryz.prog (Go.Proofs.YtfdpcmijifdfeaaGreat.Leaf.cxBw 3) 1000 5 6 [25, 29, 2] [3] 100000 [] [] = true := by kernel_rfl
theorem t_4 : Go.Sx.treeX Tryz.prog (Go.Proofs.YtfdpcmijifdfeaaGreat.Leaf.cxBw 4) 1000 5 6 [25, 29, 2] [4] 100000 [] [] = true := by kernel_rfl
theorem t_5 : Go.Sx.treeX Tryz.prog (Go.Proofs.YtfdpcmijifdfeaaGreat.Leaf.cxBw 5) 1000 5 6 [25, 29, 2] [5] 100000 [] [] = true := by kernel_rfl
theorem t_6 : Go.Sx.treeX Tryz.prog (Go.Proofs.YtfdpcmijifdfeaaGreat.Leaf.cxBw 6) 1000 5 6 [25, 29, 2] [6] 100000 [] [] = true := by kernel_rfl
theorem t_7 : Go.Sx.treeX Tryz.prog (Go.Proofs.YtfdpcmijifdfeaaGreat.Leaf.cxBw 7) 1000 5 6 [25, 29, 2] [7] 100000 [] [] = true := by kernel_rfl
theorem t_8 : Go.Sx.treeX Tryz.prog (Go.Proofs.YtfdpcmijifdfeaaGreat.Leaf.cxBw 8) 1000 5 6 [25, 29, 2] [8] 100000 [] [] = true := by kernel_rfl
theorem all (w : Nat) (h : w ≤ 8) : Go.Sx.treeX Tryz.prog (Go.Proofs.YtfdpcmijifdfeaaGreat.Leaf.cxBw w) 1000 5 6 [25, 29, 2] [w] 100000 [] [] = true := by
  match w, h with
  | 0, _ => exact t_0
  | 1, _ => exact t_1
  | 2, _ => exact t_2
  | 3, _ => exact t_3
  | 4, _ => exact t_4
  | 5, _ => exact t_5
  | 6, _ => exact t_6
  | 7, _ => exact t_7
  | 8, _ => exact t_8
  | w + 9, h => exact absurd h (by omega)
theorem trees (ws : List Nat) (h1 : ws.length = 1) (h2 : ∀ x, x ∈ ws → x ≤ 8) (E : Go.Sx.Env) (hE : E.fn = Go.Proofs.YtfdpcmijifdfeaaGreat.Leaf.FB) : Go.Sx.CaseOk Tryz.prog E 1000 5 6 [25, 29, 2] ws 100000 [] := by
  match ws, h1 with
  | [w], _ => exact ⟨_, [], Go.Proofs.YtfdpcmijifdfeaaGreat.Leaf.cxBw_ok (by rw [hE]; exact Go.Proofs.YtfdpcmijifdfeaaGreat.Leaf.FokB_FB) w, (fun p hp => by cases hp), all w (h2 w (by simp))⟩

theorem lifted (os : Os) (started : os.Started) (H : Type) (enc : TypeId × Value → H) :
    ReturnsInHanded {} Tryz.checked os 5 .any (Rows.fnExactBestDropsSpec.pre6 enc Tryz.prog Tryz.f5 Rows.fnExactBestDropsRow.domain false) (Rows.fnExactBestDropsSpec.post enc Tryz.prog Tryz.f5 false true false false) := by
  refine returnsInHanded_of_change (C := Tryz.checked) own started (by kernel_rfl) Tryz.func5
    (ChangeSpec.witness6 (enc := enc) (C := Tryz.checked) false ⟨#[], #[.agg #[.slice none 0 0, .int .i32 0, .int .i32 0, .int .i32 0, .int .i32 0, .int .i32 0, .int .i32 0], .agg #[.float .f32 0, .float .f32 0, .float .f32 0, .float .f32 0, .float .f32 0, .float .f32 0, .float .f32 0, .float .f32 0, .float .f32 0, .float .f32 0, .float .f32 0, .float .f32 0, .float .f32 0, .float .f32 0, .float .f32 0, .float .f32 0], .int .i64 0], []⟩ 8 (by kernel_rfl) (by kernel_rfl) (by kernel_rfl) (by kernel_rfl)) ?_
  intro W base args ds gs before hval0 hW hcnd _
  have hval : ∀ (j : Nat) t v, Tryz.f5.params[j]? = some t → args[j]? = some v → Value.okWide Tryz.prog W .any base t v := hval0
  have hW' := hW
  obtain ⟨p, q, hA0, hV, rfl, hfz, hnd⟩ := hW
  have hA : DataW.TrodAll enc Tryz.prog W 0 (fun _ => true) true Tryz.f5.params.toList args.toList ds p := hA0
  rw [Tryz.params5] at hA hval
  obtain ⟨rfl, rfl⟩ := trodVars_none hV
  have hA1 := hA
  obtain ⟨v0, vs0, d0, ds0, p0, q0, hargs, rfl, rfl, h0, r0⟩ := trodAll_cons hA
  obtain ⟨v1, vs1, d1, ds1, p1, q1, rfl, rfl, rfl, h1, r1⟩ := trodAll_cons r0
  obtain ⟨v2, vs2, d2, ds2, p2, q2, rfl, rfl, rfl, h2, r2⟩ := trodAll_cons r1
  obtain ⟨rfl, rfl, rfl⟩ := trodAll_nil r2
  obtain rfl : args = #[v0, v1, v2] := by cases args; simp_all
  have lt0 : ∀ x ∈ p0, x.block < W.heap.size := by obtain ⟨m, hm⟩ := h0; exact DataW.trod_lt m _ _ _ hm
  have lt1 : ∀ x ∈ p1, x.block < W.heap.size := by obtain ⟨m, hm⟩ := h1; exact DataW.trod_lt m _ _ _ hm
  have lt2 : ∀ x ∈ p2, x.block < W.heap.size := by obtain ⟨m, hm⟩ := h2; exact DataW.trod_lt m _ _ _ hm
  clear hA0 hval0
  refine (Go.Sx.law_holdsC (F := Go.Proofs.YtfdpcmijifdfeaaGreat.Leaf.FB) (ts := [25, 29, 2]) named mixed Go.Proofs.YtfdpcmijifdfeaaGreat.LeafB.F2_900 rowsOf trees hval hA1).mono fun e W' ⟨he, bel⟩ => ?_
  subst he
  exact ⟨_, rfl, _, _, _, [], _, [], hW', trodAll_mk1 (shut_bool Tryz.underlying4 _), (trodAll_cons_mk (Below.trod laidOut (by kernel_rfl) (of_decide_eq_true (by kernel_rfl)) h0 bel lt0) (trodAll_cons_mk (Below.trod laidOut (by kernel_rfl) (of_decide_eq_true (by kernel_rfl)) h1 bel lt1) (trodAll_cons_mk (Below.trod laidOut (by kernel_rfl) (of_decide_eq_true (by kernel_rfl)) h2 bel lt2) trodAll_mk0))), rfl, bel.frame _, fun h => by cases h⟩

theorem closed : joinedFacts Tryz.prog 5 Tryz.f5 Rows.fnExactBestDropsSpec Rows.fnExactBestDropsRow = true := by kernel_rfl
theorem over : Rows.fnExactBestDropsRow.holds Tryz.pinned (OpenSpec.ofChange Rows.fnExactBestDropsSpec) :=
  OpenClaim.holds_of_wide 5 Tryz.f5 rfl rfl rfl rfl rfl rfl rfl ⟨rfl, rfl, rfl, rfl, rfl⟩ rfl rfl rfl rfl rfl (by kernel_rfl) Tryz.func5 closed
    (of_decide_eq_true (by kernel_rfl)) (by unfold Func.isWrapper; first | (rw [if_pos (by decide +kernel)]; kernel_rfl) | (rw [if_neg (by decide +kernel)]; exact ⟨rfl, rfl⟩))
    (fun os started H enc _ => lifted os started H enc)

theorem proved : Rows.FnExactBestDropsSaid := over
#print axioms proved
end Go.Proofs.YtfdpcmijifdfeaaGreat.fnExactBestDrops
