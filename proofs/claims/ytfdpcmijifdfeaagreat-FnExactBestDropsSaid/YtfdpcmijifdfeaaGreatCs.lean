/- All contracts: shelves of any length. No condition. -/
import Derived.Test.YtfdpcmijifdfeaaGreatSh43
noncomputable section
namespace Go.Proofs.YtfdpcmijifdfeaaGreat.Leaf
open Go.Sx
set_option linter.unusedVariables false
set_option linter.unusedSimpArgs false
set_option maxRecDepth 100000
/-- A contract where it fits; else the executor's own reckoning. -/
noncomputable def orCall (fits : List SV → Mem → Option Nat) (S : Nat → Sum) (f : Nat) : Sum := fun args m pc => match fits args m.mem with
  | some n => S n args m pc
  | none => call (ctxL l4) Tryz.prog 1000 f args m pc
theorem orCall_ok {E : Env} (hE : Fok E.fn) {fits : List SV → Mem → Option Nat} {S : Nat → Sum} {f : Nat} (h : ∀ args mem n, fits args mem = some n → SumOk Tryz.prog E f (S n)) : SumOk Tryz.prog E f (orCall fits S f) := by
  intro args m pc r hr
  unfold orCall at hr
  split at hr
  · rename_i n hn; exact h _ _ n hn args m pc r hr
  · exact call_ok (c4 hE).1 (c4 hE).2 nm mixed 1000 f args m pc r hr
theorem orCall_pc {E : Env} (hE : Fok E.fn) {fits : List SV → Mem → Option Nat} {S : Nat → Sum} {f : Nat} (h : ∀ args mem n, fits args mem = some n → ∀ args m pc, PcOk E pc → Pcs E Res.pc (S n args m pc)) (args : List SV) (m : Mm) (pc : PC) (hp : PcOk E pc) : Pcs E Res.pc (orCall fits S f args m pc) := by
  unfold orCall
  split
  · rename_i n hn; exact h _ _ n hn args m pc hp
  · exact call_pc (c4 hE).2 1000 f args m pc hp
def isOs : List SV → Mem → Option Nat
  | .os _ _ _ :: _, _ => some 0
  | _, _ => none
def in16 (n : Nat) : Option Nat := match Nat.ble 1 n, Nat.ble n 6 with
  | true, true => some n
  | _, _ => none
def shArg : List SV → Mem → Option Nat
  | [.agg (.sl _ _ n :: _)], _ => in16 n
  | _, _ => none
def shPtr : List SV → Mem → Option Nat
  | [.ptr j o], mem => match find mem j with
    | some sb => match cut sb.cs o 7 with
      | some (.sl _ _ n :: _) => in16 n
      | _ => none
    | none => none
  | _, _ => none
theorem in16_ok {n k : Nat} (h : in16 n = some k) : 1 ≤ k ∧ k ≤ 6 := by
  unfold in16 at h
  split at h
  · rename_i h1 h2; cases h; exact ⟨Nat.le_of_ble_eq_true h1, Nat.le_of_ble_eq_true h2⟩
  · cases h
theorem shArg_ok {args : List SV} {mem : Mem} {k : Nat} (h : shArg args mem = some k) : 1 ≤ k ∧ k ≤ 6 := by
  unfold shArg at h
  split at h
  · exact in16_ok h
  · cases h
theorem shPtr_ok {args : List SV} {mem : Mem} {k : Nat} (h : shPtr args mem = some k) : 1 ≤ k ∧ k ≤ 6 := by
  unfold shPtr at h
  split at h
  · split at h
    · split at h
      · exact in16_ok h
      · cases h
    · cases h
  · cases h
noncomputable def l5 : List (Nat × Sum) := (43, orCall shArg (fun n => sumA [.aggS n pgs t6] .bool (10 + n)) 43) :: (41, orCall shPtr (fun n => sumA [.ptS n pgs t6] .bool (10 + n)) 41) ::
  (24, orCall isOs (fun _ => szC) 24) :: (29, orCall isOs (fun _ => toC) 29) :: (36, orCall isOs (fun _ => eqC) 36) :: l4
noncomputable def cxB : Ctx := ctxL (orL (ctxL l3) Tryz.prog 1000 l5)
theorem cxB_okF {E : Env} (hE : Fok E.fn) : CtxOk Tryz.prog E cxB ∧ CtxPc E cxB := by
  have h9 : ∀ c, E.fn 900 c = F900 c := hE.rows
  have h1 : ∀ c, E.fn 1 c = szSc c := hE.size
  exact orL_ok nm mixed (ctxL_cons (ctxL_cons (ctxL_cons (ctxL_cons (ctxL_cons (c4 hE)
    (orCall_ok hE fun _ _ _ _ => eqC_ok h9) (orCall_pc hE fun _ _ _ _ => eqC_pc))
    (orCall_ok hE fun _ _ _ _ => toC_ok h9) (orCall_pc hE fun _ _ _ _ => toC_pc))
    (orCall_ok hE fun _ _ _ _ => szC_ok h9 h1) (orCall_pc hE fun _ _ _ _ => szC_pc))
    (orCall_ok hE fun _ _ n hn => s132 hE n (shPtr_ok hn).1 (shPtr_ok hn).2) (orCall_pc hE fun _ _ _ _ => sumP_pc))
    (orCall_ok hE fun _ _ n hn => s43 hE n (shArg_ok hn).1 (shArg_ok hn).2) (orCall_pc hE fun _ _ _ _ => sumP_pc)) (c3 hE)
theorem cxB_ok : ∀ E : Env, E.fn = F2 → CtxOk Tryz.prog E cxB ∧ CtxPc E cxB := fun E hE => cxB_okF (by rw [hE]; exact Fok_F2)
end Go.Proofs.YtfdpcmijifdfeaaGreat.Leaf
