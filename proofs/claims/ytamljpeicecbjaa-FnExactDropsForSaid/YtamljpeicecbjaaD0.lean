/- The drops for parts: what is assumed, the loops' names, the answers' terms. No condition. -/
import Derived.Test.YtamljpeicecbjaaDf
import Derived.Test.YtamljpeicecbjaaMx
set_option linter.unusedVariables false
set_option linter.unusedSimpArgs false
set_option maxRecDepth 100000
noncomputable section
namespace Go.Proofs.Ytamljpeicecbjaa.Leaf
open Go.Sx
def paD (n : Nat) : List Pa := [.aggS n pgs t6, .agg f6, .sc i64]
def rpD : Rp := (true, [(true, d6), (false, [.int .i64])])
def totD (n : Nat) : PC := [(.op .lei (.il 1) (.var (12 + 34 * n)), true), (.op .lei (.var (12 + 34 * n)) (.il 1000), true)]
def posD (n i : Nat) : Tm := .op (.flt .f32) (.fl 0) (.var (6 + 34 * n + i))
def asD (n i : Nat) : PC := asM n ++ (totD n ++ [(posD n i, true)])
def pcD (n i : Nat) : PC := asM n ++ ((posD n i, true) :: (.op (.feq .f32) (.var (6 + 34 * n + i)) (.fl 0), false) :: totD n)
theorem pcD_ok {n i : Nat} (E : Env) (h : PcOk E (asD n i)) : PcOk E (pcD n i) := by
  have h1 : PcOk E (asM n) := fun p hp => h p (List.mem_append.2 (.inl hp))
  have h2 : PcOk E (totD n) := fun p hp => h p (List.mem_append.2 (.inr (List.mem_append.2 (.inl hp))))
  have h3 : ((posD n i).den E).toB = true := h (posD n i, true) (List.mem_append.2 (.inr (List.mem_append.2 (.inr (List.mem_cons_self ..)))))
  refine pc_append h1 ((h2.cons ?_).cons h3)
  exact (lt0_eq0 .f32 (E.v (6 + 34 * n + i)).toF).2.1 h3
def cxI (n : Nat) : Ctx := withLoops (withAp cxP) Try.prog 1000 [(18, DL n plI)]
def cxS (n : Nat) : Ctx := withLoops (withAp cxP) Try.prog 1000 [(24, DL n plS)]
def oI (n i : Nat) : Out Res := callQ Try.prog (cxI n) 1000 88 (paD n) (pcD n i)
def oS (n i : Nat) : Out Res := callQ Try.prog (cxS n) 1000 87 (paD n) (pcD n i)
def PD (n : Nat) : Tm := (treeT rpD (oI n 0)).getD .nil
def baseP : Nat → Nat → Sc → Sc
  | 0 => F1
  | n + 1 => fun k c => if k = 931 + n then loopN (DL (n + 1) plI) (13 + 34 * (n + 1)) (buildF (baseP n) Ds) c else baseP n k c
theorem baseP_lo {n : Nat} : ∀ {m k : Nat}, n ≤ m → k < 931 + n → baseP m k = baseP n k
  | 0, k, h, _ => by have : n = 0 := by omega
                     subst this; rfl
  | m + 1, k, h, hk => by
    by_cases e : n = m + 1
    · subst e; rfl
    · funext c
      have : ¬ k = 931 + m := by omega
      show (if k = 931 + m then _ else baseP m k c) = _
      rw [if_neg this, baseP_lo (m := m) (by omega) hk]
theorem baseP_at {n : Nat} : ∀ {m : Nat}, n < m → ∀ c, baseP m (931 + n) c = loopN (DL (n + 1) plI) (13 + 34 * (n + 1)) (buildF (baseP n) Ds) c
  | m + 1, h, c => by
    by_cases e : n = m
    · subst e
      show (if 931 + n = 931 + n then _ else _) = _
      rw [if_pos rfl]
    · show (if 931 + n = 931 + m then _ else baseP m (931 + n) c) = _
      rw [if_neg (by omega)]
      exact baseP_at (m := m) (by omega) c
theorem buildF_eqP {F F' : Nat → Sc → Sc} {B : Nat} (h : ∀ k, k < B → F k = F' k) : ∀ {l : List (Nat × Tm)} {b : Nat}, defsAsc l b = true → b ≤ B → ∀ k, k < B → buildF F l k = buildF F' l k
  | [], _, _, _, k, hk => by funext c; exact congrFun (h k hk) c
  | (id, D) :: r, b, ha, hb, k, hk => by
    simp only [defsAsc] at ha
    split at ha
    · rename_i h1 h2
      have hlt : id < b := by simp only [Nat.blt] at h1; exact Nat.le_of_ble_eq_true h1
      have ih := buildF_eqP h (l := r) (b := id) ha (by omega)
      funext c
      simp only [buildF]
      split
      · have hx : ∀ k, k < id → buildF F r k = buildF F' r k := fun k hk => ih k (by omega)
        exact apps_den (v := fun i => c.at_ i) hx h2
      · exact congrFun (ih k hk) c
    · cases ha
theorem buildF_skip {F : Nat → Sc → Sc} {id k : Nat} {D : Tm} {r : List (Nat × Tm)} (h : k ≠ id) : buildF F ((id, D) :: r) k = buildF F r k := by
  funext c
  simp only [buildF]
  rw [if_neg h]
theorem defsAsc_cons {id b : Nat} {D : Tm} {r : List (Nat × Tm)} (h1 : Nat.blt id b = true) (h2 : D.appsLt id = true) (h3 : defsAsc r id = true) : defsAsc ((id, D) :: r) b = true := by
  simp only [defsAsc, h1, h2, h3]
theorem DL_rounds {E : Env} {n : Nat} {p q : List Sx.Place} {v z : List Sc} (h : Rounds (DL n p) E v z) : Rounds (DL n q) E v z := by
  induction h with
  | stop h1 h2 => exact .stop (S := DL n q) h1 h2
  | more h1 h2 _ ih => exact .more (S := DL n q) h1 h2 ih
end Go.Proofs.Ytamljpeicecbjaa.Leaf
