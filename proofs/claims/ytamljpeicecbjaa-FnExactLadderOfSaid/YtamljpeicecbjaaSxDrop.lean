/- Contracts whose names read but the arguments from the k-th one on. No condition. -/
import Derived.Test.YtamljpeicecbjaaSxLite
import Derived.Test.YtamljpeicecbjaaSxIter
set_option linter.unusedVariables false
set_option linter.unusedSimpArgs false
noncomputable section
namespace Go.Sx
open Go
theorem varsL_get : ∀ {m n i : Nat} {t : Tm}, (varsL m n)[i]? = some t → i < m ∧ t = .var (n + i)
  | 0, _, _, _, h => by simp [varsL] at h
  | m + 1, n, 0, t, h => by simp [varsL] at h; subst h; exact ⟨by omega, rfl⟩
  | m + 1, n, i + 1, t, h => by
    obtain ⟨h1, h2⟩ := varsL_get (m := m) (n := n + 1) (i := i) (by simpa [varsL] using h)
    exact ⟨by omega, by rw [h2, show n + 1 + i = n + (i + 1) by omega]⟩
def sumRk (ps : List Pa) (as : PC) (rp : Rp) (N id k : Nat) (els : Sum) : Sum := sumQ ps as (fun ts => mkR rp (nths (.app id (listT (ts.drop k))) N 0)) els
theorem sumRk_ok {P : Program} {E : Env} {ctx : Ctx} {n f N id k w : Nat} {ps : List Pa} {as pcx : PC} {rp : Rp} {D : Tm} {els : Sum} (hC : ∀ E' : Env, E'.fn = E.fn → CtxOk P E' ctx ∧ CtxPc E' ctx)
    (hN : Named P) (hmix : P.follows .mixedOrders = true) (hD : ∀ c, E.fn id c = D.den ⟨fun i => c.at_ i, E.fn⟩)
    (hj : ((Nat.ble (bldP ps 0 0).j 1000 && undersF (bldP ps 0 0).n as) && ((D.under w && Nat.beq N (sizeR rp.2)) && Nat.beq (bldP ps 0 0).n (k + w))) = true)
    (hx : ∀ E' : Env, E'.fn = E.fn → PcOk E' as → PcOk E' pcx)
    (hk : treeIs rp (callQ P ctx n f ps pcx) (D.subst (varsL w k)) = true) (hels : SumOk P E f els) : SumOk P E f (sumRk ps as rp N id k els) := by
  simp only [Bool.and_eq_true] at hj
  obtain ⟨⟨j1, j2⟩, ⟨j3, j4⟩, j5⟩ := hj
  have hw := Nat.eq_of_beq_eq_true j5
  refine sumW_ok (n := n) hC hN hmix (by simp only [j1, j2, Bool.and_self]) hx (fun E' ts hfn has hp hn hE => ?_) hels
  unfold treeIs at hk
  split at hk
  · rename_i T' hT'
    have e := Tm.beq_eq hk
    subst e
    obtain ⟨r, cs, h1, h2, h3⟩ := treeT_sel (E := E') hT'
    refine ⟨r, h1, fun β' β v hv => ?_⟩
    have hlen := unR_length h2
    have hN' : N = sizeR rp.2 := Nat.eq_of_beq_eq_true j4
    refine unR_rep h2 hv ⟨by rw [nths_length]; omega, fun i t u g1 g2 => ?_⟩
    have eu := nths_get g2
    rw [Nat.zero_add] at eu
    subst eu
    simp only [Tm.den]
    rw [hD]
    have e2 : (D.subst (varsL w k)).den E' = D.den ⟨fun i => ((listT (ts.drop k)).den E).at_ i, E.fn⟩ := subst_den (E := E') (E' := ⟨fun i => ((listT (ts.drop k)).den E).at_ i, E.fn⟩) (fun i t ht => by
      obtain ⟨q1, rfl⟩ := varsL_get ht
      have hlt : k + i < ts.length := by omega
      have g : (ts.drop k)[i]? = some ts[k + i] := by rw [List.getElem?_drop]; exact List.getElem?_eq_getElem hlt
      show ((listT (ts.drop k)).den E).at_ i = E'.v (k + i)
      rw [hE (k + i) _ (List.getElem?_eq_getElem hlt)]
      exact listT_at g) (by rw [hfn]) (by rw [varsL_length]; exact j3)
    rw [← e2, h3]
    exact listT_at g1
  · cases hk
end Go.Sx
