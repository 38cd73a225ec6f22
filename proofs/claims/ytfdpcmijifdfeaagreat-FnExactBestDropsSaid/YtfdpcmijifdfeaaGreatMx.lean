/- What a valid shelf says of its pigments' amounts; the contracts of mixtures under what is known of the shelf and of the parts. No condition. -/
import Derived.Test.YtfdpcmijifdfeaaGreatCs
noncomputable section
namespace Go.Proofs.YtfdpcmijifdfeaaGreat.Leaf
open Go.Sx
set_option linter.unusedVariables false
set_option linter.unusedSimpArgs false
set_option maxRecDepth 100000

/-! What follows of a valid shelf -/
/-- A float is finite and not below nought. -/
def amF (t : Tm) : PC := [(.op (.fle .f32) (.fl 0) t, true), (.op (.ffin .f32) t .nil, true)]
def amFs : Nat → Nat → PC
  | 0, _ => []
  | m + 1, n => amF (.var n) ++ amFs m (n + 1)
/-- All amounts of the first m pigments, whose rows begin at n. -/
def shFs : Nat → Nat → PC
  | 0, _ => []
  | m + 1, n => amFs 32 (n + 1) ++ shFs m (n + 34)
theorem pc_append {E : Env} {a b : PC} (ha : PcOk E a) (hb : PcOk E b) : PcOk E (a ++ b) := fun p hp => by
  rcases List.mem_append.1 hp with hp | hp
  · exact ha p hp
  · exact hb p hp
theorem ite_true {c : Bool} {x : Sc} (h : (if c = true then x else Sc.b false).toB = true) : c = true ∧ x.toB = true := by
  cases c
  · simp at h
  · exact ⟨rfl, by simpa using h⟩
theorem ite_false {c : Bool} {x : Sc} (h : (if c = true then Sc.b false else x).toB = true) : x.toB = true := by
  cases c
  · simpa using h
  · simp at h
theorem dam_true {E : Env} {t : Tm} (h : ((Dam t).den E).toB = true) : PcOk E (amF t) := by
  obtain ⟨h1, h2⟩ := ite_true (c := (((Tm.op (.fle .f32) (.fl 0) t).den E).toB)) (x := (Tm.op (.ffin .f32) t .nil).den E) h
  intro p hp
  rcases List.mem_cons.1 hp with rfl | hp
  · exact h1
  · rcases List.mem_cons.1 hp with rfl | hp
    · exact h2
    · cases hp
theorem amT_true {E E' : Env} : ∀ {m n k : Nat}, ((amT m n).den E).toB = true → (∀ i, i < m → E.v (n + i) = E'.v (k + i)) → PcOk E' (amFs m k)
  | 0, n, k, _, _ => fun p hp => by cases hp
  | m + 1, n, k, h, hv => by
    simp only [amT, Tm.den] at h
    split at h
    · rename_i h1
      have h0 := hv 0 (by omega)
      rw [Nat.add_zero, Nat.add_zero] at h0
      refine pc_append (dam_true ?_) (amT_true (n := n + 1) h fun i hi => by
        have := hv (i + 1) (by omega)
        rwa [show n + (i + 1) = n + 1 + i by omega, show k + (i + 1) = k + 1 + i by omega] at this)
      unfold Dam at h1 ⊢
      simp only [Tm.den, h0] at h1 ⊢
      exact h1
    · simp at h
theorem vars_get : ∀ {m n i : Nat}, i < m → (vars m n)[i]? = some (.var (n + i))
  | m + 1, n, 0, _ => rfl
  | m + 1, n, i + 1, h => by
    have := vars_get (m := m) (n := n + 1) (i := i) (by omega)
    simp only [vars, List.getElem?_cons_succ]
    rw [this, show n + 1 + i = n + (i + 1) by omega]
theorem vars_at {E : Env} {m n i : Nat} (h : i < m) : ((listT (vars m n)).den E).at_ i = E.v (n + i) := by
  rw [listT_at (vars_get h)]; rfl
theorem pig_true {E E' : Env} (hE : Fok E'.fn) {k : Nat} (h : (E'.fn 4 ((listT (vars 34 k)).den E')).toB = true) : PcOk E' (amFs 32 (k + 1)) := by
  have h3 := defOf (id := 3) (D := amT 16 0) (show (3, amT 16 0) ∈ Ds from .tail _ (.tail _ (.tail _ (.tail _ (.tail _ (.tail _ (.tail _ (.head _)))))))) hE
  have h4 := defOf (id := 4) (D := D4) (show (4, D4) ∈ Ds from .tail _ (.tail _ (.tail _ (.tail _ (.tail _ (.tail _ (.head _))))))) hE
  rw [h4] at h
  obtain ⟨_, h⟩ := ite_true h
  obtain ⟨hK, h⟩ := ite_true h
  obtain ⟨hS, _⟩ := ite_true h
  rw [show ∀ E0 : Env, (Tm.app 3 (listT (vars 16 1))).den E0 = E0.fn 3 ((listT (vars 16 1)).den E0) from fun _ => rfl] at hK
  rw [show ∀ E0 : Env, (Tm.app 3 (listT (vars 16 17))).den E0 = E0.fn 3 ((listT (vars 16 17)).den E0) from fun _ => rfl] at hS
  rw [h3] at hK hS
  have e : amFs 32 (k + 1) = amFs 16 (k + 1) ++ amFs 16 (k + 17) := rfl
  rw [e]
  refine pc_append (amT_true hK fun i hi => ?_) (amT_true hS fun i hi => ?_)
  · show ((listT (vars 16 1)).den _).at_ (0 + i) = _
    rw [Nat.zero_add, vars_at hi]
    show ((listT (vars 34 k)).den E').at_ (1 + i) = _
    rw [vars_at (by omega)]
    congr 1; omega
  · show ((listT (vars 16 17)).den _).at_ (0 + i) = _
    rw [Nat.zero_add, vars_at hi]
    show ((listT (vars 34 k)).den E').at_ (17 + i) = _
    rw [vars_at (by omega)]
    congr 1; omega
theorem nm_true {E : Env} {i : Nat} {rest : Tm} : ∀ {m k : Nat}, ((nmT i rest m k).den E).toB = true → (rest.den E).toB = true
  | 0, _, h => h
  | m + 1, k, h => by
    exact nm_true (ite_false h)
theorem pigs_true {E : Env} (hE : Fok E.fn) {rest : Tm} : ∀ {m i : Nat}, ((pigsT rest m i).den E).toB = true → PcOk E (shFs m (6 + 34 * i))
  | 0, _, _ => fun p hp => by cases hp
  | m + 1, i, h => by
    obtain ⟨h1, h⟩ := ite_true h
    refine pc_append (pig_true (E := E) hE h1) ?_
    have := pigs_true hE (nm_true h)
    rwa [show 6 + 34 * (i + 1) = 6 + 34 * i + 34 by omega] at this
/-- A shelf of n pigments is valid: its cells are the variables from 0 on. -/
def okS (n : Nat) : PC := [(.app (10 + n) (listT (vars (6 + 34 * n) 0)), true)]
theorem shD {E : Env} (hE : Fok E.fn) {n : Nat} (h1 : 1 ≤ n) (h6 : n ≤ 6) (c : Sc) : E.fn (10 + n) c = (shT n).den ⟨fun i => c.at_ i, E.fn⟩ := by
  match n, h1, h6 with
  | 1, _, _ => exact defOf (id := 11) (D := shT 1) (show (11, shT 1) ∈ Ds from .tail _ (.tail _ (.tail _ (.tail _ (.tail _ (.head _)))))) hE c
  | 2, _, _ => exact defOf (id := 12) (D := shT 2) (show (12, shT 2) ∈ Ds from .tail _ (.tail _ (.tail _ (.tail _ (.head _))))) hE c
  | 3, _, _ => exact defOf (id := 13) (D := shT 3) (show (13, shT 3) ∈ Ds from .tail _ (.tail _ (.tail _ (.head _)))) hE c
  | 4, _, _ => exact defOf (id := 14) (D := shT 4) (show (14, shT 4) ∈ Ds from .tail _ (.tail _ (.head _))) hE c
  | 5, _, _ => exact defOf (id := 15) (D := shT 5) (show (15, shT 5) ∈ Ds from .tail _ (.head _)) hE c
  | 6, _, _ => exact defOf (id := 16) (D := shT 6) (show (16, shT 6) ∈ Ds from .head _) hE c
theorem sh_facts {E : Env} (hE : Fok E.fn) {n : Nat} (h1 : 1 ≤ n) (h6 : n ≤ 6) (hu : (shT n).under (6 + 34 * n) = true) (h : PcOk E (okS n)) : PcOk E (shFs n 6) := by
  have h0 : (E.fn (10 + n) ((listT (vars (6 + 34 * n) 0)).den E)).toB = true := h _ (List.mem_cons_self ..)
  rw [shD hE h1 h6] at h0
  have e : (shT n).den ⟨fun i => ((listT (vars (6 + 34 * n) 0)).den E).at_ i, E.fn⟩ = (shT n).den E := under_den (E := ⟨fun i => ((listT (vars (6 + 34 * n) 0)).den E).at_ i, E.fn⟩) (E' := E) (n := 6 + 34 * n) (fun i hi => by
    show ((listT (vars (6 + 34 * n) 0)).den E).at_ i = _
    rw [vars_at hi, Nat.zero_add]) rfl hu
  rw [e] at h0
  exact pigs_true (i := 0) hE h0
/-- Parts that can be mixed: from variable p on, for n pigments. -/
def okP (n p : Nat) : Nat → PC
  | 0 => []
  | m + 1 => okP n p m ++ (amF (.var (p + m)) ++ (match Nat.blt m n with
    | true => []
    | false => [(.op (.feq .f32) (.var (p + m)) (.fl 0), true)]))
def asM (n : Nat) : PC := okS n ++ okP n (6 + 34 * n) 6
def pcM (n : Nat) : PC := asM n ++ shFs n 6
theorem pcM_ok {E : Env} (hE : Fok E.fn) {n : Nat} (h1 : 1 ≤ n) (h6 : n ≤ 6) (hu : (shT n).under (6 + 34 * n) = true) (h : PcOk E (asM n)) : PcOk E (pcM n) :=
  pc_append h (sh_facts hE h1 h6 hu fun p hp => h p (List.mem_append.2 (.inl hp)))
end Go.Proofs.YtfdpcmijifdfeaaGreat.Leaf
