/- How many times drops can be taken: the contract of impl.timesInTins (140) for shelves of one to six pigments; the context of TakeDrops. No condition. -/
import Derived.Test.YtamljpeicecbjaaFx
import Derived.Test.YtamljpeicecbjaaMx
import Derived.Test.YtamljpeicecbjaaSxLite
set_option linter.unusedVariables false
set_option linter.unusedSimpArgs false
set_option maxRecDepth 100000
noncomputable section
namespace Go.Proofs.Ytamljpeicecbjaa.LeafD
open Go.Sx Leaf
def qT (a b : Nat) : Tm := .op (.quoi .i64) (.var a) (.var b)
/-- The least quotient of the first k. -/
def tmT (a b : Nat) : Nat → Tm
  | 0 => .il 1000000000
  | k + 1 => .ite (.op .lti (.il 0) (.var (b + k))) (.ite (.op .lti (qT (a + k) (b + k)) (tmT a b k)) (qT (a + k) (b + k)) (tmT a b k)) (tmT a b k)
/-- Nought where an amount is too small, from i on. -/
def anT (a b : Nat) (z : Tm) : Nat → Nat → Tm
  | 0, _ => z
  | m + 1, i => .ite (.op .lti (.var (a + i)) (.var (b + i))) (.il 0) (anT a b z m (i + 1))
def nmD (a b : Nat) : Tm := .app 61 (listT (vars 6 a ++ vars 6 b))
def mkT (n : Nat) : Tm := anT 0 (6 + 34 * n) (.ite (.op .eqi (nmD 0 (6 + 34 * n)) (.il 0)) (.il 1) (nmD 0 (6 + 34 * n))) 6 0
def bnd (lo hi : Int) : Nat → Nat → PC
  | 0, _ => []
  | m + 1, k => (.op .lei (.il lo) (.var k), true) :: (.op .lei (.var k) (.il hi), true) :: bnd lo hi m (k + 1)
def asD (n : Nat) : PC := okS n ++ (bnd (-2147483648) 2147483647 6 0 ++ bnd 0 1000 6 (6 + 34 * n))
def pcD (n : Nat) : PC := bnd 0 1000000000 6 0 ++ bnd 0 1000 6 (6 + 34 * n)
def tdS1 (n : Nat) (els : Sum) : Sum := sumQ [.aggS n pgs t6, .agg d6] (asD n) (fun ts => mkR (false, [(false, [i64])]) [(mkT n).subst ts]) els
def tdS (cx : Ctx) : Sum := tdS1 1 (tdS1 2 (tdS1 3 (tdS1 4 (tdS1 5 (tdS1 6 (call cx Try.prog 1000 140))))))

/-! The numbers -/
def qN (a b : Int) : Int := IntKind.i64.wrap (a.tdiv b)
def tmN (t d : Nat → Int) : Nat → Int
  | 0 => 1000000000
  | k + 1 => if 0 < d k then (if qN (t k) (d k) < tmN t d k then qN (t k) (d k) else tmN t d k) else tmN t d k
theorem tmT_den {E : Env} {a b : Nat} : ∀ k, (tmT a b k).den E = .i (tmN (fun i => (E.v (a + i)).toI) (fun i => (E.v (b + i)).toI) k)
  | 0 => rfl
  | k + 1 => by
    have ih := tmT_den (E := E) (a := a) (b := b) k
    simp only [tmT, qT, Tm.den, Opc.den, ih, tmN, qN]
    by_cases h1 : 0 < (E.v (b + k)).toI
    · by_cases h2 : IntKind.i64.wrap ((E.v (a + k)).toI.tdiv (E.v (b + k)).toI) < tmN (fun i => (E.v (a + i)).toI) (fun i => (E.v (b + i)).toI) k
      · simp [h1, h2]
      · simp [h1, h2]
    · simp [h1]
theorem qN_fit {a b : Int} (h0 : 0 ≤ a) (h1 : a ≤ 1000000000) (h2 : 1 ≤ b) : IntKind.i64.wrap (a.tdiv b) = a.tdiv b := by
  have e : a.tdiv b = a / b := Int.tdiv_eq_ediv_of_nonneg h0
  have l : 0 ≤ a / b := Int.ediv_nonneg h0 (by omega)
  have u : a / b ≤ a := Int.ediv_le_self _ h0
  refine wrap_in .i64 ?_ ?_
  · rw [e]; simp [IntKind.min, IntKind.bits, IntKind.signed]; omega
  · rw [e]; simp [IntKind.max, IntKind.bits, IntKind.signed]; omega
theorem qN_nonneg {a b : Int} (h0 : 0 ≤ a) (h1 : a ≤ 1000000000) (h2 : 1 ≤ b) : 0 ≤ qN a b := by
  unfold qN
  rw [qN_fit h0 h1 h2, Int.tdiv_eq_ediv_of_nonneg h0]
  exact Int.ediv_nonneg h0 (by omega)
theorem tmN_nonneg {t d : Nat → Int} : ∀ {k : Nat}, (∀ i, i < k → 0 ≤ t i ∧ t i ≤ 1000000000) → 0 ≤ tmN t d k
  | 0, _ => by simp [tmN]
  | k + 1, h => by
    have ih := tmN_nonneg (t := t) (d := d) (k := k) fun i hi => h i (by omega)
    simp only [tmN]
    split
    · split
      · exact qN_nonneg (h k (by omega)).1 (h k (by omega)).2 (by omega)
      · exact ih
    · exact ih
theorem tmN_zero {t d : Nat → Int} : ∀ {k : Nat}, (∀ i, i < k → 0 ≤ t i ∧ t i ≤ 1000000000) → (∃ i, i < k ∧ t i < d i) → tmN t d k = 0
  | 0, _, ⟨i, hi, _⟩ => by omega
  | k + 1, h, ⟨i, hi, hl⟩ => by
    have hk := h k (by omega)
    have nn := tmN_nonneg (t := t) (d := d) (k := k) fun i hi => h i (by omega)
    simp only [tmN]
    by_cases hik : t k < d k
    · have hd : 1 ≤ d k := by omega
      have q0 : qN (t k) (d k) = 0 := (Go.Sx.quo_zero hk.1 hd (qN_fit hk.1 hk.2 hd)).2 hik
      rw [if_pos (by omega), q0]
      split <;> omega
    · have hik' : i < k := by
        rcases Nat.lt_or_ge i k with h1 | h1
        · exact h1
        · obtain rfl : i = k := by omega
          exact absurd hl hik
      have ih := tmN_zero (t := t) (d := d) (k := k) (fun i hi => h i (by omega)) ⟨i, hik', hl⟩
      rw [ih]
      split
      · rename_i hd
        have := qN_nonneg (b := d k) hk.1 hk.2 (by omega)
        split <;> omega
      · rfl
theorem tmN_pos {t d : Nat → Int} : ∀ {k : Nat}, (∀ i, i < k → 0 ≤ t i ∧ t i ≤ 1000000000) → (∀ i, i < k → ¬ t i < d i) → tmN t d k ≠ 0
  | 0, _, _ => by simp [tmN]
  | k + 1, h, hn => by
    have hk := h k (by omega)
    have ih := tmN_pos (t := t) (d := d) (k := k) (fun i hi => h i (by omega)) (fun i hi => hn i (by omega))
    simp only [tmN]
    split
    · rename_i hd
      split
      · intro h0
        exact hn k (by omega) ((Go.Sx.quo_zero hk.1 (by omega) (qN_fit hk.1 hk.2 (by omega))).1 h0)
      · exact ih
    · exact ih
theorem anT_den {E : Env} {a b : Nat} {z : Tm} {c : Int} (hz : (∀ j, j < 6 → ¬ (E.v (a + j)).toI < (E.v (b + j)).toI) → z.den E = .i c) (h0 : (∃ j, j < 6 ∧ (E.v (a + j)).toI < (E.v (b + j)).toI) → c = 0) :
    ∀ m i, i + m = 6 → (∀ j, j < i → ¬ (E.v (a + j)).toI < (E.v (b + j)).toI) → (anT a b z m i).den E = .i c
  | 0, i, hi, hj => hz fun j h => hj j (by omega)
  | m + 1, i, hi, hj => by
    simp only [anT, Tm.den, Opc.den]
    by_cases h : (E.v (a + i)).toI < (E.v (b + i)).toI
    · rw [h0 ⟨i, by omega, h⟩]
      simp [h]
    · have := anT_den hz h0 m (i + 1) (by omega) fun j hjl => by
        rcases Nat.lt_or_ge j i with h1 | h1
        · exact hj j h1
        · obtain rfl : j = i := by omega
          exact h
      simp [h, this]

/-! The name -/
def TD : Tm := tmT 0 6 6
def DsD : List (Nat × Tm) := (61, TD) :: Ds3
def FD : Nat → Sc → Sc := buildF F1 DsD
theorem ascD : defsAsc DsD 900 = true := by kernel_rfl
structure FokD (F : Nat → Sc → Sc) : Prop extends Fok3 F where
  td : ∀ c, F 61 c = TD.den ⟨fun i => c.at_ i, F⟩
theorem FokD_FD : FokD FD where
  defs := fun _ _ h c => buildF_def ascD (.tail _ (.tail _ (.tail _ h))) c
  defs3 := fun _ _ h c => buildF_def ascD (.tail _ h) c
  rows := fun c => by
    have h : FD 900 = F1 900 := buildF_base (by kernel_rfl)
    rw [h]; simp [F1]
  name := fun c => by
    have h : FD 0 = F1 0 := buildF_base (by kernel_rfl)
    rw [h]; simp [F1]
  size := fun c => by
    have h : FD 1 = F1 1 := buildF_base (by kernel_rfl)
    rw [h]; simp [F1]
  td := fun c => buildF_def ascD (.head _) c

theorem bnd_get {E : Env} {lo hi : Int} : ∀ {m k : Nat}, PcOk E (bnd lo hi m k) → ∀ i, i < m → lo ≤ (E.v (k + i)).toI ∧ (E.v (k + i)).toI ≤ hi
  | m + 1, k, h, 0, _ => by
    have h1 := h _ (List.mem_cons_self ..)
    have h2 := h _ (List.mem_cons_of_mem _ (List.mem_cons_self ..))
    exact ⟨of_decide_eq_true (p := lo ≤ (E.v k).toI) h1, of_decide_eq_true (p := (E.v k).toI ≤ hi) h2⟩
  | m + 1, k, h, i + 1, hi' => by
    have := bnd_get (m := m) (k := k + 1) (fun p hp => h p (List.mem_cons_of_mem _ (List.mem_cons_of_mem _ hp))) i (by omega)
    rwa [show k + 1 + i = k + (i + 1) by omega] at this
theorem bnd_mk {E : Env} {lo hi : Int} : ∀ {m k : Nat}, (∀ i, i < m → lo ≤ (E.v (k + i)).toI ∧ (E.v (k + i)).toI ≤ hi) → PcOk E (bnd lo hi m k)
  | 0, _, _ => fun p hp => by cases hp
  | m + 1, k, h => fun p hp => by
    have h0 := h 0 (by omega)
    rw [Nat.add_zero] at h0
    rcases List.mem_cons.1 hp with rfl | hp
    · exact decide_eq_true (p := lo ≤ (E.v k).toI) h0.1
    rcases List.mem_cons.1 hp with rfl | hp
    · exact decide_eq_true (p := (E.v k).toI ≤ hi) h0.2
    · exact bnd_mk (m := m) (k := k + 1) (fun i hi' => by
        have := h (i + 1) (by omega)
        rwa [show k + (i + 1) = k + 1 + i by omega] at this) p hp
theorem pigs_rest {E : Env} {rest : Tm} : ∀ {m i : Nat}, ((pigsT rest m i).den E).toB = true → (rest.den E).toB = true
  | 0, _, h => h
  | m + 1, i, h => by
    obtain ⟨_, h⟩ := Leaf.ite_true h
    exact pigs_rest (nm_true h)
theorem tins_rest {E : Env} {n : Nat} : ∀ {m i : Nat}, ((tinsT n m i).den E).toB = true → (∀ j, j < m → -2147483648 ≤ (E.v (i + j)).toI ∧ (E.v (i + j)).toI ≤ 2147483647) → ∀ j, j < m → 0 ≤ (E.v (i + j)).toI ∧ (E.v (i + j)).toI ≤ 1000000000
  | m + 1, i, h, hr, j, hj => by
    obtain ⟨h1, h⟩ := Leaf.ite_true h
    obtain ⟨h2, h⟩ := Leaf.ite_true h
    have hr0 := hr 0 (by omega)
    rw [Nat.add_zero] at hr0
    have hw : IntKind.i64.wrap (E.v i).toI = (E.v i).toI := wrap_in .i64 (by simp [IntKind.min, IntKind.bits, IntKind.signed]; omega) (by simp [IntKind.max, IntKind.bits, IntKind.signed]; omega)
    replace h1 := of_decide_eq_true (p := 0 ≤ IntKind.i64.wrap (E.v i).toI) h1
    replace h2 := of_decide_eq_true (p := IntKind.i64.wrap (E.v i).toI ≤ 1000000000) h2
    rw [hw] at h1 h2
    cases j with
    | zero => exact ⟨h1, h2⟩
    | succ j =>
      have hn : ((tinsT n m (i + 1)).den E).toB = true := by
        split at h
        · exact h
        · exact (Leaf.ite_true h).2
      have := tins_rest hn (fun j hj => by
        have := hr (j + 1) (by omega)
        rwa [show i + (j + 1) = i + 1 + j by omega] at this) j (by omega)
      rwa [show i + 1 + j = i + (j + 1) by omega] at this
theorem asD_pcD {E : Env} (hE : Fok E.fn) {n : Nat} (h1 : 1 ≤ n) (h6 : n ≤ 6) (hu : (shT n).under (6 + 34 * n) = true) (h : PcOk E (asD n)) : PcOk E (pcD n) := by
  have hs : PcOk E (okS n) := fun p hp => h p (List.mem_append.2 (.inl hp))
  have ht : PcOk E (bnd (-2147483648) 2147483647 6 0) := fun p hp => h p (List.mem_append.2 (.inr (List.mem_append.2 (.inl hp))))
  have hd : PcOk E (bnd 0 1000 6 (6 + 34 * n)) := fun p hp => h p (List.mem_append.2 (.inr (List.mem_append.2 (.inr hp))))
  have h0 : (E.fn (10 + n) ((listT (vars (6 + 34 * n) 0)).den E)).toB = true := hs _ (List.mem_cons_self ..)
  rw [shD hE h1 h6] at h0
  have e : (shT n).den ⟨fun i => ((listT (vars (6 + 34 * n) 0)).den E).at_ i, E.fn⟩ = (shT n).den E := under_den (E := ⟨fun i => ((listT (vars (6 + 34 * n) 0)).den E).at_ i, E.fn⟩) (E' := E) (n := 6 + 34 * n) (fun i hi => by
    show ((listT (vars (6 + 34 * n) 0)).den E).at_ i = _
    rw [vars_at hi, Nat.zero_add]) rfl hu
  rw [e] at h0
  have := tins_rest (pigs_rest h0) (bnd_get ht)
  exact pc_append (bnd_mk this) hd
theorem nmD_den {E : Env} (hE : FokD E.fn) (a b : Nat) : (nmD a b).den E = (tmT a b 6).den E := by
  show E.fn 61 ((listT (vars 6 a ++ vars 6 b)).den E) = _
  rw [hE.td, tmT_den]
  show (tmT 0 6 6).den _ = _
  rw [tmT_den]
  have hg : ∀ i, i < 12 → ((listT (vars 6 a ++ vars 6 b)).den E).at_ i = if i < 6 then E.v (a + i) else E.v (b + (i - 6)) := fun i hi => by
    split
    · rename_i h
      rw [listT_at (t := .var (a + i))]
      · rfl
      · rw [List.getElem?_append_left (by simp [vars]; omega)]
        exact vars_get h
    · rename_i h
      rw [listT_at (t := .var (b + (i - 6)))]
      · rfl
      · rw [List.getElem?_append_right (by simp [vars]; omega)]
        simp only [vars, List.length_cons, List.length_nil]
        exact vars_get (m := 6) (by omega)
  have e : ∀ (t d t' d' : Nat → Int) (k : Nat), k ≤ 6 → (∀ i, i < 6 → t i = t' i) → (∀ i, i < 6 → d i = d' i) → tmN t d k = tmN t' d' k := by
    intro t d t' d' k
    induction k with
    | zero => intro _ _ _; rfl
    | succ k ih =>
      intro hk h1 h2
      simp only [tmN]
      rw [h1 k (by omega), h2 k (by omega), ih (by omega) h1 h2]
  refine congrArg Sc.i (e _ _ _ _ 6 (Nat.le_refl _) (fun i hi => ?_) (fun i hi => ?_))
  · show (((listT (vars 6 a ++ vars 6 b)).den E).at_ (0 + i)).toI = _
    rw [Nat.zero_add, hg i (by omega), if_pos hi]
  · show (((listT (vars 6 a ++ vars 6 b)).den E).at_ (6 + i)).toI = _
    rw [hg (6 + i) (by omega), if_neg (by omega), Nat.add_sub_cancel_left]
theorem mkT_den {E : Env} (hE : FokD E.fn) {n : Nat} (h : PcOk E (pcD n)) : (mkT n).den E = (tmT 0 (6 + 34 * n) 6).den E := by
  have ht := bnd_get (E := E) (fun p hp => h p (List.mem_append.2 (.inl hp)))
  have ht' : ∀ i, i < 6 → 0 ≤ (E.v (0 + i)).toI ∧ (E.v (0 + i)).toI ≤ 1000000000 := ht
  rw [tmT_den]
  unfold mkT
  refine anT_den (fun hn => ?_) (fun hx => tmN_zero ht' hx) 6 0 rfl (fun j hj => by omega)
  have hp := tmN_pos (t := fun i => (E.v (0 + i)).toI) (d := fun i => (E.v (6 + 34 * n + i)).toI) ht' hn
  have e1 : (nmD 0 (6 + 34 * n)).den E = .i (tmN (fun i => (E.v (0 + i)).toI) (fun i => (E.v (6 + 34 * n + i)).toI) 6) := by rw [nmD_den hE, tmT_den]
  show (if (Opc.den .eqi ((nmD 0 (6 + 34 * n)).den E) (.i 0)).toB = true then Sc.i 1 else (nmD 0 (6 + 34 * n)).den E) = _
  rw [e1]
  exact if_neg (show ¬ (decide (tmN (fun i => (E.v (0 + i)).toI) (fun i => (E.v (6 + 34 * n + i)).toI) 6 = 0)) = true from fun h => hp (of_decide_eq_true h))
def rpT : Rp := (false, [(false, [i64])])
def paD (n : Nat) : List Pa := [.aggS n pgs t6, .agg d6]
def TQ (n : Nat) : Tm := .cons (tmT 0 (6 + 34 * n) 6) .nil
theorem td_1 : treeIs rpT (callQ Try.prog cxT 1000 140 (paD 1) (pcD 1)) (TQ 1) = true := by kernel_rfl
theorem tk_1 : (Nat.ble (bldP (paD 1) 0 0).j 1000 && undersF (bldP (paD 1) 0 0).n (asD 1)) = true := by kernel_rfl
theorem tl_1 : (Nat.beq (bldP (paD 1) 0 0).n (12 + 34 * 1) && ((mkT 1).under (12 + 34 * 1) && (shT 1).under (6 + 34 * 1))) = true := by kernel_rfl
theorem td_2 : treeIs rpT (callQ Try.prog cxT 1000 140 (paD 2) (pcD 2)) (TQ 2) = true := by kernel_rfl
theorem tk_2 : (Nat.ble (bldP (paD 2) 0 0).j 1000 && undersF (bldP (paD 2) 0 0).n (asD 2)) = true := by kernel_rfl
theorem tl_2 : (Nat.beq (bldP (paD 2) 0 0).n (12 + 34 * 2) && ((mkT 2).under (12 + 34 * 2) && (shT 2).under (6 + 34 * 2))) = true := by kernel_rfl
theorem td_3 : treeIs rpT (callQ Try.prog cxT 1000 140 (paD 3) (pcD 3)) (TQ 3) = true := by kernel_rfl
theorem tk_3 : (Nat.ble (bldP (paD 3) 0 0).j 1000 && undersF (bldP (paD 3) 0 0).n (asD 3)) = true := by kernel_rfl
theorem tl_3 : (Nat.beq (bldP (paD 3) 0 0).n (12 + 34 * 3) && ((mkT 3).under (12 + 34 * 3) && (shT 3).under (6 + 34 * 3))) = true := by kernel_rfl
theorem td_4 : treeIs rpT (callQ Try.prog cxT 1000 140 (paD 4) (pcD 4)) (TQ 4) = true := by kernel_rfl
theorem tk_4 : (Nat.ble (bldP (paD 4) 0 0).j 1000 && undersF (bldP (paD 4) 0 0).n (asD 4)) = true := by kernel_rfl
theorem tl_4 : (Nat.beq (bldP (paD 4) 0 0).n (12 + 34 * 4) && ((mkT 4).under (12 + 34 * 4) && (shT 4).under (6 + 34 * 4))) = true := by kernel_rfl
theorem td_5 : treeIs rpT (callQ Try.prog cxT 1000 140 (paD 5) (pcD 5)) (TQ 5) = true := by kernel_rfl
theorem tk_5 : (Nat.ble (bldP (paD 5) 0 0).j 1000 && undersF (bldP (paD 5) 0 0).n (asD 5)) = true := by kernel_rfl
theorem tl_5 : (Nat.beq (bldP (paD 5) 0 0).n (12 + 34 * 5) && ((mkT 5).under (12 + 34 * 5) && (shT 5).under (6 + 34 * 5))) = true := by kernel_rfl
theorem td_6 : treeIs rpT (callQ Try.prog cxT 1000 140 (paD 6) (pcD 6)) (TQ 6) = true := by kernel_rfl
theorem tk_6 : (Nat.ble (bldP (paD 6) 0 0).j 1000 && undersF (bldP (paD 6) 0 0).n (asD 6)) = true := by kernel_rfl
theorem tl_6 : (Nat.beq (bldP (paD 6) 0 0).n (12 + 34 * 6) && ((mkT 6).under (12 + 34 * 6) && (shT 6).under (6 + 34 * 6))) = true := by kernel_rfl
theorem td_ok {E : Env} (hE : FokD E.fn) {n : Nat} {els : Sum} (h1 : 1 ≤ n) (h6 : n ≤ 6) (hk : (Nat.ble (bldP (paD n) 0 0).j 1000 && undersF (bldP (paD n) 0 0).n (asD n)) = true)
    (hl : (Nat.beq (bldP (paD n) 0 0).n (12 + 34 * n) && ((mkT n).under (12 + 34 * n) && (shT n).under (6 + 34 * n))) = true)
    (ht : treeIs rpT (callQ Try.prog cxT 1000 140 (paD n) (pcD n)) (TQ n) = true) (hels : SumOk Try.prog E 140 els) : SumOk Try.prog E 140 (tdS1 n els) := by
  simp only [Bool.and_eq_true] at hl
  refine sumV_ok (ctx := cxT) (n := 1000) (N := 1) (T := TQ n) (pcx := pcD n) (fun E' h => cxT_okF (by rw [h]; exact hE.toFok3)) nm mixed hk (by kernel_rfl)
    (fun E' h hp => asD_pcD (by rw [h]; exact hE.toFok) h1 h6 hl.2.2 hp) (fun E' ts hfn has hn hv => ⟨rfl, fun i u hi => ?_⟩) ht hels
  cases i with
  | succ i => simp at hi
  | zero =>
    simp only [List.getElem?_cons_zero, Option.some.injEq] at hi
    subst hi
    have hnn : ts.length = 12 + 34 * n := by rw [← hn]; exact Nat.eq_of_beq_eq_true hl.1
    rw [subst_den hv hfn (by rw [hnn]; exact hl.2.1), mkT_den (by rw [hfn]; exact hE) (asD_pcD (by rw [hfn]; exact hE.toFok) h1 h6 hl.2.2 has)]
    rfl
theorem tdS_ok {E : Env} (hE : FokD E.fn) : SumOk Try.prog E 140 (tdS cxT) := by
  have h0 : SumOk Try.prog E 140 (call cxT Try.prog 1000 140) := call_ok (cxT_okF hE.toFok3).1 (cxT_okF hE.toFok3).2 nm mixed 1000 140
  exact td_ok hE (by decide) (by decide) tk_1 tl_1 td_1 (td_ok hE (by decide) (by decide) tk_2 tl_2 td_2 (td_ok hE (by decide) (by decide) tk_3 tl_3 td_3 (td_ok hE (by decide) (by decide) tk_4 tl_4 td_4
    (td_ok hE (by decide) (by decide) tk_5 tl_5 td_5 (td_ok hE (by decide) (by decide) tk_6 tl_6 td_6 h0)))))
theorem tdS_pc {E : Env} (hE : FokD E.fn) : ∀ args m pc, PcOk E pc → Pcs E Res.pc (tdS cxT args m pc) :=
  sumQ_pc (sumQ_pc (sumQ_pc (sumQ_pc (sumQ_pc (sumQ_pc (call_pc (cxT_okF hE.toFok3).2 1000 140))))))
def cxTg : Ctx := ctxL ((140, tdS cxT) :: (164, hdS cxT kP 164) :: (84, hdS cxT kD 84) :: (172, thick 172) :: (174, thick 174) :: (173, offS 173) :: (175, offS 175) :: orL (ctxL l3) Try.prog 1000 l5)
def cxTf : Ctx := withFxs (withFxs (withFx cxTg (fun g => Nat.beq g 73 || Nat.beq g 163 || Nat.beq g 83)) 163 (markX kP pgs)) 83 (markX kD d6)
theorem cxTf_okF {E : Env} (hE : FokD E.fn) : CtxOk Try.prog E cxTf ∧ CtxPc E cxTf := by
  have hT := cxT_okF hE.toFok3
  have hg : CtxOk Try.prog E cxTg ∧ CtxPc E cxTg := ctxL_cons (ctxL_cons (ctxL_cons hT (hdS_ok hT kD_ok ⟨_, Try.func84, by kernel_rfl⟩ heldD_walk) (hdS_pc hT)) (hdS_ok hT kP_ok ⟨_, Try.func164, by kernel_rfl⟩ heldP_walk) (hdS_pc hT)) (tdS_ok hE) (tdS_pc hE)
  exact withMk_ok (withMk_ok (withFx_ok hg _) kP_ok rfl hE.rows ⟨_, Try.func163, by kernel_rfl⟩ markP_walk) kD_ok rfl hE.rows ⟨_, Try.func83, by kernel_rfl⟩ markD_walk
def cxB : Ctx := cxTf
theorem cxB_ok : ∀ E : Env, E.fn = FD → CtxOk Try.prog E cxB ∧ CtxPc E cxB := fun E hE => cxTf_okF (by rw [hE]; exact FokD_FD)
theorem F2_900 : ∀ c, FD 900 c = F900 c := FokD_FD.rows
end Go.Proofs.Ytamljpeicecbjaa.LeafD
