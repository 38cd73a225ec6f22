/- What a mixture of n pigments is, as a term; names for it. No condition. -/
import Derived.Test.YtfdpcmijifdfeaaGreatMx
import Derived.Test.YtfdpcmijifdfeaaGreatTh
import Derived.Test.YtfdpcmijifdfeaaGreatSxRes
set_option linter.unusedVariables false
set_option linter.unusedSimpArgs false
set_option maxRecDepth 100000
noncomputable section
namespace Go.Proofs.YtfdpcmijifdfeaaGreat.Leaf
open Go.Sx
def lmx : List (Nat × Sum) := (43, orCall shArg (fun n => sumA [.aggS n pgs t6] .bool (10 + n)) 43) :: (41, orCall shPtr (fun n => sumA [.ptS n pgs t6] .bool (10 + n)) 41) :: liteL l2
def cmx : Ctx := ctxL lmx
theorem cmx_ok {E : Env} (hE : Fok E.fn) : CtxOk Tryz.prog E cmx ∧ CtxPc E cmx :=
  ctxL_cons (ctxL_cons (liteL_ok (c2 hE)) (orCall_ok hE fun _ _ n hn => s132 hE n (shPtr_ok hn).1 (shPtr_ok hn).2) (orCall_pc hE fun _ _ _ _ => sumP_pc))
    (orCall_ok hE fun _ _ n hn => s43 hE n (shArg_ok hn).1 (shArg_ok hn).2) (orCall_pc hE fun _ _ _ _ => sumP_pc)
theorem cmx_ok' {E : Env} (hE : Fok E.fn) : ∀ E' : Env, E'.fn = E.fn → CtxOk Tryz.prog E' cmx ∧ CtxPc E' cmx := fun E' h => cmx_ok (by rw [h]; exact hE)
def rpL : Rp := (true, [(true, times [.float .f32] 33), (false, [.int .i64])])
/-- One cell of a mixture: of the first i pigments; o: the cell's place in a pigment. -/
def mxC (n o : Nat) : Nat → Tm
  | 0 => .nil
  | i + 1 => match i with
    | 0 => .op (.fmul .f32) (.var (6 + 34 * n)) (.var (6 + o))
    | j + 1 => .op (.fadd .f32) (mxC n o (j + 1)) (.op (.fmul .f32) (.var (6 + 34 * n + (j + 1))) (.var (6 + 34 * (j + 1) + o)))
def mxCs (n : Nat) : Nat → Nat → List Tm
  | 0, _ => []
  | m + 1, o => mxC n o n :: mxCs n m (o + 1)
def notFin : List Tm → Tm
  | [] => .bl false
  | t :: r => match r with
    | [] => .op .notb (.op (.ffin .f32) t .nil) .nil
    | _ => .ite (.op (.ffin .f32) t .nil) (notFin r) (.bl true)
def zeros : Nat → List Tm
  | 0 => [.il 4]
  | m + 1 => .fl 0 :: zeros m
/-- What a mixture of n pigments is. -/
def DM (n : Nat) : Tm := .ite (notFin (mxCs n 32 1)) (listT (zeros 33)) (listT (mxCs n 32 1 ++ [.fl 1065353216, .il 0]))
/-- The same as the reference tests it. -/
def notAm : List Tm → Tm
  | [] => .bl false
  | t :: r => match r with
    | [] => .ite (.op (.fle .f32) (.fl 0) t) (.op .notb (.op (.ffin .f32) t .nil) .nil) (.bl true)
    | _ => .ite (.op (.fle .f32) (.fl 0) t) (.ite (.op (.ffin .f32) t .nil) (notAm r) (.bl true)) (.bl true)
def DA (n : Nat) : Tm := .ite (notAm (mxCs n 32 1 ++ [.fl 1065353216])) (listT (zeros 33)) (listT (mxCs n 32 1 ++ [.fl 1065353216, .il 0]))
def lm2 : List (Nat × Sum) := (43, orCall shArg (fun n => sumA [.aggS n pgs t6] .bool (10 + n)) 43) :: (41, orCall shPtr (fun n => sumA [.ptS n pgs t6] .bool (10 + n)) 41) :: l2
def cm2 : Ctx := ctxL lm2
theorem cm2_ok {E : Env} (hE : Fok E.fn) : CtxOk Tryz.prog E cm2 ∧ CtxPc E cm2 :=
  ctxL_cons (ctxL_cons (c2 hE) (orCall_ok hE fun _ _ n hn => s132 hE n (shPtr_ok hn).1 (shPtr_ok hn).2) (orCall_pc hE fun _ _ _ _ => sumP_pc))
    (orCall_ok hE fun _ _ n hn => s43 hE n (shArg_ok hn).1 (shArg_ok hn).2) (orCall_pc hE fun _ _ _ _ => sumP_pc)
theorem cm2_ok' {E : Env} (hE : Fok E.fn) : ∀ E' : Env, E'.fn = E.fn → CtxOk Tryz.prog E' cm2 ∧ CtxPc E' cm2 := fun E' h => cm2_ok (by rw [h]; exact hE)
/-! Sums of products of amounts are not below nought -/
def Am (E : Env) (k : Nat) : Prop := F.le .f32 0 (E.v k).toF = true ∧ F.fin .f32 (E.v k).toF = true
theorem am_of {E : Env} {k : Nat} {pc : PC} (h : PcOk E pc) (hs : ∀ p, p ∈ amF (.var k) → p ∈ pc) : Am E k :=
  ⟨h _ (hs _ (List.mem_cons_self ..)), h _ (hs _ (List.mem_cons_of_mem _ (List.mem_cons_self ..)))⟩
theorem amFs_mem : ∀ {m n j : Nat}, j < m → ∀ p, p ∈ amF (.var (n + j)) → p ∈ amFs m n
  | m + 1, n, 0, _, p, h => List.mem_append.2 (.inl h)
  | m + 1, n, j + 1, hj, p, h => List.mem_append.2 (.inr (amFs_mem (m := m) (n := n + 1) (j := j) (by omega) p (by rw [show n + 1 + j = n + (j + 1) by omega]; exact h)))
theorem shFs_mem : ∀ {m n i j : Nat}, i < m → j < 32 → ∀ p, p ∈ amF (.var (n + 34 * i + 1 + j)) → p ∈ shFs m n
  | m + 1, n, 0, j, _, hj, p, h => List.mem_append.2 (.inl (amFs_mem (n := n + 1) hj p (by rw [show n + 1 + j = n + 34 * 0 + 1 + j by omega]; exact h)))
  | m + 1, n, i + 1, j, hi, hj, p, h => List.mem_append.2 (.inr (shFs_mem (m := m) (n := n + 34) (i := i) (by omega) hj p (by rw [show n + 34 + 34 * i + 1 + j = n + 34 * (i + 1) + 1 + j by omega]; exact h)))
theorem okP_mem {n q : Nat} : ∀ {m j : Nat}, j < m → ∀ p, p ∈ amF (.var (q + j)) → p ∈ okP n q m
  | m + 1, j, hj, p, h => by
    simp only [okP]
    rcases Nat.lt_or_ge j m with hlt | hge
    · exact List.mem_append.2 (.inl (okP_mem hlt p h))
    · have : j = m := by omega
      subst this
      exact List.mem_append.2 (.inr (List.mem_append.2 (.inl h)))
theorem cell_nn {E : Env} {n o : Nat} (h6 : n ≤ 6) (ho1 : 1 ≤ o) (ho : o ≤ 32) (h : PcOk E (pcM n)) : ∀ i, i < n → F.le .f32 0 ((mxC n o (i + 1)).den E).toF = true
  | 0, hi => by
    have hp := am_of (k := 6 + 34 * n) h fun p hm => List.mem_append.2 (.inl (List.mem_append.2 (.inr (okP_mem (m := 6) (j := 0) (by omega) p hm))))
    have hk := am_of (k := 6 + o) h fun p hm => List.mem_append.2 (.inr (shFs_mem (m := n) (n := 6) (i := 0) (j := o - 1) hi (by omega) p (by rw [show 6 + 34 * 0 + 1 + (o - 1) = 6 + o by omega]; exact hm)))
    exact mul_nn hp.1 hk.1 hp.2 hk.2
  | i + 1, hi => by
    have hp := am_of (k := 6 + 34 * n + (i + 1)) h fun p hm => List.mem_append.2 (.inl (List.mem_append.2 (.inr (okP_mem (m := 6) (j := i + 1) (by omega) p hm))))
    have hk := am_of (k := 6 + 34 * (i + 1) + o) h fun p hm => List.mem_append.2 (.inr (shFs_mem (m := n) (n := 6) (i := i + 1) (j := o - 1) hi (by omega) p (by rw [show 6 + 34 * (i + 1) + 1 + (o - 1) = 6 + 34 * (i + 1) + o by omega]; exact hm)))
    exact add_nn (cell_nn h6 ho1 ho h i (by omega)) (mul_nn hp.1 hk.1 hp.2 hk.2)
theorem mxCs_mem {n : Nat} : ∀ {m o : Nat} {t : Tm}, t ∈ mxCs n m o → ∃ j, j < m ∧ t = mxC n (o + j) n
  | 0, o, t, h => by cases h
  | m + 1, o, t, h => by
    rcases List.mem_cons.1 h with rfl | h
    · exact ⟨0, by omega, rfl⟩
    · obtain ⟨j, hj, rfl⟩ := mxCs_mem h
      exact ⟨j + 1, by omega, by rw [show o + 1 + j = o + (j + 1) by omega]⟩
theorem iteB (E : Env) (c a b : Tm) : ((Tm.ite c a b).den E).toB = bif (c.den E).toB then (a.den E).toB else (b.den E).toB := by
  simp only [Tm.den]
  cases (c.den E).toB <;> rfl
theorem notAm_eq {E : Env} {c : Tm} (hc : F.le .f32 0 (c.den E).toF = true ∧ F.fin .f32 (c.den E).toF = true) : ∀ (l : List Tm), l ≠ [] → (∀ t, t ∈ l → F.le .f32 0 (t.den E).toF = true) → ((notAm (l ++ [c])).den E).toB = ((notFin l).den E).toB
  | [], h, _ => absurd rfl h
  | [t], _, ht => by
    have h1 := ht t (List.mem_cons_self ..)
    simp only [List.cons_append, List.nil_append, notAm, notFin, Tm.den, Opc.den, Sc.toB_b, Sc.toF_f, h1, hc.1, hc.2, if_true]
    cases F.fin .f32 (t.den E).toF <;> simp
  | t :: u :: r, _, ht => by
    have h1 := ht t (List.mem_cons_self ..)
    have ih := notAm_eq hc (u :: r) (by simp) fun x hx => ht x (List.mem_cons_of_mem _ hx)
    show ((Tm.ite (.op (.fle .f32) (.fl 0) t) (.ite (.op (.ffin .f32) t .nil) (notAm ((u :: r) ++ [c])) (.bl true)) (.bl true)).den E).toB = ((Tm.ite (.op (.ffin .f32) t .nil) (notFin (u :: r)) (.bl true)).den E).toB
    have h2 : ((Tm.op (.fle .f32) (.fl 0) t).den E).toB = true := h1
    rw [iteB, iteB, iteB, h2, ih]
    rfl
theorem one_am {E : Env} : F.le .f32 0 ((Tm.fl 1065353216).den E).toF = true ∧ F.fin .f32 ((Tm.fl 1065353216).den E).toF = true :=
  ⟨show F.le .f32 0 1065353216 = true by kernel_rfl, show F.fin .f32 1065353216 = true by kernel_rfl⟩
theorem DA_DM {E : Env} {n : Nat} (h1 : 1 ≤ n) (h6 : n ≤ 6) (h : PcOk E (pcM n)) : (DA n).den E = (DM n).den E := by
  have e : ((notAm (mxCs n 32 1 ++ [.fl 1065353216])).den E).toB = ((notFin (mxCs n 32 1)).den E).toB := notAm_eq one_am _ (by simp [mxCs]) fun t ht => by
    obtain ⟨j, hj, rfl⟩ := mxCs_mem ht
    obtain ⟨m, rfl⟩ : ∃ m, n = m + 1 := ⟨n - 1, by omega⟩
    exact cell_nn h6 (by omega) (by omega) h m (by omega)
  simp only [DA, DM, Tm.den, e]
def Ds4 : List (Nat × Tm) := (236, DM 6) :: (235, DM 5) :: (234, DM 4) :: (233, DM 3) :: (232, DM 2) :: (231, DM 1) :: Ds3
end Go.Proofs.YtfdpcmijifdfeaaGreat.Leaf
