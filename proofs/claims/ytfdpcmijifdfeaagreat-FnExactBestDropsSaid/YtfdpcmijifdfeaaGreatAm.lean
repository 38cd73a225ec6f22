/- The contracts of AllDrops: the model's list has a name; what is known of it. No condition. -/
import Derived.Test.YtfdpcmijifdfeaaGreatAl
set_option linter.unusedVariables false
set_option linter.unusedSimpArgs false
set_option maxRecDepth 100000
noncomputable section
namespace Go.Proofs.YtfdpcmijifdfeaaGreat.Leaf
open Go.Sx
open Go.Sx.All (SI SS NI NS v0T chT TotOk Agree)
def paAl : List Pa := [.sc i64, .sc i64]
def asT (c : Nat) : PC := [(.op .eqi (.var 0) (.il (.ofNat c)), true), (.op .lei (.il 1) (.var 1), true), (.op .lei (.var 1) (.il 1000), true)]
def asAl (c : Nat) : PC := asT c ++ [(qS c, false)]
def asAe (c : Nat) : PC := asT c ++ [(qS c, true)]
def moreI (c : Nat) : Tm := .op .lti (.il 500) (lenI c)
def alT (c : Nat) : Tm := .app (5000 + c) (listT (varsL 2 0))
def exAl (c : Nat) : PC := [(.app (920 + c) (.cons (.nth 0 (alT c)) (.cons (.nth 1 (alT c)) .nil)), true), (.op .lei (.il 0) (.nth 0 (alT c)), true), (.op .lei (.nth 0 (alT c)) (.il 500), true)]
def foA : Fo := { ks := d6, e := 31, z := 6, tp := true }
def errA : SV := .tup [.nils, .sc i64 (.il 3)]
def oAS (c : Nat) := callQ Tryz.prog (cxS c (c - 1)) 1000 42 paAl (asAl c)
def oAI (c : Nat) := callQ Tryz.prog (cxI c (c - 1)) 1000 44 paAl ((moreI c, false) :: asAl c)
def oAE (c : Nat) := callQ Tryz.prog (cxI c (c - 1)) 1000 44 paAl ((moreI c, true) :: asAe c)
def isO (o : Out Res) (a b : Tm) : Bool := match leafQ foA o with | some (x, y) => (match x.beq a with | true => y.beq b | false => false) | none => false
theorem isO_eq {o : Out Res} {a b : Tm} (h : isO o a b = true) : leafQ foA o = some (a, b) := by
  unfold isO at h
  split at h
  · rename_i x y hq
    split at h
    · rename_i h1
      rw [hq, Tm.beq_eq h1, Tm.beq_eq h]
    · cases h
  · cases h
theorem kS_2 : isO (oAS 2) (lenS 2) (rowS 2) = true := by kernel_rfl
theorem kI_2 : isO (oAI 2) (lenI 2) (rowI 2) = true := by kernel_rfl
theorem kE_2 : retV (oAE 2) errA = true := by kernel_rfl
theorem kj_2 : ((Nat.ble (bldP paAl 0 0).j 1000 && undersF (bldP paAl 0 0).n (asAl 2)) && ((LDl 2).under (bldP paAl 0 0).n && undersF (bldP paAl 0 0).n (exAl 2))) = true := by kernel_rfl
theorem ke_2 : (Nat.ble (bldP paAl 0 0).j 1000 && undersF (bldP paAl 0 0).n (asAe 2)) = true := by kernel_rfl
theorem kS_3 : isO (oAS 3) (lenS 3) (rowS 3) = true := by kernel_rfl
theorem kI_3 : isO (oAI 3) (lenI 3) (rowI 3) = true := by kernel_rfl
theorem kE_3 : retV (oAE 3) errA = true := by kernel_rfl
theorem kj_3 : ((Nat.ble (bldP paAl 0 0).j 1000 && undersF (bldP paAl 0 0).n (asAl 3)) && ((LDl 3).under (bldP paAl 0 0).n && undersF (bldP paAl 0 0).n (exAl 3))) = true := by kernel_rfl
theorem ke_3 : (Nat.ble (bldP paAl 0 0).j 1000 && undersF (bldP paAl 0 0).n (asAe 3)) = true := by kernel_rfl
theorem kS_4 : isO (oAS 4) (lenS 4) (rowS 4) = true := by kernel_rfl
theorem kI_4 : isO (oAI 4) (lenI 4) (rowI 4) = true := by kernel_rfl
theorem kE_4 : retV (oAE 4) errA = true := by kernel_rfl
theorem kj_4 : ((Nat.ble (bldP paAl 0 0).j 1000 && undersF (bldP paAl 0 0).n (asAl 4)) && ((LDl 4).under (bldP paAl 0 0).n && undersF (bldP paAl 0 0).n (exAl 4))) = true := by kernel_rfl
theorem ke_4 : (Nat.ble (bldP paAl 0 0).j 1000 && undersF (bldP paAl 0 0).n (asAe 4)) = true := by kernel_rfl
theorem kS_5 : isO (oAS 5) (lenS 5) (rowS 5) = true := by kernel_rfl
theorem kI_5 : isO (oAI 5) (lenI 5) (rowI 5) = true := by kernel_rfl
theorem kE_5 : retV (oAE 5) errA = true := by kernel_rfl
theorem kj_5 : ((Nat.ble (bldP paAl 0 0).j 1000 && undersF (bldP paAl 0 0).n (asAl 5)) && ((LDl 5).under (bldP paAl 0 0).n && undersF (bldP paAl 0 0).n (exAl 5))) = true := by kernel_rfl
theorem ke_5 : (Nat.ble (bldP paAl 0 0).j 1000 && undersF (bldP paAl 0 0).n (asAe 5)) = true := by kernel_rfl
theorem kS_6 : isO (oAS 6) (lenS 6) (rowS 6) = true := by kernel_rfl
theorem kI_6 : isO (oAI 6) (lenI 6) (rowI 6) = true := by kernel_rfl
theorem kE_6 : retV (oAE 6) errA = true := by kernel_rfl
theorem kj_6 : ((Nat.ble (bldP paAl 0 0).j 1000 && undersF (bldP paAl 0 0).n (asAl 6)) && ((LDl 6).under (bldP paAl 0 0).n && undersF (bldP paAl 0 0).n (exAl 6))) = true := by kernel_rfl
theorem ke_6 : (Nat.ble (bldP paAl 0 0).j 1000 && undersF (bldP paAl 0 0).n (asAe 6)) = true := by kernel_rfl
section
variable {E : Env}
theorem ldOf (hE : FokL E.fn) {c : Nat} (h2 : 2 ≤ c) (h6 : c ≤ 6) : ∀ x, E.fn (5000 + c) x = (LDl c).den ⟨fun i => x.at_ i, E.fn⟩ := by
  match c, h2, h6 with
  | 2, _, _ => exact hE.ld 5002 (LDl 2) (.tail _ (.tail _ (.tail _ (.tail _ (.head _)))))
  | 3, _, _ => exact hE.ld 5003 (LDl 3) (.tail _ (.tail _ (.tail _ (.head _))))
  | 4, _, _ => exact hE.ld 5004 (LDl 4) (.tail _ (.tail _ (.head _)))
  | 5, _, _ => exact hE.ld 5005 (LDl 5) (.tail _ (.head _))
  | 6, _, _ => exact hE.ld 5006 (LDl 6) (.head _)
theorem ld_under : ∀ {c : Nat}, 2 ≤ c → c ≤ 6 → (LDl c).under 2 = true
  | 2, _, _ | 3, _, _ | 4, _, _ | 5, _, _ | 6, _, _ => by kernel_rfl
theorem alT_den (hE : FokL E.fn) {c : Nat} (h2 : 2 ≤ c) (h6 : c ≤ 6) : (alT c).den E = (LDl c).den E := by
  show E.fn (5000 + c) ((listT (varsL 2 0)).den E) = _
  rw [ldOf hE h2 h6]
  exact under_den (E := ⟨fun i => ((listT (varsL 2 0)).den E).at_ i, E.fn⟩) (E' := E) (n := 2) (fun i hi => by
    match i, hi with
    | 0, _ => rfl
    | 1, _ => rfl) rfl (ld_under h2 h6)
theorem tot_of {c : Nat} (h : PcOk E (asT c)) : TotOk E ∧ 1 ≤ (E.v 1).toI := by
  have h1 : 1 ≤ (E.v 1).toI := of_decide_eq_true (h _ (.tail _ (.head _)))
  have h2 : (E.v 1).toI ≤ 1000 := of_decide_eq_true (h _ (.tail _ (.tail _ (.head _))))
  exact ⟨⟨by omega, h2⟩, h1⟩
theorem asT_of {c : Nat} {q : Tm × Bool} (h : PcOk E (asT c ++ [q])) : PcOk E (asT c) ∧ (q.1.den E).toB = q.2 := ⟨fun p hp => h p (List.mem_append.2 (.inl hp)), h q (List.mem_append.2 (.inr (.head _)))⟩
theorem row_ok {n : Nat} {T : Int} {L : List Sc} {k : Nat} (h1 : 1 ≤ n) (h6 : n ≤ 6) (hT : 1 ≤ T) (hT2 : T ≤ 1000) (h : Go.Sx.All.GoodRow n T L k) : RowOk n fun j => cellOf L (.cons (.i k) (.cons (.i 6) (.cons (.i j) .nil))) := by
  obtain ⟨x, g1, g2, g3, g4⟩ := h
  have e : ∀ j : Nat, j < 6 → cellOf L (.cons (.i k) (.cons (.i 6) (.cons (.i j) .nil))) = .i (x j) := fun j hj => by
    show Sc.snd ((L[k * 6 + j]?).getD .nil) = _
    rw [show k * 6 + j = 6 * k + j by omega, g1 j hj]
    rfl
  obtain ⟨_, hle⟩ := Go.Sx.All.sumTo_nn (d := x) (m := 6) g2
  rw [g4] at hle
  have hw : ∀ j, j < 6 → IntKind.i64.wrap (x j) = x j := fun j hj => by
    have := g2 j hj; have := hle j hj
    exact wg64 (by omega) (by omega)
  refine ⟨?_, fun j hj => by simp only [e j hj, Sc.toI_i, hw j hj]⟩
  refine adT_of (fun j _ hj => ?_) ?_
  · have hj : j < 6 := by omega
    simp only [e j hj, Sc.toI_i, hw j hj]
    have := g2 j hj; have := hle j hj
    exact ⟨⟨by omega, by omega⟩, fun hn => g3 j hn hj⟩
  · have ht : ∀ m, m ≤ 6 → ((totW n m).den ⟨fun j => cellOf L (.cons (.i k) (.cons (.i 6) (.cons (.i j) .nil))), fun _ c => c⟩).toI = Go.Sx.All.sumTo x m := by
      intro m
      induction m with
      | zero => intro _; rfl
      | succ m ih =>
        intro hm
        have hb : (((match Nat.blt m n with | true => W64 m | false => .var m) : Tm).den ⟨fun j => cellOf L (.cons (.i k) (.cons (.i 6) (.cons (.i j) .nil))), fun _ c => c⟩).toI = x m := by
          cases Nat.blt m n with
          | true =>
            show IntKind.i64.wrap (cellOf L (.cons (.i k) (.cons (.i 6) (.cons (.i m) .nil)))).toI = _
            rw [e m (by omega)]; exact hw m (by omega)
          | false =>
            show (cellOf L (.cons (.i k) (.cons (.i 6) (.cons (.i m) .nil)))).toI = _
            rw [e m (by omega)]; rfl
        show IntKind.i64.wrap (((totW n m).den _).toI + (((match Nat.blt m n with | true => W64 m | false => .var m) : Tm).den _).toI) = Go.Sx.All.sumTo x m + x m
        rw [ih (by omega), hb]
        obtain ⟨s1, s2⟩ := Go.Sx.All.sumTo_nn (d := x) (m := m) fun i hi => g2 i (by omega)
        have s3 : ∀ m, m ≤ 6 → Go.Sx.All.sumTo x m ≤ 1000 * m := by
          intro m
          induction m with
          | zero => intro _; exact Int.le_refl _
          | succ m ih3 =>
            intro hm
            have := ih3 (by omega)
            have := hle m (by omega)
            simp only [Go.Sx.All.sumTo]
            omega
        have := s3 m (by omega)
        have := g2 m (by omega); have := hle m (by omega)
        exact wg64 (by omega) (by omega)
    rw [ht 6 (Nat.le_refl _), g4]
    omega
theorem ex_ok (hE : FokL E.fn) {c : Nat} (h2 : 2 ≤ c) (h6 : c ≤ 6) (h : PcOk E (asAl c)) : PcOk E (exAl c) := by
  obtain ⟨hT0, hq⟩ := asT_of h
  obtain ⟨hT, hT1⟩ := tot_of hT0
  have hA := alT_den hE h2 h6
  have e0 : (Tm.nth 0 (alT c)).den E = (lenS c).den E := by show ((alT c).den E).at_ 0 = _; rw [hA]; rfl
  have e1 : (Tm.nth 1 (alT c)).den E = (rowS c).den E := by show ((alT c).den E).at_ 1 = _; rw [hA]; rfl
  have hg := good_list hE h2 h6 hT
  obtain ⟨q1, _, q3⟩ := (one_list hE h2 h6 hT).1 hq
  rw [q1] at q3
  refine PcOk.cons (PcOk.cons (PcOk.cons (fun p hp => by cases hp) ?_) ?_) ?_
  · show decide (((Tm.nth 0 (alT c)).den E).toI ≤ 500) = true
    rw [e0]; exact decide_eq_true q3
  · show decide (0 ≤ ((Tm.nth 0 (alT c)).den E).toI) = true
    rw [e0]; exact decide_eq_true hg.n0
  · show (E.fn (920 + c) (.cons ((Tm.nth 0 (alT c)).den E) (.cons ((Tm.nth 1 (alT c)).den E) .nil))).toB = true
    rw [hE.g.vl c (by omega) h6, e0, e1]
    refine vlF_true.2 fun k hk => row_ok (by omega) h6 hT1 hT.2 (hg.row k ?_)
    have hk' : (k : Int) < ((lenS c).den E).toI := hk
    have := hg.n0
    omega
theorem more_ok (hE : FokL E.fn) {c : Nat} (h2 : 2 ≤ c) (h6 : c ≤ 6) (h : PcOk E (asAl c)) : PcOk E ((moreI c, false) :: asAl c) ∧ (lenI c).den E = (lenS c).den E ∧ (rowI c).den E = (rowS c).den E := by
  obtain ⟨hT0, hq⟩ := asT_of h
  obtain ⟨q1, q2, q3⟩ := (one_list hE h2 h6 (tot_of hT0).1).1 hq
  exact ⟨h.cons (decide_eq_false (show ¬ (500 : Int) < ((lenI c).den E).toI by omega)), q1, q2⟩
theorem less_ok (hE : FokL E.fn) {c : Nat} (h2 : 2 ≤ c) (h6 : c ≤ 6) (h : PcOk E (asAe c)) : PcOk E ((moreI c, true) :: asAe c) := by
  obtain ⟨hT0, hq⟩ := asT_of h
  have := (one_list hE h2 h6 (tot_of hT0).1).2 hq
  exact h.cons (decide_eq_true (show (500 : Int) < ((lenI c).den E).toI from this))
def plS (c : Nat) : Sum := call (cxS c (c - 1)) Tryz.prog 1000 42
def plI (c : Nat) : Sum := call (cxI c (c - 1)) Tryz.prog 1000 44
def alS (c : Nat) : Sum := sumO foA (5000 + c) paAl (asAl c) (exAl c) (plS c)
def alE (c : Nat) : Sum := sumQ paAl (asAe c) (fun _ => errA) (plI c)
def alI (c : Nat) : Sum := sumO foA (5000 + c) paAl (asAl c) (exAl c) (alE c)
theorem cxS_G (hE : FokL E.fn) {c : Nat} (h2 : 2 ≤ c) (h6 : c ≤ 6) : ∀ E' : Env, E'.fn = E.fn → CtxOk Tryz.prog E' (cxS c (c - 1)) ∧ CtxPc E' (cxS c (c - 1)) := fun E' h => cxS_ok h6 (c - 1) (by omega) E' (by rw [h]; exact hE)
theorem cxI_G (hE : FokL E.fn) {c : Nat} (h2 : 2 ≤ c) (h6 : c ≤ 6) : ∀ E' : Env, E'.fn = E.fn → CtxOk Tryz.prog E' (cxI c (c - 1)) ∧ CtxPc E' (cxI c (c - 1)) := fun E' h => cxI_ok h6 (c - 1) (by omega) E' (by rw [h]; exact hE)
theorem plS_ok (hE : FokL E.fn) {c : Nat} (h2 : 2 ≤ c) (h6 : c ≤ 6) : SumOk Tryz.prog E 42 (plS c) := call_ok (cxS_G hE h2 h6 E rfl).1 (cxS_G hE h2 h6 E rfl).2 nm mixed 1000 42
theorem plS_pc (hE : FokL E.fn) {c : Nat} (h2 : 2 ≤ c) (h6 : c ≤ 6) : ∀ args m pc, PcOk E pc → Pcs E Res.pc (plS c args m pc) := call_pc (cxS_G hE h2 h6 E rfl).2 1000 42
theorem plI_ok (hE : FokL E.fn) {c : Nat} (h2 : 2 ≤ c) (h6 : c ≤ 6) : SumOk Tryz.prog E 44 (plI c) := call_ok (cxI_G hE h2 h6 E rfl).1 (cxI_G hE h2 h6 E rfl).2 nm mixed 1000 44
theorem plI_pc (hE : FokL E.fn) {c : Nat} (h2 : 2 ≤ c) (h6 : c ≤ 6) : ∀ args m pc, PcOk E pc → Pcs E Res.pc (plI c args m pc) := call_pc (cxI_G hE h2 h6 E rfl).2 1000 44
theorem alE_one (hE : FokL E.fn) {c : Nat} (h2 : 2 ≤ c) (h6 : c ≤ 6) (hj : (Nat.ble (bldP paAl 0 0).j 1000 && undersF (bldP paAl 0 0).n (asAe c)) = true) (hk : retV (oAE c) errA = true) : SumOk Tryz.prog E 44 (alE c) :=
  sumQ_ok (n := 1000) (pcx := (moreI c, true) :: asAe c) (cxI_G hE h2 h6) nm mixed hj (fun E' h hp => less_ok (by rw [h]; exact hE) h2 h6 hp) (fun E' ts _ _ _ _ => by
    unfold retV at hk
    split at hk
    · rename_i r hr
      refine ⟨r, by rw [show callQ Tryz.prog (cxI c (c - 1)) 1000 44 paAl ((moreI c, true) :: asAe c) = .ret r from hr]; rfl, fun β' β v hv => ?_⟩
      rw [SV.beq_eq _ _ hk] at hv
      simpa only [errA, SV.rep, SV.reps, Tm.den] using hv
    · cases hk) (plI_ok hE h2 h6)
theorem alS_one (hE : FokL E.fn) {c : Nat} (h2 : 2 ≤ c) (h6 : c ≤ 6) (hj : ((Nat.ble (bldP paAl 0 0).j 1000 && undersF (bldP paAl 0 0).n (asAl c)) && ((LDl c).under (bldP paAl 0 0).n && undersF (bldP paAl 0 0).n (exAl c))) = true) (hk : isO (oAS c) (lenS c) (rowS c) = true) : SumOk Tryz.prog E 42 (alS c) :=
  sumO_ok (n := 1000) (pcx := asAl c) (T0 := lenS c) (T1 := rowS c) (cxS_G hE h2 h6) nm mixed (ldOf hE h2 h6) hj (fun _ _ h => h) (fun E' h hp => ex_ok (by rw [h]; exact hE) h2 h6 hp) (isO_eq hk) (fun _ _ _ => ⟨rfl, rfl⟩) (plS_ok hE h2 h6)
theorem alI_one (hE : FokL E.fn) {c : Nat} (h2 : 2 ≤ c) (h6 : c ≤ 6) (hj : ((Nat.ble (bldP paAl 0 0).j 1000 && undersF (bldP paAl 0 0).n (asAl c)) && ((LDl c).under (bldP paAl 0 0).n && undersF (bldP paAl 0 0).n (exAl c))) = true) (hk : isO (oAI c) (lenI c) (rowI c) = true) (hels : SumOk Tryz.prog E 44 (alE c)) : SumOk Tryz.prog E 44 (alI c) :=
  sumO_ok (n := 1000) (pcx := (moreI c, false) :: asAl c) (T0 := lenI c) (T1 := rowI c) (cxI_G hE h2 h6) nm mixed (ldOf hE h2 h6) hj (fun E' h hp => (more_ok (by rw [h]; exact hE) h2 h6 hp).1) (fun E' h hp => ex_ok (by rw [h]; exact hE) h2 h6 hp) (isO_eq hk)
    (fun E' h hp => by
      obtain ⟨_, q1, q2⟩ := more_ok (by rw [h]; exact hE) h2 h6 hp
      exact ⟨q1.symm, q2.symm⟩) hels
theorem alS_ok (hE : FokL E.fn) (c : Nat) (h2 : 2 ≤ c) (h6 : c ≤ 6) : SumOk Tryz.prog E 42 (alS c) := by
  match c, h2, h6 with
  | 2, h2, h6 => exact alS_one hE h2 h6 kj_2 kS_2
  | 3, h2, h6 => exact alS_one hE h2 h6 kj_3 kS_3
  | 4, h2, h6 => exact alS_one hE h2 h6 kj_4 kS_4
  | 5, h2, h6 => exact alS_one hE h2 h6 kj_5 kS_5
  | 6, h2, h6 => exact alS_one hE h2 h6 kj_6 kS_6
theorem alI_ok (hE : FokL E.fn) (c : Nat) (h2 : 2 ≤ c) (h6 : c ≤ 6) : SumOk Tryz.prog E 44 (alI c) := by
  match c, h2, h6 with
  | 2, h2, h6 => exact alI_one hE h2 h6 kj_2 kI_2 (alE_one hE h2 h6 ke_2 kE_2)
  | 3, h2, h6 => exact alI_one hE h2 h6 kj_3 kI_3 (alE_one hE h2 h6 ke_3 kE_3)
  | 4, h2, h6 => exact alI_one hE h2 h6 kj_4 kI_4 (alE_one hE h2 h6 ke_4 kE_4)
  | 5, h2, h6 => exact alI_one hE h2 h6 kj_5 kI_5 (alE_one hE h2 h6 ke_5 kE_5)
  | 6, h2, h6 => exact alI_one hE h2 h6 kj_6 kI_6 (alE_one hE h2 h6 ke_6 kE_6)
theorem ux {c : Nat} (h2 : 2 ≤ c) (h6 : c ≤ 6) : (undersF (bldP paAl 0 0).n (asAl c) && undersF (bldP paAl 0 0).n (exAl c)) = true := by
  have : ∀ {a b d e : Bool}, ((a && b) && (d && e)) = true → (b && e) = true := by decide
  match c, h2, h6 with
  | 2, h2, h6 => exact this kj_2
  | 3, h2, h6 => exact this kj_3
  | 4, h2, h6 => exact this kj_4
  | 5, h2, h6 => exact this kj_5
  | 6, h2, h6 => exact this kj_6
theorem alS_pc (hE : FokL E.fn) (c : Nat) (h2 : 2 ≤ c) (h6 : c ≤ 6) : ∀ args m pc, PcOk E pc → Pcs E Res.pc (alS c args m pc) := sumO_pc (ux h2 h6) (fun E' h hp => ex_ok (by rw [h]; exact hE) h2 h6 hp) (plS_pc hE h2 h6)
theorem alI_pc (hE : FokL E.fn) (c : Nat) (h2 : 2 ≤ c) (h6 : c ≤ 6) : ∀ args m pc, PcOk E pc → Pcs E Res.pc (alI c args m pc) := sumO_pc (ux h2 h6) (fun E' h hp => ex_ok (by rw [h]; exact hE) h2 h6 hp) (sumQ_pc (plI_pc hE h2 h6))
def litA : List SV → Mem → Option Nat
  | [.sc _ (.il (.ofNat n)), .sc _ _], _ => match Nat.ble 2 n, Nat.ble n 6 with
    | true, true => some n
    | _, _ => none
  | _, _ => none
theorem litA_ok {args : List SV} {mem : Mem} {k : Nat} (h : litA args mem = some k) : 2 ≤ k ∧ k ≤ 6 := by
  unfold litA at h
  split at h
  · split at h
    · rename_i h1 h2
      cases h
      exact ⟨Nat.le_of_ble_eq_true h1, Nat.le_of_ble_eq_true h2⟩
    · cases h
  · cases h
theorem baseA_ok : CtxOk Tryz.prog E baseA ∧ CtxPc E baseA := withFx_ok ctxL_nil _
def elD (f : Nat) : Sum := call baseA Tryz.prog 1000 f
def lD : List (Nat × Sum) := (42, dispA litA alS (elD 42)) :: (44, dispA litA alI (elD 44)) :: lX
def cxD : Ctx := ctxL lD
theorem cxD_okF (hE : FokL E.fn) : CtxOk Tryz.prog E cxD ∧ CtxPc E cxD :=
  ctxL_cons (ctxL_cons (cxX_okF hE.g)
    (dispA_ok (fun _ _ n hn => alI_ok hE n (litA_ok hn).1 (litA_ok hn).2) (call_ok baseA_ok.1 baseA_ok.2 nm mixed 1000 44)) (dispA_pc (fun _ _ n hn => alI_pc hE n (litA_ok hn).1 (litA_ok hn).2) (call_pc baseA_ok.2 1000 44)))
    (dispA_ok (fun _ _ n hn => alS_ok hE n (litA_ok hn).1 (litA_ok hn).2) (call_ok baseA_ok.1 baseA_ok.2 nm mixed 1000 42)) (dispA_pc (fun _ _ n hn => alS_pc hE n (litA_ok hn).1 (litA_ok hn).2) (call_pc baseA_ok.2 1000 42))
end
end Go.Proofs.YtfdpcmijifdfeaaGreat.Leaf
