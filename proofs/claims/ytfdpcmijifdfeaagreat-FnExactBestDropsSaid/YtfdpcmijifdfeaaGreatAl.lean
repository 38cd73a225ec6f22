/- All drops: names, laws of the loops, contracts: one list for the program and the model, its rows being valid drops. No condition. -/
import Derived.Test.YtfdpcmijifdfeaaGreatGb
import Derived.Test.YtfdpcmijifdfeaaGreatSxAll
set_option linter.unusedVariables false
set_option linter.unusedSimpArgs false
set_option maxRecDepth 100000
noncomputable section
namespace Go.Proofs.YtfdpcmijifdfeaaGreat.Leaf
open Go.Sx
open Go.Sx.All (SI SS NI NS v0T chT TotOk Agree)
theorem FokG_of {F : Nat → Sc → Sc} (h : ∀ k, k < 1000 → F k = FG k) : FokG F := by
  have dd : ∀ (l : List (Nat × Tm)) (b : Nat), defsAsc l b = true → ∀ id D, (id, D) ∈ l → id < b ∧ D.appsLt id = true := by
    intro l
    induction l with
    | nil => intro b _ id D hm; cases hm
    | cons x r ih =>
      intro b hb id D hm
      obtain ⟨i, T⟩ := x
      simp only [defsAsc] at hb
      split at hb
      · rename_i h1 h2
        have hlt : i < b := by simpa [Nat.blt_eq] using h1
        rcases List.mem_cons.1 hm with hm | hm
        · cases hm; exact ⟨hlt, h2⟩
        · obtain ⟨g1, g2⟩ := ih i hb id D hm
          exact ⟨Nat.lt_trans g1 hlt, g2⟩
      · cases hb
  have gd : ∀ id D, (id, D) ∈ DsG → ∀ c, F id c = D.den ⟨fun i => c.at_ i, F⟩ := fun id D hm c => by
    obtain ⟨h1, h2⟩ := dd _ _ ascG id D hm
    rw [h id (by omega), FokG_FG.gd id D hm c]
    exact apps_den (v := fun i => c.at_ i) (m := id) (fun k hk => (h k (by omega)).symm) h2
  exact { defs := fun id D hm c => gd id D (dsG3 (.tail _ (.tail _ hm))) c, rows := fun c => by rw [h 900 (by omega)]; exact FokG_FG.rows c, name := fun c => by rw [h 0 (by omega)]; exact FokG_FG.name c,
          size := fun c => by rw [h 1 (by omega)]; exact FokG_FG.size c, defs3 := fun id D hm c => gd id D (dsG3 hm) c, defs4 := fun id D hm c => gd id D (dsG4 hm) c, gd := gd,
          vl := fun n h1 h6 c => by rw [h (920 + n) (by omega)]; exact FokG_FG.vl n h1 h6 c }
def specOf (k : Nat) : LoopSpec := if k < 4000 then SI ((k - 3000) / 10) (5 - (k - 3000) % 10) else SS ((k - 4000) / 10) (5 - (k - 4000) % 10)
theorem spec_I {c l : Nat} (hc : c ≤ 6) (hl : l ≤ 5) : specOf (NI c l) = SI c l := by
  unfold specOf NI
  rw [if_pos (by omega)]
  congr 1 <;> omega
theorem spec_S {c l : Nat} (hc : c ≤ 6) (hl : l ≤ 5) : specOf (NS c l) = SS c l := by
  unfold specOf NS
  rw [if_neg (by omega)]
  congr 1 <;> omega
def bE : Nat → Nat → Sc → Sc
  | 0 => FG
  | t + 1 => fun k c => if k = 3000 + t then loopN (specOf (3000 + t)) 0 (bE t) c else bE t k c
theorem bE_lo {n : Nat} : ∀ {m k : Nat}, n ≤ m → k < 3000 + n → bE m k = bE n k
  | 0, k, h, _ => by have : n = 0 := by omega
                     subst this; rfl
  | m + 1, k, h, hk => by
    by_cases e : n = m + 1
    · subst e; rfl
    · funext c
      have : ¬ k = 3000 + m := by omega
      show (if k = 3000 + m then _ else bE m k c) = _
      rw [if_neg this, bE_lo (m := m) (by omega) hk]
theorem bE_at {n : Nat} : ∀ {m : Nat}, n < m → ∀ c, bE m (3000 + n) c = loopN (specOf (3000 + n)) 0 (bE n) c
  | m + 1, h, c => by
    by_cases e : n = m
    · subst e
      show (if 3000 + n = 3000 + n then _ else _) = _
      rw [if_pos rfl]
    · show (if 3000 + n = 3000 + m then _ else bE m (3000 + n) c) = _
      rw [if_neg (by omega)]
      exact bE_at (m := m) (by omega) c
def lenI (c : Nat) : Tm := .nth 3 (.app (NI c 0) (consT (chT c (c - 2) 0)))
def rowI (c : Nat) : Tm := .nth 4 (.app (NI c 0) (consT (chT c (c - 2) 0)))
def lenS (c : Nat) : Tm := .nth 3 (.app (NS c 0) (consT (v0T 0)))
def rowS (c : Nat) : Tm := .nth 4 (.app (NS c 0) (consT (v0T 0)))
def qS (c : Nat) : Tm := .op .lei (.nth 0 (.app (NS c 0) (consT (v0T 0)))) (.var 1)
def LDl (c : Nat) : Tm := .cons (lenS c) (.cons (rowS c) .nil)
def DsL : List (Nat × Tm) := (5006, LDl 6) :: (5005, LDl 5) :: (5004, LDl 4) :: (5003, LDl 3) :: (5002, LDl 2) :: []
theorem ascL : defsAsc DsL 5100 = true := by kernel_rfl
def FL : Nat → Sc → Sc := buildF (bE 1100) DsL
theorem FL_lo {k : Nat} (h : k < 5000) : FL k = bE 1100 k := by
  have h6 : ¬ k = 5006 := by omega
  have h5 : ¬ k = 5005 := by omega
  have h4 : ¬ k = 5004 := by omega
  have h3 : ¬ k = 5003 := by omega
  have h2 : ¬ k = 5002 := by omega
  funext c
  unfold FL
  simp only [DsL, buildF, if_neg h6, if_neg h5, if_neg h4, if_neg h3, if_neg h2]
structure FokL (F : Nat → Sc → Sc) : Prop where
  base : ∀ k, k < 3000 → F k = FG k
  lp : ∀ t, t < 1100 → ∀ c, F (3000 + t) c = loopN (specOf (3000 + t)) 0 (bE t) c
  lo : ∀ t, t < 1100 → ∀ k, k < 3000 + t → F k = bE t k
  ld : ∀ id D, (id, D) ∈ DsL → ∀ c, F id c = D.den ⟨fun i => c.at_ i, F⟩
theorem FokL.g {F : Nat → Sc → Sc} (h : FokL F) : FokG F := FokG_of fun k hk => h.base k (by omega)
theorem FokL_of {F : Nat → Sc → Sc} (h : ∀ k, k < 5100 → F k = FL k) : FokL F where
  base := fun k hk => by rw [h k (by omega), FL_lo (by omega), bE_lo (n := 0) (by omega) (by omega)]; rfl
  lp := fun t ht c => by rw [h _ (by omega), FL_lo (by omega)]; exact bE_at ht c
  lo := fun t ht k hk => by rw [h _ (by omega), FL_lo (by omega)]; exact bE_lo (by omega) hk
  ld := fun id D hm c => by
    have hb : id < 5100 ∧ D.appsLt 5100 = true := by
      simp only [DsL, List.mem_cons, Prod.mk.injEq, List.not_mem_nil, or_false] at hm
      rcases hm with ⟨rfl, rfl⟩ | ⟨rfl, rfl⟩ | ⟨rfl, rfl⟩ | ⟨rfl, rfl⟩ | ⟨rfl, rfl⟩ <;> exact ⟨by decide, by kernel_rfl⟩
    rw [h id hb.1]
    refine (buildF_def ascL hm c).trans ?_
    exact apps_den (v := fun i => c.at_ i) (m := 5100) (fun k hk => (h k hk).symm) hb.2
theorem FokL_FL : FokL FL := FokL_of fun _ _ => rfl
theorem ci_2_0 : ((SI 2 0).closed 0 && (SS 2 0).closed 0) = true := by kernel_rfl
theorem ci_3_0 : ((SI 3 0).closed 0 && (SS 3 0).closed 0) = true := by kernel_rfl
theorem ci_3_1 : ((SI 3 1).closed 0 && (SS 3 1).closed 0) = true := by kernel_rfl
theorem ci_4_0 : ((SI 4 0).closed 0 && (SS 4 0).closed 0) = true := by kernel_rfl
theorem ci_4_1 : ((SI 4 1).closed 0 && (SS 4 1).closed 0) = true := by kernel_rfl
theorem ci_4_2 : ((SI 4 2).closed 0 && (SS 4 2).closed 0) = true := by kernel_rfl
theorem ci_5_0 : ((SI 5 0).closed 0 && (SS 5 0).closed 0) = true := by kernel_rfl
theorem ci_5_1 : ((SI 5 1).closed 0 && (SS 5 1).closed 0) = true := by kernel_rfl
theorem ci_5_2 : ((SI 5 2).closed 0 && (SS 5 2).closed 0) = true := by kernel_rfl
theorem ci_5_3 : ((SI 5 3).closed 0 && (SS 5 3).closed 0) = true := by kernel_rfl
theorem ci_6_0 : ((SI 6 0).closed 0 && (SS 6 0).closed 0) = true := by kernel_rfl
theorem ci_6_1 : ((SI 6 1).closed 0 && (SS 6 1).closed 0) = true := by kernel_rfl
theorem ci_6_2 : ((SI 6 2).closed 0 && (SS 6 2).closed 0) = true := by kernel_rfl
theorem ci_6_3 : ((SI 6 3).closed 0 && (SS 6 3).closed 0) = true := by kernel_rfl
theorem ci_6_4 : ((SI 6 4).closed 0 && (SS 6 4).closed 0) = true := by kernel_rfl
theorem cl_ {c l : Nat} (h : l + 2 ≤ c) (hc : c ≤ 6) : ((SI c l).closed 0 && (SS c l).closed 0) = true := by
  match c, l, h, hc with
  | 2, 0, _, _ => exact ci_2_0
  | 3, 0, _, _ => exact ci_3_0
  | 3, 1, _, _ => exact ci_3_1
  | 4, 0, _, _ => exact ci_4_0
  | 4, 1, _, _ => exact ci_4_1
  | 4, 2, _, _ => exact ci_4_2
  | 5, 0, _, _ => exact ci_5_0
  | 5, 1, _, _ => exact ci_5_1
  | 5, 2, _, _ => exact ci_5_2
  | 5, 3, _, _ => exact ci_5_3
  | 6, 0, _, _ => exact ci_6_0
  | 6, 1, _, _ => exact ci_6_1
  | 6, 2, _, _ => exact ci_6_2
  | 6, 3, _, _ => exact ci_6_3
  | 6, 4, _, _ => exact ci_6_4
  | 0, l, h, _ => exact absurd h (by omega)
  | 1, l, h, _ => exact absurd h (by omega)
  | 2, l + 1, h, _ => exact absurd h (by omega)
  | 3, l + 2, h, _ => exact absurd h (by omega)
  | 4, l + 3, h, _ => exact absurd h (by omega)
  | 5, l + 4, h, _ => exact absurd h (by omega)
  | 6, l + 5, h, _ => exact absurd h (by omega)
  | c + 7, l, _, h => exact absurd h (by omega)
section
variable {E : Env}
theorem bE2 {a b : Bool} (h : (a && b) = true) : a = true ∧ b = true := by simpa using h
theorem laws (hE : FokL E.fn) {c : Nat} (hc : c ≤ 6) : ∀ r l, c = r + l + 2 → LoopLaw (SI c l) E ∧ LoopLaw (SS c l) E ∧ Agree E c l := by
  intro r
  induction r with
  | zero => intro l h; exact one l h fun hne => absurd h (by omega)
  | succ r ih => intro l h; exact one l h fun _ => ih (l + 1) (by omega)
where
  one (l : Nat) {r : Nat} (h : c = r + l + 2) (hin : l + 2 ≠ c → LoopLaw (SI c (l + 1)) E ∧ LoopLaw (SS c (l + 1)) E ∧ Agree E c (l + 1)) : LoopLaw (SI c l) E ∧ LoopLaw (SS c l) E ∧ Agree E c l := by
    have k := bE2 (cl_ (c := c) (l := l) (by omega) hc)
    have tI : NI c l = 3000 + (NI c l - 3000) := by unfold NI; omega
    have tS : NS c l = 3000 + (NS c l - 3000) := by unfold NS; omega
    have bI : NI c l - 3000 < 1100 := by unfold NI; omega
    have bS : NS c l - 3000 < 1100 := by unfold NS; omega
    have lI := hE.lp _ bI
    have lS := hE.lp _ bS
    rw [← tI, spec_I hc (by omega)] at lI
    rw [← tS, spec_S hc (by omega)] at lS
    refine ⟨Go.Sx.All.SI_law k.1 lI (fun q hq => hE.lo _ bI q (by omega)) (fun hne => (hin hne).1), Go.Sx.All.SS_law k.2 lS (fun q hq => hE.lo _ bS q (by omega)) (fun hne => (hin hne).2.1), Go.Sx.All.agree fun hne => ⟨(hin hne).1, (hin hne).2.1, (hin hne).2.2⟩⟩
/-! Contexts -/
def baseA : Ctx := withFx (ctxL []) (fun g => Nat.beq g 64 || Nat.beq g 61)
def cxI (c : Nat) : Nat → Ctx
  | 0 => baseA
  | k + 1 => withLoops (cxI c k) Tryz.prog 1000 [(5, SI c (c - 2 - k))]
def cxS (c : Nat) : Nat → Ctx
  | 0 => baseA
  | k + 1 => withLoops (cxS c k) Tryz.prog 1000 [(5, SS c (c - 2 - k))]
theorem cxI_ok {c : Nat} (hc : c ≤ 6) : ∀ k, k + 1 ≤ c → ∀ E : Env, FokL E.fn → CtxOk Tryz.prog E (cxI c k) ∧ CtxPc E (cxI c k)
  | 0, _, E, _ => withFx_ok ctxL_nil _
  | k + 1, hk, E, hE => withLoops_ok (fun E' h => cxI_ok hc k (by omega) E' (by rw [h]; exact hE)) nm mixed fun q S hS => by
    simp only [List.mem_cons, Prod.mk.injEq, List.not_mem_nil, or_false] at hS
    obtain ⟨_, rfl⟩ := hS
    exact (laws hE hc k (c - 2 - k) (by omega)).1
theorem cxS_ok {c : Nat} (hc : c ≤ 6) : ∀ k, k + 1 ≤ c → ∀ E : Env, FokL E.fn → CtxOk Tryz.prog E (cxS c k) ∧ CtxPc E (cxS c k)
  | 0, _, E, _ => withFx_ok ctxL_nil _
  | k + 1, hk, E, hE => withLoops_ok (fun E' h => cxS_ok hc k (by omega) E' (by rw [h]; exact hE)) nm mixed fun q S hS => by
    simp only [List.mem_cons, Prod.mk.injEq, List.not_mem_nil, or_false] at hS
    obtain ⟨_, rfl⟩ := hS
    exact (laws hE hc k (c - 2 - k) (by omega)).2.1
theorem one_list (hE : FokL E.fn) {c : Nat} (h2 : 2 ≤ c) (hc : c ≤ 6) (hT : TotOk E) :
    (((qS c).den E).toB = false → (lenI c).den E = (lenS c).den E ∧ (rowI c).den E = (rowS c).den E ∧ ((lenI c).den E).toI ≤ 500) ∧ (((qS c).den E).toB = true → 500 < ((lenI c).den E).toI) := by
  have hl := laws hE hc (c - 2) 0 (by omega)
  have hall : ∀ l, l + 2 ≤ c → LoopLaw (SI c l) E := fun l h => (laws hE hc (c - 2 - l) l (by omega)).1
  have hV := Go.Sx.All.v0_ok hT 0
  have hch := Go.Sx.All.ch_eq hT hall (c - 2) 0 (by omega)
  have rI := (hl.1 _ (by rw [hV.len]; simp [SI, LoopSpec.width, Go.Sx.All.plA]) ((Go.Sx.All.inv_ok hV.len).2 hV)).1
  have rS := (hl.2.1 _ (by rw [hV.len]; simp [SS, LoopSpec.width, Go.Sx.All.plA]) ((Go.Sx.All.inv_ok hV.len).2 hV)).1
  have hlen : (chT c (c - 2) 0).length = 5 := by cases c - 2 <;> simp [chT, Go.Sx.All.frame]
  have a3 : (lenI c).den E = (Go.Sx.finS (SI c 0) E ((v0T 0).map (Tm.den E))).getD 3 .nil := by rw [← hch]; exact Go.Sx.All.app_at (S := SI c 0) rfl rfl (by omega)
  have a4 : (rowI c).den E = (Go.Sx.finS (SI c 0) E ((v0T 0).map (Tm.den E))).getD 4 .nil := by rw [← hch]; exact Go.Sx.All.app_at (S := SI c 0) rfl rfl (by omega)
  have b3 : (lenS c).den E = (Go.Sx.finS (SS c 0) E ((v0T 0).map (Tm.den E))).getD 3 .nil := Go.Sx.All.app_at (S := SS c 0) rfl rfl (by simp [v0T, Go.Sx.All.frame])
  have b4 : (rowS c).den E = (Go.Sx.finS (SS c 0) E ((v0T 0).map (Tm.den E))).getD 4 .nil := Go.Sx.All.app_at (S := SS c 0) rfl rfl (by simp [v0T, Go.Sx.All.frame])
  have b0 : (Tm.nth 0 (.app (NS c 0) (consT (v0T 0)))).den E = (Go.Sx.finS (SS c 0) E ((v0T 0).map (Tm.den E))).getD 0 .nil := Go.Sx.All.app_at (S := SS c 0) rfl rfl (by simp [v0T, Go.Sx.All.frame])
  have ht : (Go.Sx.finS (SS c 0) E ((v0T 0).map (Tm.den E))).getD 1 .nil = E.v 1 := by
    rw [Go.Sx.All.tot_const rS hV.len]; rfl
  have hag := hl.2.2 _ _ ⟨hV, hV, fun _ _ => rfl⟩ (by show (0 : Int) ≤ 500; decide) _ _ rI rS
  rw [ht] at hag
  have eq : ((qS c).den E).toB = decide (((Go.Sx.finS (SS c 0) E ((v0T 0).map (Tm.den E))).getD 0 .nil).toI ≤ (E.v 1).toI) := by
    show decide (((Tm.nth 0 (.app (NS c 0) (consT (v0T 0)))).den E).toI ≤ (E.v 1).toI) = _
    rw [b0]
  refine ⟨fun h => ?_, fun h => ?_⟩
  · rw [eq] at h
    obtain ⟨q1, q2, q3⟩ := hag.1 (by have := of_decide_eq_false h; omega)
    rw [a3, a4, b3, b4]
    exact ⟨q1, q2, q3⟩
  · rw [eq] at h
    have := hag.2 (of_decide_eq_true h)
    rw [a3]
    exact this
/-! The rows are valid drops -/
theorem good_list (hE : FokL E.fn) {c : Nat} (h2 : 2 ≤ c) (hc : c ≤ 6) (hT : TotOk E) : Go.Sx.All.Good c (E.v 1).toI ((rowS c).den E).list ((lenS c).den E).toI := by
  have hl := laws hE hc (c - 2) 0 (by omega)
  have hV := Go.Sx.All.v0_ok hT 0
  have rS := (hl.2.1 _ (by rw [hV.len]; simp [SS, LoopSpec.width, Go.Sx.All.plA]) ((Go.Sx.All.inv_ok hV.len).2 hV)).1
  have b3 : (lenS c).den E = (Go.Sx.finS (SS c 0) E ((v0T 0).map (Tm.den E))).getD 3 .nil := Go.Sx.All.app_at (S := SS c 0) rfl rfl (by simp [v0T, Go.Sx.All.frame])
  have b4 : (rowS c).den E = (Go.Sx.finS (SS c 0) E ((v0T 0).map (Tm.den E))).getD 4 .nil := Go.Sx.All.app_at (S := SS c 0) rfl rfl (by simp [v0T, Go.Sx.All.frame])
  have hk := Go.Sx.All.keep (E := E) hc (fun l h => (laws hE hc (c - 2 - l) l (by omega)).2.1) (c - 2) 0 (by omega) (E.v 1).toI _ _ rS
    ⟨hV, ⟨0, (E.v 1).toI, fun _ => 0, rfl, rfl, fun i hi => absurd hi (by omega), by simp [Go.Sx.All.sumTo]⟩, Go.Sx.All.Good.nil⟩
  rw [b3, b4]
  exact hk.good
end
end Go.Proofs.YtfdpcmijifdfeaaGreat.Leaf
