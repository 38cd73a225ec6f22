/- Loops named by where their rounds end; loops that count. No condition. -/
import Derived.Test.YtfdpcmijifdfeaaGreatSxLoop
import Derived.Test.YtfdpcmijifdfeaaGreatSxPat
import Derived.Test.YtfdpcmijifdfeaaGreatSxRes
set_option linter.unusedVariables false
set_option linter.unusedSimpArgs false
noncomputable section
namespace Go.Sx
open Go Go.RowKit

theorem Rounds.unique {S : LoopSpec} {E : Env} {v z : List Sc} (h : Rounds S E v z) : ∀ {z' : List Sc}, Rounds S E v z' → z = z' := by
  induction h with
  | stop _ h2 =>
    intro z' h'
    cases h' with
    | stop => rfl
    | more _ k2 _ => rw [h2] at k2; cases hp : S.pol <;> simp [hp] at k2
  | more _ h2 _ ih =>
    intro z' h'
    cases h' with
    | stop _ k2 => rw [k2] at h2; cases hp : S.pol <;> simp [hp] at h2
    | more _ _ k3 => exact ih k3
theorem Rounds.length {S : LoopSpec} {E : Env} {v z : List Sc} (h : Rounds S E v z) (hn : v.length = S.next.length) : z.length = v.length := by
  induction h with
  | stop _ _ => rfl
  | more _ _ _ ih => rw [ih (by simp)]; simp [hn]
open Classical in
/-- Where the rounds end, if they do. -/
noncomputable def LoopSpec.ends (S : LoopSpec) (E : Env) (v : List Sc) : List Sc := if h : ∃ z, Rounds S E v z then Classical.choose h else v
theorem LoopSpec.ends_eq {S : LoopSpec} {E : Env} {v z : List Sc} (h : Rounds S E v z) : S.ends E v = z := by
  unfold LoopSpec.ends
  have hx : ∃ z, Rounds S E v z := ⟨z, h⟩
  rw [dif_pos hx]
  exact (Classical.choose_spec hx).unique h

/-! Terms that speak of some variables and names alone -/
def Tm.onlyV (f : Nat → Bool) : Tm → Bool
  | .var i => f i
  | .cons a b => match a.onlyV f with | true => b.onlyV f | false => false
  | .op _ a b => match a.onlyV f with | true => b.onlyV f | false => false
  | .ite c a b => match c.onlyV f with
    | true => match a.onlyV f with | true => b.onlyV f | false => false
    | false => false
  | .app _ a => a.onlyV f
  | .nth _ a => a.onlyV f
  | _ => true
theorem onlyV_den {f : Nat → Bool} {N : Nat} {E E' : Env} (hv : ∀ i, f i = true → E.v i = E'.v i) (hf : ∀ k, k < N → E.fn k = E'.fn k) : ∀ {t : Tm}, t.onlyV f = true → t.appsLt N = true → t.den E = t.den E' := by
  intro t
  induction t with
  | var i => intro h _; exact hv i h
  | cons a b ha hb =>
    intro h k
    simp only [Tm.onlyV, Tm.appsLt] at h k
    split at h
    · rename_i h1
      split at k
      · rename_i k1; simp only [Tm.den, ha h1 k1, hb h k]
      · cases k
    · cases h
  | op o a b ha hb =>
    intro h k
    simp only [Tm.onlyV, Tm.appsLt] at h k
    split at h
    · rename_i h1
      split at k
      · rename_i k1; simp only [Tm.den, ha h1 k1, hb h k]
      · cases k
    · cases h
  | ite c a b hc ha hb =>
    intro h k
    simp only [Tm.onlyV, Tm.appsLt] at h k
    split at h
    · rename_i h1
      split at h
      · rename_i h2
        split at k
        · rename_i k1
          split at k
          · rename_i k2; simp only [Tm.den, hc h1 k1, ha h2 k2, hb h k]
          · cases k
        · cases k
      · cases h
    · cases h
  | app g a ha =>
    intro h k
    simp only [Tm.onlyV, Tm.appsLt] at h k
    split at k
    · rename_i k1
      have : g < N := by simp only [Nat.blt] at k1; exact Nat.le_of_ble_eq_true k1
      simp only [Tm.den, ha h k, hf g this]
    · cases k
  | nth n a ha => intro h k; simp only [Tm.den, ha h k]
  | _ => intro _ _; rfl
def spokB (m b i : Nat) : Bool := match Nat.blt i m with | true => true | false => Nat.ble b i
def closedT (m b N : Nat) (t : Tm) : Bool := match t.onlyV (spokB m b) with | true => t.appsLt N | false => false
def closedL (m b N : Nat) : List Tm → Bool
  | [] => true
  | t :: r => match closedT m b N t with | true => closedL m b N r | false => false
def closedP (m b N : Nat) : PC → Bool
  | [] => true
  | (t, _) :: r => match closedT m b N t with | true => closedP m b N r | false => false
/-- A loop speaks of the first m variables of its surroundings, of its own, and of names below its own. -/
def LoopSpec.closed (S : LoopSpec) (m : Nat) : Bool := match closedT m S.b S.N S.cond, closedL m S.b S.N S.next with
  | true, true => closedP m S.b S.N S.inv
  | _, _ => false
/-- Two surroundings that say the same of what a loop speaks of. -/
def Alike (m N : Nat) (E E' : Env) : Prop := (∀ i, i < m → E.v i = E'.v i) ∧ ∀ k, k < N → E.fn k = E'.fn k
theorem closedT_den {m b N : Nat} {E E' : Env} (h : Alike m N E E') {v : List Sc} {t : Tm} (ht : closedT m b N t = true) : t.den (envV b E v) = t.den (envV b E' v) := by
  unfold closedT at ht
  split at ht
  · rename_i h1
    refine onlyV_den (E := envV b E v) (E' := envV b E' v) (fun i hi => ?_) h.2 h1 ht
    unfold spokB at hi
    unfold envV
    simp only
    split at hi
    · rename_i hlt
      have := Nat.le_of_ble_eq_true hlt
      split
      · rfl
      · exact h.1 i (by omega)
    · rw [if_pos (Nat.le_of_ble_eq_true hi), if_pos (Nat.le_of_ble_eq_true hi)]
  · cases ht
theorem closedL_den {m b N : Nat} {E E' : Env} (h : Alike m N E E') {v : List Sc} : ∀ {l : List Tm}, closedL m b N l = true → l.map (Tm.den (envV b E v)) = l.map (Tm.den (envV b E' v))
  | [], _ => rfl
  | t :: r, hl => by
    simp only [closedL] at hl
    split at hl
    · rename_i h1
      simp only [List.map_cons, closedT_den h h1, closedL_den h hl]
    · cases hl
theorem closedP_ok {m b N : Nat} {E E' : Env} (h : Alike m N E E') {v : List Sc} : ∀ {l : PC}, closedP m b N l = true → PcOk (envV b E v) l → PcOk (envV b E' v) l
  | [], _, _ => fun p hp => by cases hp
  | (t, x) :: r, hl, hp => by
    simp only [closedP] at hl
    split at hl
    · rename_i h1
      have hr := closedP_ok h hl (fun p hm => hp p (List.mem_cons_of_mem _ hm))
      exact hr.cons (by rw [← closedT_den h h1]; exact hp _ (List.mem_cons_self ..))
    · cases hl
theorem Rounds.alike {S : LoopSpec} {m : Nat} {E E' : Env} (hc : S.closed m = true) (h : Alike m S.N E E') {v z : List Sc} (hr : Rounds S E v z) : Rounds S E' v z := by
  unfold LoopSpec.closed at hc
  split at hc
  · rename_i c1 c2
    induction hr with
    | stop h1 h2 => exact .stop (closedP_ok h hc h1) (by rw [← closedT_den h c1]; exact h2)
    | more h1 h2 _ ih => exact .more (closedP_ok h hc h1) (by rw [← closedT_den h c1]; exact h2) (by rw [← closedL_den h c2]; exact ih)
  · cases hc
/-- A name for where a loop's rounds end: it reads the first m variables of the surroundings, and the loop's own. -/
noncomputable def loopN (S : LoopSpec) (m : Nat) (F : Nat → Sc → Sc) (c : Sc) : Sc := Sc.ofList (S.ends ⟨fun i => c.at_ i, F⟩ (c.list.drop m))
noncomputable def natF (F : Nat → Sc → Sc) (N : Nat) (g : Sc → Sc) : Nat → Sc → Sc := fun k c => if k = N then g c else F k c
theorem natF_lt {F : Nat → Sc → Sc} {N : Nat} {g : Sc → Sc} {k : Nat} (h : k ≠ N) : natF F N g k = F k := by
  funext c
  unfold natF
  rw [if_neg h]
def varsL : Nat → Nat → List Tm
  | 0, _ => []
  | m + 1, n => .var n :: varsL m (n + 1)
theorem varsL_length : ∀ (m n : Nat), (varsL m n).length = m
  | 0, _ => rfl
  | m + 1, n => by simp only [varsL, List.length_cons, varsL_length m (n + 1)]
theorem varsL_den {E : Env} : ∀ (m n i : Nat), i < m → ((varsL m n).map (Tm.den E))[i]? = some (E.v (n + i))
  | m + 1, n, 0, _ => rfl
  | m + 1, n, i + 1, h => by
    simp only [varsL, List.map_cons, List.getElem?_cons_succ]
    rw [varsL_den m (n + 1) i (by omega), show n + 1 + i = n + (i + 1) by omega]
theorem ofList_at : ∀ (z : List Sc) (j : Nat), (Sc.ofList z).at_ j = (z[j]?).getD .nil
  | [], j => by cases j <;> rfl
  | a :: r, 0 => rfl
  | a :: r, j + 1 => by simp only [Sc.ofList, Sc.at_succ, ofList_at r j, List.getElem?_cons_succ]
/-- The law of a loop whose name says where its rounds end, if these end. -/
theorem loopN_law {S : LoopSpec} {m : Nat} {E : Env} {F : Nat → Sc → Sc} (hc : S.closed m = true) (ha : S.args = varsL m 0) (har : S.ar = none) (hn : S.next.length = S.width) (hF : ∀ c, E.fn S.N c = loopN S m F c) (hE : ∀ k, k < S.N → E.fn k = F k)
    (hz : ∀ v : List Sc, v.length = S.width → PcOk (envV S.b E v) S.pre → ∃ z, Rounds S E v z ∧ PcOk (envV S.b E (z ++ v)) S.post) : LoopLaw S E := by
  intro v hv hp
  obtain ⟨z, hr, hpost⟩ := hz v hv hp
  have e : finS S E v = z := by
    unfold finS
    rw [har]
    simp only
    have hal : Alike m S.N E ⟨fun i => (Sc.ofList (S.args.map (Tm.den E) ++ v)).at_ i, F⟩ := by
      refine ⟨fun i hi => ?_, hE⟩
      simp only
      rw [ofList_at, ha, List.getElem?_append_left (by simp [varsL_length]; exact hi), varsL_den m 0 i hi]
      simp
    have hd : ((Sc.ofList (S.args.map (Tm.den E) ++ v)).list).drop m = v := by
      rw [ofList_list, List.drop_append_of_le_length (by rw [ha]; simp [varsL_length]), List.drop_eq_nil_of_le (by rw [ha]; simp [varsL_length])]
      rfl
    have hend := LoopSpec.ends_eq (hr.alike hc hal)
    have hl : z.length = v.length := hr.length (by omega)
    refine List.ext_getElem? fun j => ?_
    unfold finOf
    rw [hF]
    unfold loopN
    rw [hd, hend]
    rcases Nat.lt_or_ge j v.length with hj | hj
    · simp [hj, ofList_at, List.getElem?_eq_getElem (show j < z.length by omega)]
    · rw [List.getElem?_eq_none (by simp; exact hj), List.getElem?_eq_none (by omega)]
  rw [e]
  exact ⟨hr, hpost⟩
/-- Rounds end where a measure falls. -/
theorem rounds_fall {S : LoopSpec} {E : Env} (I : List Sc → Prop) (μ : List Sc → Nat) (hi : ∀ v, I v → PcOk (envV S.b E v) S.inv)
    (hs : ∀ v, I v → (S.cond.den (envV S.b E v)).toB = (!S.pol) → I (S.next.map (Tm.den (envV S.b E v))) ∧ μ (S.next.map (Tm.den (envV S.b E v))) < μ v) : ∀ (n : Nat) (v : List Sc), μ v ≤ n → I v → ∃ z, Rounds S E v z ∧ I z := by
  intro n
  induction n with
  | zero =>
    intro v hn hI
    cases hc : (S.cond.den (envV S.b E v)).toB == S.pol with
    | true => exact ⟨v, .stop (hi v hI) (by simpa using hc), hI⟩
    | false =>
      have hne : (S.cond.den (envV S.b E v)).toB = (!S.pol) := by
        cases h1 : (S.cond.den (envV S.b E v)).toB <;> cases h2 : S.pol <;> simp [h1, h2] at hc ⊢
      have := (hs v hI hne).2
      omega
  | succ n ih =>
    intro v hn hI
    cases hc : (S.cond.den (envV S.b E v)).toB == S.pol with
    | true => exact ⟨v, .stop (hi v hI) (by simpa using hc), hI⟩
    | false =>
      have hne : (S.cond.den (envV S.b E v)).toB = (!S.pol) := by
        cases h1 : (S.cond.den (envV S.b E v)).toB <;> cases h2 : S.pol <;> simp [h1, h2] at hc ⊢
      obtain ⟨h1, h2⟩ := hs v hI hne
      obtain ⟨z, hz, hI'⟩ := ih _ (by omega) h1
      exact ⟨z, .more (hi v hI) hne hz, hI'⟩

/-! Loops that count -/
def varAt (b p : Nat) (t : Tm) : Bool := match t with | .var i => Nat.beq i (b + p) | _ => false
/-- What is known behind a count, beside what is known before it. -/
def cntPc (S : LoopSpec) (p : Nat) (up : Bool) (T : Tm) : PC :=
  match up with
  | true => (.op .lei (.il 0) (.op (.addi .i64) (.var (S.b + p)) (.il 1)), true) :: (.op .lei (.op (.addi .i64) (.var (S.b + p)) (.il 1)) T, true) :: addF S.inv S.cond (!S.pol)
  | false => (.op .lei (.il 0) (.op (.subi .i64) (.var (S.b + p)) (.il 1)), true) :: (.op .lei (.op (.subi .i64) (.var (S.b + p)) (.il 1)) (.il 4611686018427387904), true) :: addF S.inv S.cond (!S.pol)
/-- Place p counts up to below T, or (up = false) down to above nought; what is known in each round is known in the next one. -/
def countB (S : LoopSpec) (m p : Nat) (up : Bool) (T : Tm) : Bool :=
  match nth? S.next p with
  | some (.op o x (.il (.ofNat 1))) => match varAt S.b p x, proveAll (cntPc S p up T) S.b S.next S.inv, Nat.beq S.next.length S.width, Nat.blt p S.width with
    | true, true, true, true => match up with
      | true => match Nat.beq o.n (Opc.addi .i64).n, prove true 60 (addF S.inv S.cond (!S.pol)) (.op .lti (.var (S.b + p)) T), prove true 60 (addF S.inv S.cond (!S.pol)) (.op .lei T (.il 4611686018427387904)), prove true 60 (addF S.inv S.cond (!S.pol)) (.op .lei (.il 0) (.var (S.b + p))), T.under m with
        | true, true, true, true, true => Nat.ble m S.b
        | _, _, _, _, _ => false
      | false => match Nat.beq o.n (Opc.subi .i64).n, prove true 60 (addF S.inv S.cond (!S.pol)) (.op .lti (.il 0) (.var (S.b + p))), prove true 60 (addF S.inv S.cond (!S.pol)) (.op .lei (.var (S.b + p)) (.il 4611686018427387904)) with
        | true, true, true => true
        | _, _, _ => false
    | _, _, _, _ => false
  | _ => false
theorem count_rounds {S : LoopSpec} {E : Env} {m p : Nat} {up : Bool} {T : Tm} (h : countB S m p up T = true) : ∀ v : List Sc, v.length = S.width → PcOk (envV S.b E v) S.inv → ∃ z, Rounds S E v z ∧ PcOk (envV S.b E z) S.inv := by
  unfold countB at h
  split at h
  · rename_i o x hx
    split at h
    · rename_i q1 q2 q3 q4
      have hp : p < S.width := by simpa [Nat.blt_eq] using q4
      have hnl := Nat.eq_of_beq_eq_true q3
      have hxv : x = .var (S.b + p) := by
        unfold varAt at q1
        split at q1
        · rw [Nat.eq_of_beq_eq_true q1]
        · cases q1
      subst hxv
      rw [nth?_get] at hx
      have val : ∀ v : List Sc, (envV S.b E v).v (S.b + p) = v.getD p .nil := fun v => by
        simp [envV, List.getD]
      have nxt : ∀ v : List Sc, (S.next.map (Tm.den (envV S.b E v))).getD p .nil = (Tm.op o (.var (S.b + p)) (.il 1)).den (envV S.b E v) := fun v => by
        simp only [List.getD, List.getElem?_map, hx, Option.map_some, Option.getD_some]
        rfl
      have keep : ∀ v : List Sc, PcOk (envV S.b E v) (cntPc S p up T) → PcOk (envV S.b E (S.next.map (Tm.den (envV S.b E v)))) S.inv := fun v hi => by
        have h2 := proveAll_ok (E := envV S.b E v) hi q2
        rw [envV_envV] at h2
        exact h2
      cases up with
      | true =>
        simp only at h
        split at h
        · rename_i r1 r2 r3 r4 r5
          have ho : o = .addi .i64 := Opc.n_inj (Nat.eq_of_beq_eq_true r1)
          subst ho
          have hm := Nat.le_of_ble_eq_true h
          have hT : ∀ v : List Sc, T.den (envV S.b E v) = T.den E := fun v => under_den (fun i hi => envV_lt (by omega)) rfl r5
          intro v hv hi
          obtain ⟨z, hz, h1, h2⟩ := rounds_fall (S := S) (E := E) (fun v => v.length = S.width ∧ PcOk (envV S.b E v) S.inv) (fun v => ((T.den E).toI - (v.getD p .nil).toI).toNat) (fun v hI => hI.2) (fun v hI hc => by
            have hpc : PcOk (envV S.b E v) (addF S.inv S.cond (!S.pol)) := addF_ok _ hI.2 hc
            have l1 : (v.getD p .nil).toI < (T.den E).toI := by
              have := of_decide_eq_true (prove_ok 60 hpc r2)
              rw [hT v] at this
              simp only [Tm.den, val v] at this
              exact this
            have l2 : (T.den E).toI ≤ 4611686018427387904 := by
              have := of_decide_eq_true (prove_ok 60 hpc r3)
              rw [hT v] at this
              exact this
            have l3 : 0 ≤ (v.getD p .nil).toI := by
              have := of_decide_eq_true (prove_ok 60 hpc r4)
              simp only [Tm.den, val v] at this
              exact this
            have e : ((Tm.op (.addi .i64) (.var (S.b + p)) (.il 1)).den (envV S.b E v)).toI = (v.getD p .nil).toI + 1 := by
              show IntKind.i64.wrap (((envV S.b E v).v (S.b + p)).toI + 1) = _
              rw [val v]
              exact wrap_in .i64 (by rw [← kmin_eq]; show (-9223372036854775808 : Int) ≤ _; omega) (by rw [← kmax_eq]; show _ ≤ (9223372036854775807 : Int); omega)
            refine ⟨⟨by simp [hnl], keep v ?_⟩, ?_⟩
            · refine PcOk.cons (PcOk.cons hpc ?_) ?_
              · show decide (((Tm.op (.addi .i64) (.var (S.b + p)) (.il 1)).den (envV S.b E v)).toI ≤ (T.den (envV S.b E v)).toI) = true
                rw [e, hT v]
                exact decide_eq_true (by omega)
              · show decide (0 ≤ ((Tm.op (.addi .i64) (.var (S.b + p)) (.il 1)).den (envV S.b E v)).toI) = true
                rw [e]
                exact decide_eq_true (by omega)
            · rw [nxt v, e]
              omega) _ v (Nat.le_refl _) ⟨hv, hi⟩
          exact ⟨z, hz, h2⟩
        · cases h
      | false =>
        simp only at h
        split at h
        · rename_i r1 r2 r3
          have ho : o = .subi .i64 := Opc.n_inj (Nat.eq_of_beq_eq_true r1)
          subst ho
          intro v hv hi
          obtain ⟨z, hz, h1, h2⟩ := rounds_fall (S := S) (E := E) (fun v => v.length = S.width ∧ PcOk (envV S.b E v) S.inv) (fun v => ((v.getD p .nil).toI).toNat) (fun v hI => hI.2) (fun v hI hc => by
            have hpc : PcOk (envV S.b E v) (addF S.inv S.cond (!S.pol)) := addF_ok _ hI.2 hc
            have l1 : 0 < (v.getD p .nil).toI := by
              have := of_decide_eq_true (prove_ok 60 hpc r2)
              simp only [Tm.den, val v] at this
              exact this
            have l2 : (v.getD p .nil).toI ≤ 4611686018427387904 := by
              have := of_decide_eq_true (prove_ok 60 hpc r3)
              simp only [Tm.den, val v] at this
              exact this
            have e : ((Tm.op (.subi .i64) (.var (S.b + p)) (.il 1)).den (envV S.b E v)).toI = (v.getD p .nil).toI - 1 := by
              show IntKind.i64.wrap (((envV S.b E v).v (S.b + p)).toI - 1) = _
              rw [val v]
              exact wrap_in .i64 (by rw [← kmin_eq]; show (-9223372036854775808 : Int) ≤ _; omega) (by rw [← kmax_eq]; show _ ≤ (9223372036854775807 : Int); omega)
            refine ⟨⟨by simp [hnl], keep v ?_⟩, ?_⟩
            · refine PcOk.cons (PcOk.cons hpc ?_) ?_
              · show decide (((Tm.op (.subi .i64) (.var (S.b + p)) (.il 1)).den (envV S.b E v)).toI ≤ 4611686018427387904) = true
                rw [e]
                exact decide_eq_true (by omega)
              · show decide (0 ≤ ((Tm.op (.subi .i64) (.var (S.b + p)) (.il 1)).den (envV S.b E v)).toI) = true
                rw [e]
                exact decide_eq_true (by omega)
            · rw [nxt v, e]
              omega) _ v (Nat.le_refl _) ⟨hv, hi⟩
          exact ⟨z, hz, h2⟩
        · cases h
    · cases h
  · cases h
/-- The law of a loop that counts. -/
theorem count_law {S : LoopSpec} {m p : Nat} {up : Bool} {T : Tm} {E : Env} {F : Nat → Sc → Sc} (hB : countB S m p up T = true) (hc : S.closed m = true) (ha : S.args = varsL m 0) (har : S.ar = none) (hn : S.next.length = S.width) (hpi : S.pre = S.inv) (hpo : S.post = [])
    (hF : ∀ c, E.fn S.N c = loopN S m F c) (hE : ∀ k, k < S.N → E.fn k = F k) : LoopLaw S E :=
  loopN_law hc ha har hn hF hE fun v hv hp => by
    obtain ⟨z, hz, _⟩ := count_rounds (E := E) hB v hv (by rw [← hpi]; exact hp)
    exact ⟨z, hz, by rw [hpo]; intro p hp; cases hp⟩

/-! What a round makes of the places, out of the executor itself -/
def probeO : List Tm → Out (Ex × St)
  | [] => .bad 7777
  | t :: r => .br t (.bad 7778) (probeO r)
def termOf (s : SV) : Tm := match s with | .sc _ t => t | _ => .nil
def nextT (S : LoopSpec) (σ : St) : List Tm :=
  (S.places.map fun p => termOf (getPl σ p)) ++ (S.lists.flatMap fun x => match nth? σ.tm x.1 with | some (.og _ _ n t) => [n, t] | _ => [.nil, .nil])
def probeL (run : Code → St → Out (Ex × St)) (c : Code) (S : LoopSpec) : Nat → St → Out (Ex × St)
  | 0, _ => .bad 7000
  | k + 1, σ => match startL c S σ with
    | some (σ0, _, g) => match roundL run c S σ0.pc g with
      | some σ' => probeO (nextT S σ')
      | none => (run c { g with pc := addF (S.inv ++ outP S.b σ0.pc) S.cond (!S.pol) }).bind fun _ => .bad 7001
    | none => (run c σ).bind fun r => match r with
      | (.normal, σ) => probeL run c S k σ
      | r => .ret r
def grabT : Out Res → Option (List Tm)
  | .br t x y => match x with
    | .bad n => match Nat.beq n 7778 with
      | true => match y with
        | .bad _ => some [t]
        | y => match grabT y with
          | some l => some (t :: l)
          | none => none
      | false => grabT y
    | x => match grabT x with
      | some l => some l
      | none => grabT y
  | _ => none
/-- A context that, at one loop, tells what a round makes of it. -/
def withProbe (ctx : Ctx) (P : Program) (n k : Nat) (S : LoopSpec) : Ctx := { ctx with cc := fun c => match keyOf c with
  | some i => match Nat.beq i k with
    | true => some (probeL (exec ctx P n) c S 3)
    | false => ctx.cc c
  | none => ctx.cc c }
end Go.Sx
set_option linter.unusedVariables false
set_option linter.unusedSimpArgs false
noncomputable section
namespace Go.Sx
open Go
theorem varsL_get : ∀ {m n i : Nat} {t : Tm}, (varsL m n)[i]? = some t → i < m ∧ t = .var (n + i)
  | 0, _, _, _, h => by simp [varsL] at h
  | m + 1, n, 0, t, h => by simp [varsL] at h; subst h; exact ⟨by omega, rfl⟩
  | m + 1, n, i + 1, t, h => by
    obtain ⟨h1, h2⟩ := varsL_get (m := m) (n := n + 1) (i := i) (by simpa [varsL] using h)
    exact ⟨by omega, by rw [h2, show n + 1 + i = n + (i + 1) by omega]⟩
def sumRk (ps : List Pa) (as : PC) (rp : Rp) (N id k : Nat) (els : Sum) : Sum := sumQ ps as (fun ts => mkR rp (nths (.app id (listT (ts.drop k))) N 0)) els
theorem sumRk_ok {P : Program} {E : Env} {ctx : Ctx} {n f N id k w : Nat} {ps : List Pa} {as pcx : PC} {rp : Rp} {D : Tm} {els : Sum} (hC : ∀ E' : Env, E'.fn = E.fn → CtxOk P E' ctx ∧ CtxPc E' ctx)
    (hN : Named P) (hmix : P.follows .mixedOrders = true) (hD : ∀ c, E.fn id c = D.den ⟨fun i => c.at_ i, E.fn⟩)
    (hj : ((Nat.ble (bldP ps 0 0).j 1000 && undersF (bldP ps 0 0).n as) && ((D.under w && Nat.beq N (sizeR rp.2)) && Nat.beq (bldP ps 0 0).n (k + w))) = true)
    (hx : ∀ E' : Env, E'.fn = E.fn → PcOk E' as → PcOk E' pcx)
    (hk : treeIs rp (callQ P ctx n f ps pcx) (D.subst (varsL w k)) = true) (hels : SumOk P E f els) : SumOk P E f (sumRk ps as rp N id k els) := by
  simp only [Bool.and_eq_true] at hj
  obtain ⟨⟨j1, j2⟩, ⟨j3, j4⟩, j5⟩ := hj
  have hw := Nat.eq_of_beq_eq_true j5
  refine sumW_ok (n := n) hC hN hmix (by simp only [j1, j2, Bool.and_self]) hx (fun E' ts hfn has hp hn hE => ?_) hels
  unfold treeIs at hk
  split at hk
  · rename_i T' hT'
    have e := Tm.beq_eq hk
    subst e
    obtain ⟨r, cs, h1, h2, h3⟩ := treeT_sel (E := E') hT'
    refine ⟨r, h1, fun β' β v hv => ?_⟩
    have hlen := unR_length h2
    have hN' : N = sizeR rp.2 := Nat.eq_of_beq_eq_true j4
    refine unR_rep h2 hv ⟨by rw [nths_length]; omega, fun i t u g1 g2 => ?_⟩
    have eu := nths_get g2
    rw [Nat.zero_add] at eu
    subst eu
    simp only [Tm.den]
    rw [hD]
    have e2 : (D.subst (varsL w k)).den E' = D.den ⟨fun i => ((listT (ts.drop k)).den E).at_ i, E.fn⟩ := subst_den (E := E') (E' := ⟨fun i => ((listT (ts.drop k)).den E).at_ i, E.fn⟩) (fun i t ht => by
      obtain ⟨q1, rfl⟩ := varsL_get ht
      have hlt : k + i < ts.length := by omega
      have g : (ts.drop k)[i]? = some ts[k + i] := by rw [List.getElem?_drop]; exact List.getElem?_eq_getElem hlt
      show ((listT (ts.drop k)).den E).at_ i = E'.v (k + i)
      rw [hE (k + i) _ (List.getElem?_eq_getElem hlt)]
      exact listT_at g) (by rw [hfn]) (by rw [varsL_length]; exact j3)
    rw [← e2, h3]
    exact listT_at g1
  · cases hk
end Go.Sx
set_option linter.unusedVariables false
set_option linter.unusedSimpArgs false
noncomputable section
namespace Go.Sx
open Go Go.RowKit
theorem Alike.symm {m N : Nat} {E E' : Env} (h : Alike m N E E') : Alike m N E' E := ⟨fun i hi => (h.1 i hi).symm, fun k hk => (h.2 k hk).symm⟩
theorem ends_alike {S : LoopSpec} {m : Nat} {E E' : Env} (hc : S.closed m = true) (h : Alike m S.N E E') (v : List Sc) : S.ends E v = S.ends E' v := by
  by_cases hx : ∃ z, Rounds S E v z
  · obtain ⟨z, hz⟩ := hx
    rw [LoopSpec.ends_eq hz, LoopSpec.ends_eq (hz.alike hc h)]
  · have hy : ¬ ∃ z, Rounds S E' v z := fun ⟨z, hz⟩ => hx ⟨z, hz.alike hc h.symm⟩
    unfold LoopSpec.ends
    rw [dif_neg hx, dif_neg hy]
inductive Ent where
  | lp (S : LoopSpec) (m : Nat)
  | df (id : Nat) (D : Tm)
def Ent.id : Ent → Nat
  | .lp S _ => S.N
  | .df id _ => id
def Ent.val (F : Nat → Sc → Sc) : Ent → Sc → Sc
  | .lp S m, c => loopN S m F c
  | .df _ D, c => D.den ⟨fun i => c.at_ i, F⟩
def Ent.okB : Ent → Bool
  | .lp S m => S.closed m
  | .df id D => D.appsLt id
theorem Ent.val_eq {e : Ent} (h : e.okB = true) {F F' : Nat → Sc → Sc} (hF : ∀ k, k < e.id → F k = F' k) (c : Sc) : e.val F c = e.val F' c := by
  cases e with
  | lp S m =>
    exact congrArg Sc.ofList (ends_alike (E := ⟨fun i => c.at_ i, F⟩) (E' := ⟨fun i => c.at_ i, F'⟩) h ⟨fun _ _ => rfl, hF⟩ _)
  | df id D => exact apps_den (v := fun i => c.at_ i) hF h
def chainF (F0 : Nat → Sc → Sc) : List Ent → Nat → Sc → Sc
  | [] => F0
  | e :: r => natF (chainF F0 r) e.id (e.val (chainF F0 r))
/-- The ids fall from below b on, none below b0. -/
def chainB (b0 : Nat) : List Ent → Nat → Bool
  | [], _ => true
  | e :: r, b => match Nat.blt e.id b, Nat.ble b0 e.id, e.okB with
    | true, true, true => chainB b0 r e.id
    | _, _, _ => false
theorem chainB_id {b0 : Nat} : ∀ {l : List Ent} {b : Nat} {e : Ent}, chainB b0 l b = true → e ∈ l → b0 ≤ e.id ∧ e.id < b ∧ e.okB = true
  | x :: r, b, e, h, hm => by
    simp only [chainB] at h
    split at h
    · rename_i h1 h2 h3
      have h1 : x.id < b := by simpa [Nat.blt_eq] using h1
      rcases List.mem_cons.1 hm with rfl | hm
      · exact ⟨Nat.le_of_ble_eq_true h2, h1, h3⟩
      · obtain ⟨g1, g2, g3⟩ := chainB_id h hm
        exact ⟨g1, Nat.lt_trans g2 h1, g3⟩
    · cases h
theorem chain_hi {F0 : Nat → Sc → Sc} {b0 : Nat} {e : Ent} {r : List Ent} {k : Nat} (hk : k < e.id) : chainF F0 (e :: r) k = chainF F0 r k := natF_lt (by omega)
theorem chain_val {F0 : Nat → Sc → Sc} {b0 : Nat} : ∀ {l : List Ent} {b : Nat} {e : Ent}, chainB b0 l b = true → e ∈ l → ∀ c, chainF F0 l e.id c = e.val (chainF F0 l) c
  | x :: r, b, e, h, hm, c => by
    have h0 := h
    simp only [chainB] at h
    split at h
    · rename_i h1 h2 h3
      rcases List.mem_cons.1 hm with rfl | hm
      · show natF (chainF F0 r) e.id (e.val (chainF F0 r)) e.id c = _
        unfold natF
        rw [if_pos rfl]
        exact Ent.val_eq h3 (fun k hk => (chain_hi (b0 := b0) hk).symm) c
      · obtain ⟨g1, g2, g3⟩ := chainB_id h hm
        rw [show chainF F0 (x :: r) e.id = chainF F0 r e.id from chain_hi (b0 := b0) g2, chain_val h hm c]
        exact Ent.val_eq g3 (fun k hk => (chain_hi (b0 := b0) (by omega)).symm) c
    · cases h
theorem chain_base {F0 : Nat → Sc → Sc} {b0 : Nat} : ∀ {l : List Ent} {b : Nat}, chainB b0 l b = true → ∀ k, k < b0 → chainF F0 l k = F0 k
  | [], _, _, _, _ => rfl
  | x :: r, b, h, k, hk => by
    simp only [chainB] at h
    split at h
    · rename_i h1 h2 h3
      have := Nat.le_of_ble_eq_true h2
      rw [chain_hi (b0 := b0) (by omega), chain_base h k hk]
    · cases h
/-- Names that mean what a chain says. -/
def ChainOk (l : List Ent) (F : Nat → Sc → Sc) : Prop := ∀ e, e ∈ l → ∀ c, F e.id c = e.val F c
theorem ChainOk.lp {l : List Ent} {F : Nat → Sc → Sc} (h : ChainOk l F) {S : LoopSpec} {m : Nat} (hm : Ent.lp S m ∈ l) (c : Sc) : F S.N c = loopN S m F c := h _ hm c
theorem ChainOk.df {l : List Ent} {F : Nat → Sc → Sc} (h : ChainOk l F) {id : Nat} {D : Tm} (hm : Ent.df id D ∈ l) (c : Sc) : F id c = D.den ⟨fun i => c.at_ i, F⟩ := h _ hm c
theorem chain_ok {F0 : Nat → Sc → Sc} {b0 b : Nat} {l : List Ent} (h : chainB b0 l b = true) : ChainOk l (chainF F0 l) := fun _ hm c => chain_val h hm c
/-- The law of a loop that counts, its name being one of a chain. -/
theorem chain_count {l : List Ent} {E : Env} (h : ChainOk l E.fn) {S : LoopSpec} {m p : Nat} {up : Bool} {T : Tm} (hm : Ent.lp S m ∈ l) (hB : countB S m p up T = true) (hc : S.closed m = true) (ha : S.args = varsL m 0) (har : S.ar = none) (hn : S.next.length = S.width) (hpi : S.pre = S.inv) (hpo : S.post = []) : LoopLaw S E :=
  count_law hB hc ha har hn hpi hpo (fun c => h.lp hm c) (fun _ _ => rfl)
theorem listT_consT : ∀ (ts : List Tm), listT ts = consT ts
  | [] => rfl
  | t :: r => by simp only [listT, consT, listT_consT r]
theorem listT_den {E : Env} (ts : List Tm) : (listT ts).den E = Sc.ofList (ts.map (Tm.den E)) := by rw [listT_consT, consT_den]
end Go.Sx
