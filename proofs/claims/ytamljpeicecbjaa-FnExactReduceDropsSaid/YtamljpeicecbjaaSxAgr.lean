/- Two trees of ways that give the same, the whole numbers among the results compared by what is known. No condition. -/
import Derived.Test.YtamljpeicecbjaaSxLite
set_option linter.unusedVariables false
set_option linter.unusedSimpArgs false
noncomputable section
namespace Go.Sx
open Go Go.RowKit
/-- Are two whole numbers equal? The choices pushed out. -/
def eqI2 (b : Tm) : Tm → Tm
  | .ite c x y => mkIteB c (eqI2 b x) (eqI2 b y)
  | a => cmpI .eqi true a b
theorem eqI2_den {E : Env} (b : Tm) : ∀ a : Tm, ((eqI2 b a).den E).toB = decide ((a.den E).toI = (b.den E).toI)
  | .ite c x y => by
    simp only [eqI2, mkIteB_den, eqI2_den b x, eqI2_den b y, Tm.den]
    split <;> rfl
  | .var _ | .bl _ | .il _ | .fl _ | .sl _ | .nil | .cons _ _ | .op _ _ _ | .app _ _ | .nth _ _ => by
    simp only [eqI2]
    rw [cmpI_den _ _ _ _ eqi_self]
    rfl
/-- A test, known or proved, however long that takes. -/
def decL (pc : PC) (t : Tm) : Option Bool :=
  match decB pc t with
  | some b => some b
  | none => match prove true 300 pc t with
    | true => some true
    | false => match prove false 300 pc t with
      | true => some false
      | false => none
theorem decL_ok {E : Env} {pc : PC} (hp : PcOk E pc) {t : Tm} {b : Bool} (h : decL pc t = some b) : (t.den E).toB = b := by
  unfold decL at h
  split at h
  · rename_i b' hb; cases h; exact decB_ok hp t hb
  · split at h
    · rename_i h1; cases h; exact prove_ok 300 hp h1
    · split at h
      · rename_i h1; cases h; exact prove_ok 300 hp h1
      · cases h
def isIntK : SK → Bool
  | .int _ => true
  | _ => false
def wideK : IntKind → Bool
  | .i16 => true | .i32 => true | .i64 => true
  | _ => false
/-- Quotients of the same small numbers, of whatever kind. -/
def quoSame (pc : PC) (t u : Tm) : Bool :=
  match t, u with
  | .op (.quoi k) a b, .op (.quoi k') a' b' => match a.beq a', b.beq b', wideK k, wideK k' with
    | true, true, true, true => match prove true 300 pc (.op .lei (.il 0) a) with
      | true => prove true 300 pc (.op .lei a (.il 1000))
      | false => false
    | _, _, _, _ => false
  | _, _ => false
theorem quo_small {k : IntKind} (hk : wideK k = true) {a b : Int} (h0 : 0 ≤ a) (h1 : a ≤ 1000) : k.wrap (a.tdiv b) = a.tdiv b := by
  have h2 : (a.tdiv b).natAbs ≤ 1000 := by
    rw [Int.natAbs_tdiv]
    exact Nat.le_trans (Nat.div_le_self _ _) (by omega)
  refine wrap_in k ?_ ?_ <;> (unfold wideK at hk; split at hk <;> first | (simp [IntKind.min, IntKind.max, IntKind.bits, IntKind.signed]; omega) | cases hk)
theorem quoSame_ok {E : Env} {pc : PC} (hp : PcOk E pc) {t u : Tm} (h : quoSame pc t u = true) : (t.den E).toI = (u.den E).toI := by
  unfold quoSame at h
  split at h
  · split at h
    · rename_i h1 h2 h3 h4
      split at h
      · rename_i h5
        have e1 := Tm.beq_eq h1
        have e2 := Tm.beq_eq h2
        subst e1; subst e2
        have b1 := of_decide_eq_true (prove_ok 300 hp h5)
        have b2 := of_decide_eq_true (prove_ok 300 hp h)
        exact (quo_small h3 b1 b2).trans (quo_small h4 b1 b2).symm
      · cases h
    · cases h
  · cases h
/-- One cell of a result like the other one's. -/
def sameC (pc : PC) (k : SK) (t u : Tm) : Bool :=
  match t.beq u with
  | true => true
  | false => match isIntK k with
    | true => match quoSame pc t u with
      | true => true
      | false => prove true 300 pc (eqI2 u t)
    | false => false
def sameCs (pc : PC) : List SK → List Tm → List Tm → Bool
  | [], [], [] => true
  | k :: ks, t :: ts, u :: us => match sameC pc k t u with
    | true => sameCs pc ks ts us
    | false => false
  | _, _, _ => false
/-- What one cell stands for the other one stands for, too. -/
def RelK (E E' : Env) (k : SK) (t u : Tm) : Prop := ∀ v, k.rep (t.den E) v → k.rep (u.den E') v
def RelL (E E' : Env) : List SK → List Tm → List Tm → Prop
  | [], [], [] => True
  | k :: ks, t :: ts, u :: us => RelK E E' k t u ∧ RelL E E' ks ts us
  | _, _, _ => False
theorem sameC_ok {E : Env} {pc : PC} (hp : PcOk E pc) {k : SK} {t u : Tm} (h : sameC pc k t u = true) : RelK E E k t u := by
  intro v hv
  unfold sameC at h
  split at h
  · rename_i hb; rw [← Tm.beq_eq hb]; exact hv
  · split at h
    · rename_i hk
      have e : (t.den E).toI = (u.den E).toI := by
        split at h
        · rename_i hq; exact quoSame_ok hp hq
        · have := prove_ok 300 hp h
          rw [eqI2_den] at this
          exact of_decide_eq_true this
      unfold isIntK at hk
      split at hk
      · simp only [SK.rep] at hv ⊢
        rw [← e]; exact hv
      · cases hk
    · cases h
theorem sameCs_ok {E : Env} {pc : PC} (hp : PcOk E pc) : ∀ {ks : List SK} {ts us : List Tm}, sameCs pc ks ts us = true → RelL E E ks ts us
  | [], [], [], _ => trivial
  | k :: ks, t :: ts, u :: us, h => by
    simp only [sameCs] at h
    split at h
    · rename_i h1; exact ⟨sameC_ok hp h1, sameCs_ok hp h⟩
    · cases h
  | [], [], _ :: _, h => by cases h
  | [], _ :: _, _, h => by cases h
  | _ :: _, [], _, h => by cases h
  | _ :: _, _ :: _, [], h => by cases h
def kindsR : List (Bool × List SK) → List SK
  | [] => []
  | p :: r => p.2 ++ kindsR r
def eqbT (a b : Tm) : Tm := mkIteB a b (mkNot b)
theorem eqbT_den {E : Env} (a b : Tm) : ((eqbT a b).den E).toB = ((a.den E).toB == (b.den E).toB) := by
  unfold eqbT
  rw [mkIteB_den, mkNot_den]
  cases (a.den E).toB <;> cases (b.den E).toB <;> rfl
/-- A test that is one of those asked before. -/
def decM (pc : PC) (c : Tm) : PC → Option Bool
  | [] => none
  | (t, b) :: r => match prove true 300 pc (eqbT t c) with
    | true => some b
    | false => decM pc c r
theorem decM_ok {E : Env} {pc : PC} (hp : PcOk E pc) {c : Tm} : ∀ {l : PC} {b : Bool}, PcOk E l → decM pc c l = some b → (c.den E).toB = b
  | [], _, _, h => by cases h
  | (t, b') :: r, b, hl, h => by
    simp only [decM] at h
    split at h
    · rename_i h1
      cases h
      have := prove_ok 300 hp h1
      rw [eqbT_den] at this
      have h2 := hl _ (List.mem_cons_self ..)
      simp only at h2
      rw [h2] at this
      exact (eq_of_beq this).symm
    · exact decM_ok hp (fun p hm => hl p (List.mem_cons_of_mem _ hm)) h
def decA (pc0 cs pc : PC) (c : Tm) : Option Bool :=
  match decL pc c with
  | some b => some b
  | none => decM pc0 c cs
theorem decA_ok {E : Env} {pc0 cs pc : PC} (hp0 : PcOk E pc0) (hc : PcOk E cs) (hp : PcOk E pc) {c : Tm} {b : Bool} (h : decA pc0 cs pc c = some b) : (c.den E).toB = b := by
  unfold decA at h
  split at h
  · rename_i b' hb; cases h; exact decL_ok hp hb
  · exact decM_ok hp0 hc h
def agreeRH (rp : Rp) (pc0 cs : PC) (ts : List Tm) : Nat → PC → Out Res → Bool
  | 0, _, _ => false
  | _ + 1, pc, .ret r => match unR rp r.v with
    | some us => sameCs pc (kindsR rp.2) us ts
    | none => false
  | _ + 1, _, .bad _ => false
  | n + 1, pc, .br c x y => match decA pc0 cs pc c with
    | some true => agreeRH rp pc0 cs ts n pc x
    | some false => agreeRH rp pc0 cs ts n pc y
    | none => match agreeRH rp pc0 cs ts n (addF pc c true) x with
      | true => agreeRH rp pc0 cs ts n (addF pc c false) y
      | false => false
def agreeH (rp : Rp) (pc0 : PC) : Nat → PC → PC → Out Res → Out Res → Bool
  | 0, _, _, _, _ => false
  | n + 1, cs, pc, .ret r, o => match unR rp r.v with
    | some ts => agreeRH rp pc0 cs ts (n + 1) pc o
    | none => false
  | _ + 1, _, _, .bad _, _ => false
  | n + 1, cs, pc, .br c x y, o => match decL pc c with
    | some true => agreeH rp pc0 n cs pc x o
    | some false => agreeH rp pc0 n cs pc y o
    | none => match agreeH rp pc0 n ((c, true) :: cs) (addF pc c true) x o with
      | true => agreeH rp pc0 n ((c, false) :: cs) (addF pc c false) y o
      | false => false
theorem agreeRH_ok {E : Env} {rp : Rp} {pc0 cs : PC} {ts : List Tm} (hp0 : PcOk E pc0) (hcs : PcOk E cs) : ∀ {n : Nat} {pc : PC} {o : Out Res}, PcOk E pc → agreeRH rp pc0 cs ts n pc o = true → ∃ r us, o.sel E = some r ∧ unR rp r.v = some us ∧ RelL E E (kindsR rp.2) us ts
  | 0, _, _, _, h => by cases h
  | n + 1, pc, .ret r, hp, h => by
    simp only [agreeRH] at h
    split at h
    · rename_i us hu; exact ⟨r, us, rfl, hu, sameCs_ok hp h⟩
    · cases h
  | n + 1, pc, .bad _, hp, h => by cases h
  | n + 1, pc, .br c x y, hp, h => by
    simp only [agreeRH] at h
    split at h
    · rename_i hd
      have hc := decA_ok hp0 hcs hp hd
      obtain ⟨r, us, h1, h2⟩ := agreeRH_ok hp0 hcs hp h
      exact ⟨r, us, by simp [Out.sel, hc, h1], h2⟩
    · rename_i hd
      have hc := decA_ok hp0 hcs hp hd
      obtain ⟨r, us, h1, h2⟩ := agreeRH_ok hp0 hcs hp h
      exact ⟨r, us, by simp [Out.sel, hc, h1], h2⟩
    · split at h
      · rename_i hx
        cases hc : (c.den E).toB with
        | true =>
          obtain ⟨r, us, h1, h2⟩ := agreeRH_ok hp0 hcs (addF_ok c hp hc) hx
          exact ⟨r, us, by simp [Out.sel, hc, h1], h2⟩
        | false =>
          obtain ⟨r, us, h1, h2⟩ := agreeRH_ok hp0 hcs (addF_ok c hp hc) h
          exact ⟨r, us, by simp [Out.sel, hc, h1], h2⟩
      · cases h
theorem agreeH_ok {E : Env} {rp : Rp} {pc0 : PC} (hp0 : PcOk E pc0) : ∀ {n : Nat} {cs pc : PC} {o o' : Out Res} {r : Res} {ts : List Tm}, PcOk E cs → PcOk E pc → agreeH rp pc0 n cs pc o o' = true → o.sel E = some r → unR rp r.v = some ts → ∃ r' us, o'.sel E = some r' ∧ unR rp r'.v = some us ∧ RelL E E (kindsR rp.2) us ts
  | 0, _, _, _, _, _, _, _, _, h, _, _ => by cases h
  | n + 1, cs, pc, .ret r0, o', r, ts, hcs, hp, h, hs, hu => by
    simp only [Out.sel, Option.some.injEq] at hs
    subst hs
    simp only [agreeH, hu] at h
    exact agreeRH_ok hp0 hcs hp h
  | n + 1, cs, pc, .bad _, o', r, ts, hcs, hp, h, hs, hu => by cases h
  | n + 1, cs, pc, .br c x y, o', r, ts, hcs, hp, h, hs, hu => by
    simp only [agreeH] at h
    simp only [Out.sel] at hs
    split at h
    · rename_i hd
      have hc := decL_ok hp hd
      rw [hc] at hs
      exact agreeH_ok hp0 hcs hp h (by simpa using hs) hu
    · rename_i hd
      have hc := decL_ok hp hd
      rw [hc] at hs
      exact agreeH_ok hp0 hcs hp h (by simpa using hs) hu
    · split at h
      · rename_i hx
        cases hc : (c.den E).toB with
        | true =>
          rw [hc] at hs
          exact agreeH_ok hp0 (hcs.cons hc) (addF_ok c hp hc) hx (by simpa using hs) hu
        | false =>
          rw [hc] at hs
          exact agreeH_ok hp0 (hcs.cons hc) (addF_ok c hp hc) h (by simpa using hs) hu
      · cases h
section
variable {E E' : Env} {β β' : Pl}
theorem RelL.split {a b : List SK} : ∀ {ts us : List Tm}, RelL E E' (a ++ b) ts us → RelL E E' a (ts.take a.length) (us.take a.length) ∧ RelL E E' b (ts.drop a.length) (us.drop a.length) := by
  induction a with
  | nil => intro ts us h; exact ⟨by simp [RelL], by simpa using h⟩
  | cons k a ih =>
    intro ts us h
    cases ts with
    | nil => cases us <;> simp [RelL] at h
    | cons t ts => cases us with
      | nil => simp [RelL] at h
      | cons u us =>
        obtain ⟨h1, h2⟩ := h
        obtain ⟨g1, g2⟩ := ih h2
        exact ⟨⟨h1, by simpa using g1⟩, by simpa using g2⟩
theorem RelL.len : ∀ {ks : List SK} {ts us : List Tm}, RelL E E' ks ts us → ts.length = ks.length ∧ us.length = ks.length
  | [], [], [], _ => ⟨rfl, rfl⟩
  | k :: ks, t :: ts, u :: us, h => by
    obtain ⟨h1, h2⟩ := RelL.len h.2
    simp [h1, h2]
  | [], [], _ :: _, h => by cases h
  | [], _ :: _, _, h => by cases h
  | _ :: _, [], _, h => by cases h
  | _ :: _, _ :: _, [], h => by cases h
theorem scs_rel : ∀ {ks : List SK} {ts us : List Tm} {vs : List Value}, RelL E E' ks ts us → SV.reps E β (scs ks ts) vs → SV.reps E' β' (scs ks us) vs
  | [], [], [], vs, _, h => by simpa [scs] using h
  | k :: ks, t :: ts, u :: us, vs, hr, h => by
    simp only [scs, SV.reps] at h ⊢
    obtain ⟨v, rest, rfl, h1, h2⟩ := h
    exact ⟨v, rest, rfl, hr.1 v h1, scs_rel hr.2 h2⟩
  | [], [], _ :: _, _, h, _ => by cases h
  | [], _ :: _, _, _, h, _ => by cases h
  | _ :: _, [], _, _, h, _ => by cases h
  | _ :: _, _ :: _, [], _, h, _ => by cases h
theorem mkC_rel {p : Bool × List SK} {ts us : List Tm} {v : Value} (hr : RelL E E' p.2 ts us) (h : SV.rep E β (mkC p ts) v) : SV.rep E' β' (mkC p us) v := by
  obtain ⟨b, ks⟩ := p
  cases b with
  | true =>
    simp only [mkC, SV.rep] at h ⊢
    obtain ⟨vs, rfl, hv⟩ := h
    exact ⟨vs, rfl, scs_rel hr hv⟩
  | false =>
    simp only [mkC] at h ⊢
    split
    · rename_i s hs
      have : SV.reps E' β' (scs ks us) [v] := by
        refine scs_rel (β := β) hr ?_
        obtain ⟨l1, l2⟩ := hr.len
        simp only at l1 l2
        rcases ks with _ | ⟨k, _ | ⟨k2, ks⟩⟩
        · simp [scs] at hs
        · rcases ts with _ | ⟨t, _ | ⟨t2, ts⟩⟩
          · simp at l1
          · simpa [scs] using h
          · simp at l1
        · rcases us with _ | ⟨u, _ | ⟨u2, us⟩⟩
          · simp at l2
          · simp at l2
          · simp [scs] at hs
      rw [hs] at this
      simpa using this
    · simp [SV.rep]
theorem mkCs_rel : ∀ {ps : List (Bool × List SK)} {ts us : List Tm} {vs : List Value}, RelL E E' (kindsR ps) ts us → SV.reps E β (mkCs ps ts) vs → SV.reps E' β' (mkCs ps us) vs
  | [], _, _, _, _, h => by simpa [mkCs] using h
  | p :: ps, ts, us, vs, hr, h => by
    obtain ⟨h1, h2⟩ := RelL.split hr
    simp only [mkCs, SV.reps] at h ⊢
    obtain ⟨v, rest, rfl, g1, g2⟩ := h
    exact ⟨v, rest, rfl, mkC_rel h1 g1, mkCs_rel h2 g2⟩
theorem mkR_rel {rp : Rp} {ts us : List Tm} {v : Value} (hr : RelL E E' (kindsR rp.2) ts us) (h : SV.rep E β (mkR rp ts) v) : SV.rep E' β' (mkR rp us) v := by
  obtain ⟨b, ps⟩ := rp
  cases b with
  | true =>
    simp only [mkR, SV.rep] at h ⊢
    obtain ⟨vs, rfl, hv⟩ := h
    exact ⟨vs, rfl, mkCs_rel hr hv⟩
  | false =>
    simp only [mkR] at h ⊢
    split
    · rename_i s hs
      have : SV.reps E' β' (mkCs ps us) [v] := by
        refine mkCs_rel (β := β) hr ?_
        match ps with
        | [] => simp [mkCs] at hs
        | [p] => simpa [mkCs] using h
        | p :: p2 :: ps => simp [mkCs] at hs
      rw [hs] at this
      simpa using this
    · simp [SV.rep]
theorem RelL.den {E'' : Env} : ∀ {ks : List SK} {ts us zs : List Tm}, RelL E E' ks ts us → zs.length = us.length → (∀ (i : Nat) (u z : Tm), us[i]? = some u → zs[i]? = some z → z.den E'' = u.den E') → RelL E E'' ks ts zs
  | [], [], [], [], _, _, _ => trivial
  | k :: ks, t :: ts, u :: us, z :: zs, h, hl, hz => by
    refine ⟨fun v hv => ?_, RelL.den h.2 (by simpa using hl) (fun i a b h1 h2 => hz (i + 1) a b (by simpa using h1) (by simpa using h2))⟩
    rw [hz 0 u z rfl rfl]
    exact h.1 v hv
  | _, _, [], _ :: _, _, hl, _ => by simp at hl
  | _, _, _ :: _, [], _, hl, _ => by simp at hl
  | [], [], _ :: _, _, h, _, _ => by cases h
  | [], _ :: _, _, _, h, _, _ => by cases h
  | _ :: _, [], _, _, h, _, _ => by cases h
  | _ :: _, _ :: _, [], _, h, _, _ => by cases h
end
/-- Two functions whose trees agree: one name for both. -/
theorem sumH_ok {P : Go.Program} {E : Env} {ctx ctx' : Ctx} {n m f g N id : Nat} {ps ps' : List Pa} {ass pcx : PC} {rp : Rp} {D : Tm} {els : Sum} (hC' : ∀ E' : Env, E'.fn = E.fn → CtxOk P E' ctx' ∧ CtxPc E' ctx')
    (hN : Named P) (hmix : P.follows .mixedOrders = true) (hD : ∀ c, E.fn id c = D.den ⟨fun i => c.at_ i, E.fn⟩)
    (hj : (Nat.ble (bldP ps' 0 0).j 1000 && undersF (bldP ps' 0 0).n ass) = true) (hu : (D.under (bldP ps' 0 0).n && Nat.beq N (sizeR rp.2)) = true)
    (hx : ∀ E' : Env, E'.fn = E.fn → PcOk E' ass → PcOk E' pcx) (hk : treeIs rp (callQ P ctx n g ps pcx) D = true)
    (ha : agreeH rp pcx m [] pcx (callQ P ctx n g ps pcx) (callQ P ctx' n f ps' pcx) = true) (hels : SumOk P E f els) : SumOk P E f (sumR ps' ass rp N id els) := by
  simp only [Bool.and_eq_true] at hu
  refine sumQ_ok (n := n) hC' hN hmix hj hx (fun E' ts hfn hp hn hE => ?_) hels
  unfold treeIs at hk
  split at hk
  · rename_i T hT
    have e := Tm.beq_eq hk
    subst e
    obtain ⟨r, cs, h1, h2, h3⟩ := treeT_sel (E := E') hT
    obtain ⟨r', us, g1, g2, g3⟩ := agreeH_ok (pc := pcx) (fun p hm => hp p (List.mem_append.2 (.inl hm))) (fun p hm => by cases hm) (fun p hm => hp p (List.mem_append.2 (.inl hm))) ha h1 h2
    refine ⟨r', g1, fun β' β v hv => ?_⟩
    have hlen := unR_length h2
    have hlen' := unR_length g2
    have hN' : N = sizeR rp.2 := Nat.eq_of_beq_eq_true hu.2
    have hrefl : SV.rep E' β' (mkR rp us) v := unR_rep g2 hv ⟨rfl, fun i t u a b => by rw [a] at b; cases b; rfl⟩
    refine mkR_rel (β := β') (RelL.den g3 (by rw [nths_length]; omega) fun i t u q1 q2 => ?_) hrefl
    have eu := nths_get q2
    rw [Nat.zero_add] at eu
    subst eu
    simp only [Tm.den]
    rw [hD]
    have e2 : T.den E' = T.den ⟨fun i => ((listT ts).den E).at_ i, E.fn⟩ := under_den (E' := ⟨fun i => ((listT ts).den E).at_ i, E.fn⟩) (n := (bldP ps' 0 0).n) (fun i hi => by
      rw [hn] at hi
      have ht : ts[i]? = some ts[i] := List.getElem?_eq_getElem hi
      rw [hE i _ ht]
      exact (listT_at ht).symm) hfn hu.1
    rw [← e2, h3]
    exact listT_at q1
  · cases hk
end Go.Sx
