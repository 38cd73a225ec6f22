/- Contracts whose answer is a choice that is known; two trees of ways that give the same. No condition. -/
import Derived.Test.YtamljpeicecbjaaSxRes
set_option linter.unusedVariables false
set_option linter.unusedSimpArgs false
noncomputable section
namespace Go.Sx
open Go Go.RowKit

def reT (t : Tm) : Tm :=
  match t with
  | .op o x y => mkOp o x y
  | t => t
theorem reT_den {E : Env} (t : Tm) : (reT t).den E = t.den E := by
  unfold reT
  split
  · rw [mkOp_den]; rfl
  · rfl
/-- A choice of which the test is known. -/
def liteT (pc : PC) (t : Tm) : Tm :=
  match t with
  | .ite c a b => match decB pc c with
    | some true => reT a
    | some false => reT b
    | none => .ite c a b
  | t => t
theorem liteT_den {E : Env} {pc : PC} (hp : PcOk E pc) (t : Tm) : (liteT pc t).den E = t.den E := by
  unfold liteT
  split
  · rename_i c a b
    split
    · rename_i h; have := decB_ok hp c h; simp [Tm.den, this, reT_den]
    · rename_i h; have := decB_ok hp c h; simp [Tm.den, this, reT_den]
    · rfl
  · rfl
def liteR (r : Res) : Res :=
  match r.v with
  | .sc k t => { r with v := .sc k (liteT r.pc t) }
  | _ => r
/-- The same contract, its answer made simpler by what is known. -/
def liteS (S : Sum) : Sum := fun args m pc => (S args m pc).bind fun r => .ret (liteR r)
section
variable {P : Program} {E : Env}
theorem liteS_ok {f : Nat} {S : Sum} (h : SumOk P E f S) : SumOk P E f (liteS S) := by
  intro args m pc r hr β w vals hreps hm hf hl hp
  unfold liteS at hr
  obtain ⟨r0, h0, hr⟩ := Out.sel_bind_some hr
  simp only [Out.sel, Option.some.injEq] at hr
  subst hr
  obtain ⟨h1, h2, h3, h4⟩ := h args m pc r0 h0 β w vals hreps hm hf hl hp
  unfold liteR
  split
  · rename_i k t hv
    refine ⟨h1, h2, h3, h4.mono fun e w' ⟨v, β', he, hrep, hst⟩ => ⟨v, β', he, ?_, hst⟩⟩
    rw [hv] at hrep
    simp only [SV.rep] at hrep ⊢
    rw [liteT_den h1]; exact hrep
  · exact ⟨h1, h2, h3, h4⟩
theorem liteS_pc {S : Sum} (h : ∀ args m pc, PcOk E pc → Pcs E Res.pc (S args m pc)) (args : List SV) (m : Mm) (pc : PC) (hp : PcOk E pc) : Pcs E Res.pc (liteS S args m pc) := by
  unfold liteS
  refine .bind (h args m pc hp) (fun r hr => .ret ?_)
  unfold liteR
  split <;> exact hr
end

def liteL : List (Nat × Sum) → List (Nat × Sum)
  | [] => []
  | (f, S) :: r => (f, liteS S) :: liteL r
section
variable {P : Program} {E : Env}
theorem liteL_sum : ∀ {l : List (Nat × Sum)} {f : Nat} {S : Sum}, sumL (liteL l) f = some S → ∃ S0, sumL l f = some S0 ∧ S = liteS S0
  | [], f, S, h => by cases h
  | (g, S1) :: r, f, S, h => by
    simp only [liteL, sumL] at h ⊢
    split at h
    · rename_i hg
      cases h
      exact ⟨S1, rfl, rfl⟩
    · exact liteL_sum h
theorem liteL_ok {l : List (Nat × Sum)} (h : CtxOk P E (ctxL l) ∧ CtxPc E (ctxL l)) : CtxOk P E (ctxL (liteL l)) ∧ CtxPc E (ctxL (liteL l)) := by
  refine ⟨⟨fun f S hf => ?_, fun c L h => (by cases h), fun f as σ o h => (by cases h)⟩, ⟨fun f S hf => ?_, fun c L h => (by cases h), fun f as σ o h => (by cases h)⟩⟩
  · obtain ⟨S0, e1, rfl⟩ := liteL_sum hf
    exact liteS_ok (h.1.sum f S0 e1)
  · obtain ⟨S0, e1, rfl⟩ := liteL_sum hf
    exact liteS_pc (h.2.sum f S0 e1)
end
/-! Two trees that give the same -/
/-- The second tree gives this value wherever what is known allows. -/
def agreeR (same : SV → Bool) : Nat → PC → Out Res → Bool
  | 0, _, _ => false
  | _ + 1, _, .ret r => same r.v
  | _ + 1, _, .bad _ => false
  | n + 1, pc, .br c x y => match decT pc c with
    | some true => agreeR same n pc x
    | some false => agreeR same n pc y
    | none => match agreeR same n (addF pc c true) x with
      | true => agreeR same n (addF pc c false) y
      | false => false
def agree : Nat → PC → Out Res → Out Res → Bool
  | 0, _, _, _ => false
  | n + 1, pc, .ret r, o => agreeR (SV.beq r.v) (n + 1) pc o
  | _ + 1, _, .bad _, _ => false
  | n + 1, pc, .br c x y, o => match decT pc c with
    | some true => agree n pc x o
    | some false => agree n pc y o
    | none => match agree n (addF pc c true) x o with
      | true => agree n (addF pc c false) y o
      | false => false
theorem agreeR_ok {E : Env} {v : SV} : ∀ {n : Nat} {pc : PC} {o : Out Res}, PcOk E pc → agreeR (SV.beq v) n pc o = true → ∃ r, o.sel E = some r ∧ r.v = v
  | 0, _, _, _, h => by cases h
  | n + 1, pc, .ret r, hp, h => ⟨r, rfl, (SV.beq_eq v r.v h).symm⟩
  | n + 1, pc, .bad _, hp, h => by cases h
  | n + 1, pc, .br c x y, hp, h => by
    simp only [agreeR] at h
    split at h
    · rename_i hd
      have hc := decT_ok hp hd
      obtain ⟨r, h1, h2⟩ := agreeR_ok hp h
      exact ⟨r, by simp [Out.sel, hc, h1], h2⟩
    · rename_i hd
      have hc := decT_ok hp hd
      obtain ⟨r, h1, h2⟩ := agreeR_ok hp h
      exact ⟨r, by simp [Out.sel, hc, h1], h2⟩
    · split at h
      · rename_i hx
        cases hc : (c.den E).toB with
        | true =>
          obtain ⟨r, h1, h2⟩ := agreeR_ok (addF_ok c hp hc) hx
          exact ⟨r, by simp [Out.sel, hc, h1], h2⟩
        | false =>
          obtain ⟨r, h1, h2⟩ := agreeR_ok (addF_ok c hp hc) h
          exact ⟨r, by simp [Out.sel, hc, h1], h2⟩
      · cases h
theorem agree_ok {E : Env} : ∀ {n : Nat} {pc : PC} {o o' : Out Res} {r : Res}, PcOk E pc → agree n pc o o' = true → o.sel E = some r → ∃ r', o'.sel E = some r' ∧ r'.v = r.v
  | 0, _, _, _, _, _, h, _ => by cases h
  | n + 1, pc, .ret r0, o', r, hp, h, hs => by
    simp only [Out.sel, Option.some.injEq] at hs
    subst hs
    exact agreeR_ok hp h
  | n + 1, pc, .bad _, o', r, hp, h, hs => by cases h
  | n + 1, pc, .br c x y, o', r, hp, h, hs => by
    simp only [agree] at h
    simp only [Out.sel] at hs
    split at h
    · rename_i hd
      have hc := decT_ok hp hd
      rw [hc] at hs
      exact agree_ok hp h (by simpa using hs)
    · rename_i hd
      have hc := decT_ok hp hd
      rw [hc] at hs
      exact agree_ok hp h (by simpa using hs)
    · split at h
      · rename_i hx
        cases hc : (c.den E).toB with
        | true =>
          rw [hc] at hs
          exact agree_ok (addF_ok c hp hc) hx (by simpa using hs)
        | false =>
          rw [hc] at hs
          exact agree_ok (addF_ok c hp hc) h (by simpa using hs)
      · cases h

section
variable {P : Program} {E : Env}
/-- A contract under assumptions; what is shown of the executor's answer may lean on them. -/
theorem sumW_ok {ctx : Ctx} {n f : Nat} {ps : List Pa} {as pcx : PC} {mk : List Tm → SV} {els : Sum} (hC : ∀ E' : Env, E'.fn = E.fn → CtxOk P E' ctx ∧ CtxPc E' ctx)
    (hN : Named P) (hmix : P.follows .mixedOrders = true) (hj : (Nat.ble (bldP ps 0 0).j 1000 && undersF (bldP ps 0 0).n as) = true)
    (hx : ∀ E' : Env, E'.fn = E.fn → PcOk E' as → PcOk E' pcx)
    (hk : ∀ (E' : Env) (ts : List Tm), E'.fn = E.fn → PcOk E' as → PcOk E' (pcx ++ (bldP ps 0 0).pc) → (bldP ps 0 0).n = ts.length → (∀ (i : Nat) (t : Tm), ts[i]? = some t → E'.v i = t.den E) →
      ∃ r, (callQ P ctx n f ps pcx).sel E' = some r ∧ ∀ β' β v, SV.rep E' β' r.v v → SV.rep E β (mk ts) v)
    (hels : SumOk P E f els) : SumOk P E f (sumQ ps as mk els) := by
  simp only [Bool.and_eq_true] at hj
  intro args m pc r hr β w vals hreps hm hf hl hp
  unfold sumQ at hr
  split at hr
  · rename_i ts hts
    obtain ⟨pc1, hp1, hc⟩ := forkAs_sel hp hr
    rcases hc with ⟨has, hr⟩ | hr
    · simp only [val, Out.sel, Option.some.injEq] at hr
      subst hr
      obtain ⟨e1, bss, e2, hall⟩ := matchP_ok P hp hm (n := 0) (j := 0) hts hreps
      rw [Nat.zero_add] at e1 e2
      let E' : Env := ⟨fun i => (ts[i]?.map (Tm.den E)).getD .nil, E.fn⟩
      let β' : Pl := fun i => bss[i]?
      have hE : ∀ (i : Nat) (t : Tm), ts[i]? = some t → E'.v i = t.den E := fun i t hi => by simp [E', hi]
      obtain ⟨g1, g2, g3⟩ := hall E' β' (fun i t hi => by rw [Nat.zero_add]; exact hE i t hi) (fun i x hi => by rw [Nat.zero_add]; exact hi)
      have hasE : PcOk E' as := substF_ok hE rfl (by rw [← e1]; exact hj.2) has
      have hpx : PcOk E' (pcx ++ (bldP ps 0 0).pc) := fun p hp => by
        rcases List.mem_append.1 hp with hp | hp
        · exact hx E' rfl hasE p hp
        · exact g3 p hp
      obtain ⟨r0, hr0, e3⟩ := hk E' ts rfl hasE hpx e1 hE
      unfold callQ at hr0
      obtain ⟨_, _, hfn, hcalls⟩ := call_ok (hC E' rfl).1 (hC E' rfl).2 hN hmix n f (bldP ps 0 0).svs ⟨(bldP ps 0 0).mem, (bldP ps 0 0).j, 2 ^ 256, 2 ^ 200⟩ (pcx ++ (bldP ps 0 0).pc) r0 hr0 β' w vals g1 g2
        (fun i hi _ => by simp only [β']; exact List.getElem?_eq_none (by simp only at hi; omega)) (Nat.le_trans (Nat.le_of_ble_eq_true hj.1) (show 1000 ≤ 2 ^ 256 by decide)) hpx
      refine ⟨hp1, hl, hfn, hcalls.mono fun e w' ⟨v, β'', he, hv', hst⟩ => ?_⟩
      exact ⟨v, β, he, e3 β'' β v hv', Step.same _ hst.below⟩
    · exact hels args m pc1 r hr β w vals hreps hm hf hl hp1
  · exact hels args m pc r hr β w vals hreps hm hf hl hp
/-- A contract with several results, the executor's term being turned into the name's own, part by part. -/
theorem sumR3_ok {ctx : Ctx} {n f N id : Nat} {ps : List Pa} {as pcx : PC} {rp : Rp} {D T : Tm} {els : Sum} (hC : ∀ E' : Env, E'.fn = E.fn → CtxOk P E' ctx ∧ CtxPc E' ctx)
    (hN : Named P) (hmix : P.follows .mixedOrders = true) (hD : ∀ c, E.fn id c = D.den ⟨fun i => c.at_ i, E.fn⟩)
    (hj : (Nat.ble (bldP ps 0 0).j 1000 && undersF (bldP ps 0 0).n as) = true) (hu : (D.under (bldP ps 0 0).n && Nat.beq N (sizeR rp.2)) = true)
    (hx : ∀ E' : Env, E'.fn = E.fn → PcOk E' as → PcOk E' pcx) (hT : ∀ E' : Env, E'.fn = E.fn → PcOk E' as → ∀ i, i < N → (T.den E').at_ i = (D.den E').at_ i)
    (hk : treeIs rp (callQ P ctx n f ps pcx) T = true) (hels : SumOk P E f els) : SumOk P E f (sumR ps as rp N id els) := by
  simp only [Bool.and_eq_true] at hu
  refine sumW_ok (n := n) hC hN hmix hj hx (fun E' ts hfn has hp hn hE => ?_) hels
  unfold treeIs at hk
  split at hk
  · rename_i T' hT'
    have e := Tm.beq_eq hk
    subst e
    obtain ⟨r, cs, h1, h2, h3⟩ := treeT_sel (E := E') hT'
    refine ⟨r, h1, fun β' β v hv => ?_⟩
    have hlen := unR_length h2
    have hN' : N = sizeR rp.2 := Nat.eq_of_beq_eq_true hu.2
    refine unR_rep h2 hv ⟨by rw [nths_length]; omega, fun i t u g1 g2 => ?_⟩
    have hiN : i < N := by have := (List.getElem?_eq_some_iff.1 g2).1; rw [nths_length] at this; exact this
    have eu := nths_get g2
    rw [Nat.zero_add] at eu
    subst eu
    simp only [Tm.den]
    rw [hD]
    have e2 : D.den E' = D.den ⟨fun i => ((listT ts).den E).at_ i, E.fn⟩ := under_den (E' := ⟨fun i => ((listT ts).den E).at_ i, E.fn⟩) (n := (bldP ps 0 0).n) (fun i hi => by
      rw [hn] at hi
      have ht : ts[i]? = some ts[i] := List.getElem?_eq_getElem hi
      rw [hE i _ ht]
      exact (listT_at ht).symm) hfn hu.1
    rw [← e2, ← hT E' hfn has i hiN, h3]
    exact listT_at g1
  · cases hk
theorem sumR2_ok {ctx : Ctx} {n f N id : Nat} {ps : List Pa} {as pcx : PC} {rp : Rp} {D T : Tm} {els : Sum} (hC : ∀ E' : Env, E'.fn = E.fn → CtxOk P E' ctx ∧ CtxPc E' ctx)
    (hN : Named P) (hmix : P.follows .mixedOrders = true) (hD : ∀ c, E.fn id c = D.den ⟨fun i => c.at_ i, E.fn⟩)
    (hj : (Nat.ble (bldP ps 0 0).j 1000 && undersF (bldP ps 0 0).n as) = true) (hu : (D.under (bldP ps 0 0).n && Nat.beq N (sizeR rp.2)) = true)
    (hx : ∀ E' : Env, E'.fn = E.fn → PcOk E' as → PcOk E' pcx) (hT : ∀ E' : Env, E'.fn = E.fn → PcOk E' as → T.den E' = D.den E')
    (hk : treeIs rp (callQ P ctx n f ps pcx) T = true) (hels : SumOk P E f els) : SumOk P E f (sumR ps as rp N id els) :=
  sumR3_ok hC hN hmix hD hj hu hx (fun E' h1 h2 i _ => by rw [hT E' h1 h2]) hk hels
/-- A contract with several results, each given as a term of the arguments. -/
theorem sumV_ok {ctx : Ctx} {n f N : Nat} {ps : List Pa} {as pcx : PC} {rp : Rp} {T : Tm} {us : List Tm → List Tm} {els : Sum} (hC : ∀ E' : Env, E'.fn = E.fn → CtxOk P E' ctx ∧ CtxPc E' ctx)
    (hN : Named P) (hmix : P.follows .mixedOrders = true)
    (hj : (Nat.ble (bldP ps 0 0).j 1000 && undersF (bldP ps 0 0).n as) = true) (hu : Nat.beq N (sizeR rp.2) = true)
    (hx : ∀ E' : Env, E'.fn = E.fn → PcOk E' as → PcOk E' pcx)
    (hV : ∀ (E' : Env) (ts : List Tm), E'.fn = E.fn → PcOk E' as → (bldP ps 0 0).n = ts.length → (∀ (i : Nat) (t : Tm), ts[i]? = some t → E'.v i = t.den E) → (us ts).length = N ∧ ∀ (i : Nat) (u : Tm), (us ts)[i]? = some u → u.den E = (T.den E').at_ i)
    (hk : treeIs rp (callQ P ctx n f ps pcx) T = true) (hels : SumOk P E f els) : SumOk P E f (sumQ ps as (fun ts => mkR rp (us ts)) els) := by
  refine sumW_ok (n := n) hC hN hmix hj hx (fun E' ts hfn has hp hn hE => ?_) hels
  unfold treeIs at hk
  split at hk
  · rename_i T' hT'
    have e := Tm.beq_eq hk
    subst e
    obtain ⟨r, cs, h1, h2, h3⟩ := treeT_sel (E := E') hT'
    obtain ⟨v1, v2⟩ := hV E' ts hfn has hn hE
    refine ⟨r, h1, fun β' β v hv => ?_⟩
    have hlen := unR_length h2
    have hN' : N = sizeR rp.2 := Nat.eq_of_beq_eq_true hu
    refine unR_rep h2 hv ⟨by omega, fun i t u g1 g2 => ?_⟩
    rw [v2 i u g2, h3]
    exact listT_at g1
  · cases hk
end
end Go.Sx
