/- Contracts of functions of plain values, out of what the executor reckons of them. No condition. -/
import Derived.Test.YtfdpcmijifdfeaaGreatSxArgs
set_option linter.unusedVariables false
set_option linter.unusedSimpArgs false
noncomputable section
namespace Go.Sx
open Go Go.RowKit

/-- The terms of plain values of given kinds. -/
def matchKs : List SK → List SV → Option (List Tm)
  | [], [] => some []
  | k :: ks, s :: ss => match s with
    | .sc k' t => match beqK k k', matchKs ks ss with
      | true, some ts => some (t :: ts)
      | _, _ => none
    | _ => none
  | _, _ => none
/-- What a call gives is this one value. -/
def retIs (o : Out Res) (k : SK) (T : Tm) : Bool :=
  match o with
  | .ret r => match r.v with
    | .sc k' t => match beqK k' k with
      | true => t.beq T
      | false => false
    | _ => false
  | _ => false
/-- The contract: a plain value, made of the terms of the arguments. -/
def sumS (ks : List SK) (k : SK) (mk : List Tm → Tm) : Sum := fun args m pc =>
  match matchKs ks args with
  | some ts => val m pc (.sc k (mk ts))
  | none => .bad 300

section
variable {P : Program} {E : Env} {β : Pl}
theorem matchKs_reps : ∀ {ks : List SK} {ss : List SV} {ts : List Tm} {vs : List Value}, matchKs ks ss = some ts → SV.reps E β ss vs →
    ks.length = vs.length ∧ ts.length = ks.length ∧ ∀ (i : Nat) (k : SK) (t : Tm) (v : Value), ks[i]? = some k → ts[i]? = some t → vs[i]? = some v → k.rep (t.den E) v
  | [], [], ts, vs, h, hr => by
    simp only [matchKs, Option.some.injEq] at h
    subst h
    simp only [reps_nil] at hr
    subst hr
    simp
  | k :: ks, s :: ss, ts, vs, h, hr => by
    simp only [matchKs] at h
    split at h
    · rename_i k' t
      split at h
      · rename_i ts' hk hm
        simp only [Option.some.injEq] at h
        subst h
        simp only [SV.reps] at hr
        obtain ⟨v, rest, rfl, h1, h2⟩ := hr
        obtain ⟨g1, g2, g3⟩ := matchKs_reps hm h2
        refine ⟨by simp [g1], by simp [g2], fun i kk tt vv hk' ht hv => ?_⟩
        cases i with
        | zero =>
          simp only [List.getElem?_cons_zero, Option.some.injEq] at hk' ht hv
          subst hk'; subst ht; subst hv
          rw [beqK_eq hk]
          simpa only [SV.rep] using h1
        | succ i => exact g3 i kk tt vv (by simpa using hk') (by simpa using ht) (by simpa using hv)
      · cases h
    · cases h
  | [], _ :: _, _, _, h, _ => by cases h
  | _ :: _, [], _, _, h, _ => by cases h

/-- A CONTRACT OUT OF THE EXECUTOR'S OWN RECKONING, THE TERM TURNED INTO ANOTHER ONE OF THE SAME VALUE. -/
theorem sum_ok {ctx : Ctx} {n f : Nat} {ks : List SK} {k : SK} {T : Tm} {mk : List Tm → Tm} (hC : ∀ E' : Env, E'.fn = E.fn → CtxOk P E' ctx ∧ CtxPc E' ctx)
    (hN : Named P) (hmix : P.follows .mixedOrders = true) (hk : retIs (call ctx P n f (sym ks 0) mBare []) k T = true)
    (hmk : ∀ (E' : Env) (ts : List Tm), E'.fn = E.fn → ts.length = ks.length → (∀ (i : Nat) (t : Tm), ts[i]? = some t → E'.v i = t.den E) → ∀ v, k.rep (T.den E') v → k.rep ((mk ts).den E) v) :
    SumOk P E f (sumS ks k mk) := by
  intro args m pc r hr β w vals hreps hm hf hl hp
  unfold sumS at hr
  split at hr
  · rename_i ts hts
    simp only [val, Out.sel, Option.some.injEq] at hr
    subst hr
    obtain ⟨g1, g2, g3⟩ := matchKs_reps hts hreps
    let E' : Env := ⟨fun i => (ts[i]?.map (Tm.den E)).getD .nil, E.fn⟩
    have hE : ∀ (i : Nat) (t : Tm), ts[i]? = some t → E'.v i = t.den E := fun i t hi => by simp [E', hi]
    have hreps' : SV.reps E' (fun _ => none) (sym ks 0) vals := sym_reps ks 0 vals g1 fun i kk v hi hv => by
      have hlt := (List.getElem?_eq_some_iff.1 hi).1
      have ht : ts[i]? = some (ts[i]'(by omega)) := List.getElem?_eq_getElem _
      rw [Nat.zero_add, hE i _ ht]
      exact g3 i kk _ v hi ht hv
    unfold retIs at hk
    split at hk
    · rename_i r0 hr0
      split at hk
      · rename_i k' t hv
        split at hk
        · rename_i hkk
          have e1 := beqK_eq hkk
          have e2 := Tm.beq_eq hk
          subst e1; subst e2
          obtain ⟨_, _, hfn, hcalls⟩ := call_ok (hC E' rfl).1 (hC E' rfl).2 hN hmix n f (sym ks 0) mBare [] r0 (by rw [hr0]; rfl) (fun _ => none) w vals hreps' (fun j sb h => by cases h) (fun _ _ _ => rfl) (by decide) (fun p hp => by cases hp)
          refine ⟨hp, hl, hfn, hcalls.mono fun e w' ⟨v, β', he, hv', hst⟩ => ?_⟩
          rw [hv] at hv'
          simp only [SV.rep] at hv'
          exact ⟨v, β, he, by simp only [SV.rep]; exact hmk E' ts rfl g2 hE v hv', Step.same _ hst.below⟩
        · cases hk
      · cases hk
    · cases hk
  · cases hr
theorem sumS_pc {ks : List SK} {k : SK} {mk : List Tm → Tm} (args : List SV) (m : Mm) (pc : PC) (hp : PcOk E pc) : Pcs E Res.pc (sumS ks k mk args m pc) := by
  unfold sumS
  split
  · exact .ret hp
  · exact .bad
end
end Go.Sx
