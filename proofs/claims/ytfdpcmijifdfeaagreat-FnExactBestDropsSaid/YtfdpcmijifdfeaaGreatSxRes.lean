/- Contracts of functions with several results, under what is assumed of the arguments. No condition. -/
import Derived.Test.YtfdpcmijifdfeaaGreatSxPat
set_option linter.unusedVariables false
set_option linter.unusedSimpArgs false
noncomputable section
namespace Go.Sx
open Go Go.RowKit

/-- A result: is it a tuple, and its parts: is it an aggregate, and its cells. -/
abbrev Rp := Bool × List (Bool × List SK)
def cellsR : Bool × List SK → SV → Option (List Tm)
  | (true, ks), .agg cs => matchKs ks cs
  | (false, ks), .sc k t => matchKs ks [.sc k t]
  | _, _ => none
def cellsRs : List (Bool × List SK) → List SV → Option (List Tm)
  | [], [] => some []
  | p :: ps, s :: ss => match cellsR p s, cellsRs ps ss with
    | some a, some b => some (a ++ b)
    | _, _ => none
  | _, _ => none
def unR (rp : Rp) (v : SV) : Option (List Tm) :=
  match rp.1 with
  | true => match v with
    | .tup vs => cellsRs rp.2 vs
    | _ => none
  | false => cellsRs rp.2 [v]
def mkC : Bool × List SK → List Tm → SV
  | (true, ks), ts => .agg (scs ks ts)
  | (false, ks), ts => match scs ks ts with
    | [s] => s
    | _ => .un
def mkCs : List (Bool × List SK) → List Tm → List SV
  | [], _ => []
  | p :: ps, ts => mkC p (ts.take p.2.length) :: mkCs ps (ts.drop p.2.length)
def mkR (rp : Rp) (ts : List Tm) : SV :=
  match rp.1 with
  | true => .tup (mkCs rp.2 ts)
  | false => match mkCs rp.2 ts with
    | [s] => s
    | _ => .un
/-- Two lists of terms stand for the same. -/
def SameL (E E' : Env) (ts us : List Tm) : Prop := ts.length = us.length ∧ ∀ (i : Nat) (t u : Tm), ts[i]? = some t → us[i]? = some u → u.den E' = t.den E

section
variable {E E' : Env} {β β' : Pl}
theorem SameL.tail {t u : Tm} {ts us : List Tm} (h : SameL E E' (t :: ts) (u :: us)) : SameL E E' ts us :=
  ⟨by have := h.1; simpa using this, fun i a b h1 h2 => h.2 (i + 1) a b (by simpa using h1) (by simpa using h2)⟩
theorem SameL.split {a b us : List Tm} (h : SameL E E' (a ++ b) us) : SameL E E' a (us.take a.length) ∧ SameL E E' b (us.drop a.length) := by
  have hl := h.1
  rw [List.length_append] at hl
  refine ⟨⟨by rw [List.length_take]; omega, fun i t u h1 h2 => ?_⟩, ⟨by rw [List.length_drop]; omega, fun i t u h1 h2 => ?_⟩⟩
  · have hi := (List.getElem?_eq_some_iff.1 h1).1
    rw [List.getElem?_take, if_pos hi] at h2
    exact h.2 i t u (by rw [List.getElem?_append_left hi]; exact h1) h2
  · rw [List.getElem?_drop] at h2
    exact h.2 (a.length + i) t u (by rw [List.getElem?_append_right (by omega), Nat.add_sub_cancel_left]; exact h1) h2
theorem scs_reps : ∀ {ks : List SK} {cs : List SV} {ts us : List Tm} {vs : List Value}, matchKs ks cs = some ts → SV.reps E β cs vs → SameL E E' ts us → SV.reps E' β' (scs ks us) vs
  | [], [], ts, us, vs, h, hr, hs => by
    simp only [matchKs, Option.some.injEq] at h
    subst h
    simp only [reps_nil] at hr
    subst hr
    simp [scs]
  | [], _ :: _, _, _, _, h, _, _ => by cases h
  | _ :: _, [], _, _, _, h, _, _ => by cases h
  | k :: ks, s :: cs, ts, us, vs, h, hr, hs => by
    simp only [matchKs] at h
    split at h
    · rename_i k' t
      split at h
      · rename_i ts' hk hm
        simp only [Option.some.injEq] at h
        subst h
        cases us with
        | nil => have := hs.1; simp at this
        | cons u us =>
          simp only [SV.reps] at hr
          obtain ⟨v, rest, rfl, h1, h2⟩ := hr
          simp only [scs, reps_cons]
          refine ⟨?_, scs_reps hm h2 hs.tail⟩
          have e := hs.2 0 t u rfl rfl
          simp only [SV.rep] at h1 ⊢
          rw [e, beqK_eq hk]; exact h1
      · cases h
    · cases h
theorem cellsR_rep {p : Bool × List SK} {s : SV} {ts us : List Tm} {v : Value} (h : cellsR p s = some ts) (hr : SV.rep E β s v) (hs : SameL E E' ts us) : ts.length = p.2.length ∧ SV.rep E' β' (mkC p us) v := by
  unfold cellsR at h
  split at h
  · rename_i ks cs
    simp only [SV.rep] at hr
    obtain ⟨vs, rfl, hvs⟩ := hr
    obtain ⟨_, e, _⟩ := matchKs_reps h hvs
    refine ⟨e, ?_⟩
    simp only [mkC, SV.rep]
    exact ⟨vs, rfl, scs_reps h hvs hs⟩
  · rename_i ks k t
    have hr' : SV.reps E β [.sc k t] [v] := by rw [reps_cons]; exact ⟨hr, by simp⟩
    obtain ⟨e0, e, _⟩ := matchKs_reps h hr'
    refine ⟨e, ?_⟩
    have g := scs_reps (β' := β') h hr' hs
    simp only [mkC]
    split
    · rename_i s hs1
      rw [hs1] at g
      simp only [reps_cons, reps_nil] at g
      exact g.1
    · simp [SV.rep]
  · cases h
theorem cellsRs_reps : ∀ {ps : List (Bool × List SK)} {ss : List SV} {ts us : List Tm} {vs : List Value}, cellsRs ps ss = some ts → SV.reps E β ss vs → SameL E E' ts us → SV.reps E' β' (mkCs ps us) vs
  | [], [], ts, us, vs, h, hr, hs => by
    simp only [reps_nil] at hr
    subst hr
    simp [mkCs]
  | [], _ :: _, _, _, _, h, _, _ => by cases h
  | _ :: _, [], _, _, _, h, _, _ => by cases h
  | p :: ps, s :: ss, ts, us, vs, h, hr, hs => by
    simp only [cellsRs] at h
    split at h
    · rename_i a b ha hb
      simp only [Option.some.injEq] at h
      subst h
      simp only [SV.reps] at hr
      obtain ⟨v, rest, rfl, h1, h2⟩ := hr
      obtain ⟨s1, s2⟩ := hs.split
      obtain ⟨e, g⟩ := cellsR_rep (β' := β') ha h1 s1
      simp only [mkCs, reps_cons]
      rw [← e]
      exact ⟨g, cellsRs_reps hb h2 s2⟩
    · cases h
theorem unR_rep {rp : Rp} {s : SV} {ts us : List Tm} {v : Value} (h : unR rp s = some ts) (hr : SV.rep E β s v) (hs : SameL E E' ts us) : SV.rep E' β' (mkR rp us) v := by
  unfold unR at h
  unfold mkR
  split at h
  · rename_i hb
    split at h
    · simp only [SV.rep] at hr
      obtain ⟨vs, rfl, hvs⟩ := hr
      simp only [SV.rep]
      exact ⟨vs, rfl, cellsRs_reps h hvs hs⟩
    · cases h
  · have hr' : SV.reps E β [s] [v] := by rw [reps_cons]; exact ⟨hr, by simp⟩
    have g := cellsRs_reps (β' := β') h hr' hs
    split
    · rename_i s' hs1
      rw [hs1] at g
      simp only [reps_cons, reps_nil] at g
      exact g.1
    · simp [SV.rep]
end

/-- A tree of ways as one term: the list of the results' cells. -/
def treeT (rp : Rp) : Out Res → Option Tm
  | .ret r => match unR rp r.v with
    | some ts => some (listT ts)
    | none => none
  | .br t x y => match treeT rp x, treeT rp y with
    | some a, some b => some (.ite t a b)
    | _, _ => none
  | .bad _ => none
theorem treeT_sel {E : Env} {rp : Rp} : ∀ {o : Out Res} {T : Tm}, treeT rp o = some T → ∃ r ts, o.sel E = some r ∧ unR rp r.v = some ts ∧ T.den E = (listT ts).den E
  | .ret r, T, h => by
    simp only [treeT] at h
    split at h
    · rename_i ts hts; cases h; exact ⟨r, ts, rfl, hts, rfl⟩
    · cases h
  | .bad _, T, h => by cases h
  | .br t x y, T, h => by
    simp only [treeT] at h
    split at h
    · rename_i a b ha hb
      cases h
      cases ht : (t.den E).toB with
      | true =>
        obtain ⟨r, ts, h1, h2, h3⟩ := treeT_sel (E := E) ha
        exact ⟨r, ts, by simp [Out.sel, ht, h1], h2, by simp [Tm.den, ht, h3]⟩
      | false =>
        obtain ⟨r, ts, h1, h2, h3⟩ := treeT_sel (E := E) hb
        exact ⟨r, ts, by simp [Out.sel, ht, h1], h2, by simp [Tm.den, ht, h3]⟩
    · cases h

def nths (a : Tm) : Nat → Nat → List Tm
  | 0, _ => []
  | n + 1, i => .nth i a :: nths a n (i + 1)
theorem nths_get {a : Tm} : ∀ {n i j : Nat} {t : Tm}, (nths a n i)[j]? = some t → t = .nth (i + j) a
  | 0, i, j, t, h => by simp [nths] at h
  | n + 1, i, 0, t, h => by simp [nths] at h; subst h; rfl
  | n + 1, i, j + 1, t, h => by
    have := nths_get (n := n) (i := i + 1) (j := j) (by simpa [nths] using h)
    rw [this, show i + 1 + j = i + (j + 1) by omega]
theorem nths_length (a : Tm) : ∀ n i, (nths a n i).length = n
  | 0, _ => rfl
  | n + 1, i => by simp [nths, nths_length a n (i + 1)]

/-! Assumptions -/
def substF (ts : List Tm) : PC → PC
  | [] => []
  | (t, b) :: r => (t.subst ts, b) :: substF ts r
/-- What is assumed is asked where it isn't known. -/
def forkAs (yes no : PC → Out Res) : PC → PC → Out Res
  | [], pc => yes pc
  | (t, b) :: r, pc => match b with
    | true => fork pc t (forkAs yes no r) no
    | false => fork pc t no (forkAs yes no r)
theorem forkAs_sel {E : Env} {yes no : PC → Out Res} : ∀ {as pc : PC} {r : Res}, PcOk E pc → (forkAs yes no as pc).sel E = some r → ∃ pc', PcOk E pc' ∧ ((PcOk E as ∧ (yes pc').sel E = some r) ∨ (no pc').sel E = some r)
  | [], pc, r, hp, h => ⟨pc, hp, .inl ⟨fun p hp => (by cases hp), h⟩⟩
  | (t, b) :: as, pc, r, hp, h => by
    simp only [forkAs] at h
    cases b
    rotate_left
    · obtain ⟨pc1, hp1, h1⟩ := fork_sel hp h
      rcases h1 with ⟨ht, h1⟩ | ⟨ht, h1⟩
      · obtain ⟨pc2, hp2, h2⟩ := forkAs_sel hp1 h1
        exact ⟨pc2, hp2, h2.imp (fun g => ⟨g.1.cons ht, g.2⟩) id⟩
      · exact ⟨pc1, hp1, .inr h1⟩
    · obtain ⟨pc1, hp1, h1⟩ := fork_sel hp h
      rcases h1 with ⟨ht, h1⟩ | ⟨ht, h1⟩
      · exact ⟨pc1, hp1, .inr h1⟩
      · obtain ⟨pc2, hp2, h2⟩ := forkAs_sel hp1 h1
        exact ⟨pc2, hp2, h2.imp (fun g => ⟨g.1.cons ht, g.2⟩) id⟩
def sumQ (ps : List Pa) (as : PC) (mk : List Tm → SV) (els : Sum) : Sum := fun args m pc =>
  match matchP m.mem pc ps args with
  | some ts => forkAs (fun pc => val m pc (mk ts)) (els args m) (substF ts as) pc
  | none => els args m pc
def callQ (P : Program) (ctx : Ctx) (n f : Nat) (ps : List Pa) (pc : PC) : Out Res :=
  call ctx P n f (bldP ps 0 0).svs ⟨(bldP ps 0 0).mem, (bldP ps 0 0).j, 2 ^ 256, 2 ^ 200⟩ (pc ++ (bldP ps 0 0).pc)
def undersF (n : Nat) : PC → Bool
  | [] => true
  | (t, _) :: r => match t.under n with | true => undersF n r | false => false

section
variable {P : Program} {E : Env}
theorem substF_ok {E' : Env} {ts : List Tm} (hv : ∀ (i : Nat) (t : Tm), ts[i]? = some t → E'.v i = t.den E) (hf : E'.fn = E.fn) : ∀ {as : PC}, undersF ts.length as = true → PcOk E (substF ts as) → PcOk E' as
  | [], _, _ => fun p hp => by cases hp
  | (t, b) :: r, hu, h => by
    simp only [undersF] at hu
    split at hu
    · rename_i h1
      intro p hp
      rcases List.mem_cons.1 hp with rfl | hp
      · have := h _ (List.mem_cons_self ..)
        simp only [subst_den hv hf h1] at this
        exact this
      · exact substF_ok hv hf hu (fun q hq => h q (List.mem_cons_of_mem _ hq)) p hp
    · cases hu
/-- A CONTRACT UNDER ASSUMPTIONS, OUT OF THE EXECUTOR'S OWN RECKONING. -/
theorem sumQ_ok {ctx : Ctx} {n f : Nat} {ps : List Pa} {as pcx : PC} {mk : List Tm → SV} {els : Sum} (hC : ∀ E' : Env, E'.fn = E.fn → CtxOk P E' ctx ∧ CtxPc E' ctx)
    (hN : Named P) (hmix : P.follows .mixedOrders = true) (hj : (Nat.ble (bldP ps 0 0).j 1000 && undersF (bldP ps 0 0).n as) = true)
    (hx : ∀ E' : Env, E'.fn = E.fn → PcOk E' as → PcOk E' pcx)
    (hk : ∀ (E' : Env) (ts : List Tm), E'.fn = E.fn → PcOk E' (pcx ++ (bldP ps 0 0).pc) → (bldP ps 0 0).n = ts.length → (∀ (i : Nat) (t : Tm), ts[i]? = some t → E'.v i = t.den E) →
      ∃ r, (callQ P ctx n f ps pcx).sel E' = some r ∧ ∀ β' β v, SV.rep E' β' r.v v → SV.rep E β (mk ts) v)
    (hels : SumOk P E f els) : SumOk P E f (sumQ ps as mk els) := by
  simp only [Bool.and_eq_true] at hj
  intro args m pc r hr β w vals hreps hm hf hl hp
  unfold sumQ at hr
  split at hr
  · rename_i ts hts
    obtain ⟨pc1, hp1, hc⟩ := forkAs_sel hp hr
    rcases hc with ⟨has, hr⟩ | hr
    · simp only [val, Out.sel, Option.some.injEq] at hr
      subst hr
      obtain ⟨e1, bss, e2, hall⟩ := matchP_ok P hp hm (n := 0) (j := 0) hts hreps
      rw [Nat.zero_add] at e1 e2
      let E' : Env := ⟨fun i => (ts[i]?.map (Tm.den E)).getD .nil, E.fn⟩
      let β' : Pl := fun i => bss[i]?
      have hE : ∀ (i : Nat) (t : Tm), ts[i]? = some t → E'.v i = t.den E := fun i t hi => by simp [E', hi]
      obtain ⟨g1, g2, g3⟩ := hall E' β' (fun i t hi => by rw [Nat.zero_add]; exact hE i t hi) (fun i x hi => by rw [Nat.zero_add]; exact hi)
      have hpx : PcOk E' (pcx ++ (bldP ps 0 0).pc) := fun p hp => by
        rcases List.mem_append.1 hp with hp | hp
        · exact hx E' rfl (substF_ok hE rfl (by rw [← e1]; exact hj.2) has) p hp
        · exact g3 p hp
      obtain ⟨r0, hr0, e3⟩ := hk E' ts rfl hpx e1 hE
      unfold callQ at hr0
      obtain ⟨_, _, hfn, hcalls⟩ := call_ok (hC E' rfl).1 (hC E' rfl).2 hN hmix n f (bldP ps 0 0).svs ⟨(bldP ps 0 0).mem, (bldP ps 0 0).j, 2 ^ 256, 2 ^ 200⟩ (pcx ++ (bldP ps 0 0).pc) r0 hr0 β' w vals g1 g2
        (fun i hi _ => by simp only [β']; exact List.getElem?_eq_none (by simp only at hi; omega)) (Nat.le_trans (Nat.le_of_ble_eq_true hj.1) (show 1000 ≤ 2 ^ 256 by decide)) hpx
      refine ⟨hp1, hl, hfn, hcalls.mono fun e w' ⟨v, β'', he, hv', hst⟩ => ?_⟩
      exact ⟨v, β, he, e3 β'' β v hv', Step.same _ hst.below⟩
    · exact hels args m pc1 r hr β w vals hreps hm hf hl hp1
  · exact hels args m pc r hr β w vals hreps hm hf hl hp
theorem sumQ_pc {ps : List Pa} {as : PC} {mk : List Tm → SV} {els : Sum} (hels : ∀ args m pc, PcOk E pc → Pcs E Res.pc (els args m pc)) (args : List SV) (m : Mm) (pc : PC) (hp : PcOk E pc) : Pcs E Res.pc (sumQ ps as mk els args m pc) := by
  unfold sumQ
  split
  · intro r hr
    obtain ⟨pc1, hp1, hc⟩ := forkAs_sel hp hr
    rcases hc with ⟨_, hr⟩ | hr
    · simp only [val, Out.sel, Option.some.injEq] at hr
      subst hr
      exact hp1
    · exact hels args m pc1 hp1 r hr
  · exact hels args m pc hp
/-- The contract: several results, each a part of the named function's value. -/
def sumR (ps : List Pa) (as : PC) (rp : Rp) (N id : Nat) (els : Sum) : Sum := sumQ ps as (fun ts => mkR rp (nths (.app id (listT ts)) N 0)) els
def treeIs (rp : Rp) (o : Out Res) (D : Tm) : Bool :=
  match treeT rp o with
  | some T => T.beq D
  | none => false
/-- The number of a result's cells. -/
def sizeR : List (Bool × List SK) → Nat
  | [] => 0
  | p :: r => p.2.length + sizeR r
theorem unR_length {rp : Rp} {v : SV} {ts : List Tm} (h : unR rp v = some ts) : ts.length = sizeR rp.2 := by
  have one : ∀ {ks : List SK} {cs : List SV} {ts : List Tm}, matchKs ks cs = some ts → ts.length = ks.length := by
    intro ks
    induction ks with
    | nil => intro cs ts h; cases cs <;> simp [matchKs] at h; subst h; rfl
    | cons k ks ih =>
      intro cs ts h
      cases cs with
      | nil => simp [matchKs] at h
      | cons s cs =>
        simp only [matchKs] at h
        split at h
        · split at h
          · rename_i hm
            cases h
            simp [ih hm]
          · cases h
        · cases h
  have all : ∀ {ps : List (Bool × List SK)} {ss : List SV} {ts : List Tm}, cellsRs ps ss = some ts → ts.length = sizeR ps := by
    intro ps
    induction ps with
    | nil => intro ss ts h; cases ss <;> simp [cellsRs] at h; subst h; rfl
    | cons p ps ih =>
      intro ss ts h
      cases ss with
      | nil => simp [cellsRs] at h
      | cons s ss =>
        simp only [cellsRs] at h
        split at h
        · rename_i a b ha hb
          cases h
          have : a.length = p.2.length := by
            unfold cellsR at ha
            split at ha
            · exact one ha
            · exact one ha
            · cases ha
          simp [sizeR, this, ih hb]
        · cases h
  unfold unR at h
  split at h
  · split at h
    · exact all h
    · cases h
  · exact all h
theorem sumR_ok {ctx : Ctx} {n f N id : Nat} {ps : List Pa} {as pcx : PC} {rp : Rp} {D : Tm} {els : Sum} (hC : ∀ E' : Env, E'.fn = E.fn → CtxOk P E' ctx ∧ CtxPc E' ctx)
    (hN : Named P) (hmix : P.follows .mixedOrders = true) (hD : ∀ c, E.fn id c = D.den ⟨fun i => c.at_ i, E.fn⟩)
    (hj : (Nat.ble (bldP ps 0 0).j 1000 && undersF (bldP ps 0 0).n as) = true) (hu : (D.under (bldP ps 0 0).n && Nat.beq N (sizeR rp.2)) = true)
    (hx : ∀ E' : Env, E'.fn = E.fn → PcOk E' as → PcOk E' pcx) (hk : treeIs rp (callQ P ctx n f ps pcx) D = true) (hels : SumOk P E f els) : SumOk P E f (sumR ps as rp N id els) := by
  simp only [Bool.and_eq_true] at hu
  refine sumQ_ok (n := n) hC hN hmix hj hx (fun E' ts hfn hp hn hE => ?_) hels
  unfold treeIs at hk
  split at hk
  · rename_i T hT
    have e := Tm.beq_eq hk
    subst e
    obtain ⟨r, cs, h1, h2, h3⟩ := treeT_sel (E := E') hT
    refine ⟨r, h1, fun β' β v hv => ?_⟩
    have hlen := unR_length h2
    have hN' : N = sizeR rp.2 := Nat.eq_of_beq_eq_true hu.2
    refine unR_rep h2 hv ⟨by rw [nths_length]; omega, fun i t u g1 g2 => ?_⟩
    have eu := nths_get g2
    rw [Nat.zero_add] at eu
    subst eu
    simp only [Tm.den]
    rw [hD]
    have e2 : T.den E' = T.den ⟨fun i => ((listT ts).den E).at_ i, E.fn⟩ := under_den (E' := ⟨fun i => ((listT ts).den E).at_ i, E.fn⟩) (n := (bldP ps 0 0).n) (fun i hi => by
      rw [hn] at hi
      have ht : ts[i]? = some ts[i] := List.getElem?_eq_getElem hi
      rw [hE i _ ht]
      exact (listT_at ht).symm) hfn hu.1
    rw [← e2, h3]
    exact listT_at g1
  · cases hk
end
/-! Another way where a contract doesn't fit -/
def orS (S els : Sum) : Sum := fun args m pc =>
  match S args m pc with
  | .bad _ => els args m pc
  | o => o
section
variable {P : Program} {E : Env}
theorem orS_ok {f : Nat} {S els : Sum} (h : SumOk P E f S) (k : SumOk P E f els) : SumOk P E f (orS S els) := by
  intro args m pc r hr
  unfold orS at hr
  split at hr
  · exact k args m pc r hr
  · exact h args m pc r hr
theorem orS_pc {S els : Sum} (h : ∀ args m pc, PcOk E pc → Pcs E Res.pc (S args m pc)) (k : ∀ args m pc, PcOk E pc → Pcs E Res.pc (els args m pc)) (args : List SV) (m : Mm) (pc : PC) (hp : PcOk E pc) : Pcs E Res.pc (orS S els args m pc) := by
  unfold orS
  split
  · exact k args m pc hp
  · exact h args m pc hp
/-- Each contract of a list, with the executor's own reckoning where it doesn't fit. -/
def orL (ctx0 : Ctx) (P : Program) (n : Nat) : List (Nat × Sum) → List (Nat × Sum)
  | [] => []
  | (f, S) :: r => (f, orS S (call ctx0 P n f)) :: orL ctx0 P n r
theorem orL_sum {ctx0 : Ctx} {n : Nat} : ∀ {l : List (Nat × Sum)} {f : Nat} {S : Sum}, sumL (orL ctx0 P n l) f = some S → ∃ S0, sumL l f = some S0 ∧ S = orS S0 (call ctx0 P n f)
  | [], f, S, h => by cases h
  | (g, S1) :: r, f, S, h => by
    simp only [orL, sumL] at h ⊢
    split at h
    · rename_i hg
      cases h
      rw [Nat.eq_of_beq_eq_true hg]
      exact ⟨S1, rfl, rfl⟩
    · exact orL_sum h
theorem orL_ok {ctx0 : Ctx} {n : Nat} {l : List (Nat × Sum)} (hN : Named P) (hmix : P.follows .mixedOrders = true) (h : CtxOk P E (ctxL l) ∧ CtxPc E (ctxL l)) (h0 : CtxOk P E ctx0 ∧ CtxPc E ctx0) :
    CtxOk P E (ctxL (orL ctx0 P n l)) ∧ CtxPc E (ctxL (orL ctx0 P n l)) := by
  refine ⟨⟨fun f S hf => ?_, fun c L h => (by cases h), fun f as σ o h => (by cases h)⟩, ⟨fun f S hf => ?_, fun c L h => (by cases h), fun f as σ o h => (by cases h)⟩⟩
  · obtain ⟨S0, e1, rfl⟩ := orL_sum hf
    exact orS_ok (h.1.sum f S0 e1) (call_ok h0.1 h0.2 hN hmix n f)
  · obtain ⟨S0, e1, rfl⟩ := orL_sum hf
    exact orS_pc (h.2.sum f S0 e1) (call_pc h0.2 n f)
end
end Go.Sx
set_option linter.unusedVariables false
set_option linter.unusedSimpArgs false
noncomputable section
namespace Go.Sx
open Go Go.RowKit

def reT (t : Tm) : Tm :=
  match t with
  | .op o x y => mkOp o x y
  | t => t
theorem reT_den {E : Env} (t : Tm) : (reT t).den E = t.den E := by
  unfold reT
  split
  · rw [mkOp_den]; rfl
  · rfl
/-- A choice of which the test is known. -/
def liteT (pc : PC) (t : Tm) : Tm :=
  match t with
  | .ite c a b => match decB pc c with
    | some true => reT a
    | some false => reT b
    | none => .ite c a b
  | t => t
theorem liteT_den {E : Env} {pc : PC} (hp : PcOk E pc) (t : Tm) : (liteT pc t).den E = t.den E := by
  unfold liteT
  split
  · rename_i c a b
    split
    · rename_i h; have := decB_ok hp c h; simp [Tm.den, this, reT_den]
    · rename_i h; have := decB_ok hp c h; simp [Tm.den, this, reT_den]
    · rfl
  · rfl
def liteR (r : Res) : Res :=
  match r.v with
  | .sc k t => { r with v := .sc k (liteT r.pc t) }
  | _ => r
/-- The same contract, its answer made simpler by what is known. -/
def liteS (S : Sum) : Sum := fun args m pc => (S args m pc).bind fun r => .ret (liteR r)
section
variable {P : Program} {E : Env}
theorem liteS_ok {f : Nat} {S : Sum} (h : SumOk P E f S) : SumOk P E f (liteS S) := by
  intro args m pc r hr β w vals hreps hm hf hl hp
  unfold liteS at hr
  obtain ⟨r0, h0, hr⟩ := Out.sel_bind_some hr
  simp only [Out.sel, Option.some.injEq] at hr
  subst hr
  obtain ⟨h1, h2, h3, h4⟩ := h args m pc r0 h0 β w vals hreps hm hf hl hp
  unfold liteR
  split
  · rename_i k t hv
    refine ⟨h1, h2, h3, h4.mono fun e w' ⟨v, β', he, hrep, hst⟩ => ⟨v, β', he, ?_, hst⟩⟩
    rw [hv] at hrep
    simp only [SV.rep] at hrep ⊢
    rw [liteT_den h1]; exact hrep
  · exact ⟨h1, h2, h3, h4⟩
theorem liteS_pc {S : Sum} (h : ∀ args m pc, PcOk E pc → Pcs E Res.pc (S args m pc)) (args : List SV) (m : Mm) (pc : PC) (hp : PcOk E pc) : Pcs E Res.pc (liteS S args m pc) := by
  unfold liteS
  refine .bind (h args m pc hp) (fun r hr => .ret ?_)
  unfold liteR
  split <;> exact hr
end

def liteL : List (Nat × Sum) → List (Nat × Sum)
  | [] => []
  | (f, S) :: r => (f, liteS S) :: liteL r
section
variable {P : Program} {E : Env}
theorem liteL_sum : ∀ {l : List (Nat × Sum)} {f : Nat} {S : Sum}, sumL (liteL l) f = some S → ∃ S0, sumL l f = some S0 ∧ S = liteS S0
  | [], f, S, h => by cases h
  | (g, S1) :: r, f, S, h => by
    simp only [liteL, sumL] at h ⊢
    split at h
    · rename_i hg
      cases h
      exact ⟨S1, rfl, rfl⟩
    · exact liteL_sum h
theorem liteL_ok {l : List (Nat × Sum)} (h : CtxOk P E (ctxL l) ∧ CtxPc E (ctxL l)) : CtxOk P E (ctxL (liteL l)) ∧ CtxPc E (ctxL (liteL l)) := by
  refine ⟨⟨fun f S hf => ?_, fun c L h => (by cases h), fun f as σ o h => (by cases h)⟩, ⟨fun f S hf => ?_, fun c L h => (by cases h), fun f as σ o h => (by cases h)⟩⟩
  · obtain ⟨S0, e1, rfl⟩ := liteL_sum hf
    exact liteS_ok (h.1.sum f S0 e1)
  · obtain ⟨S0, e1, rfl⟩ := liteL_sum hf
    exact liteS_pc (h.2.sum f S0 e1)
end
/-! Two trees that give the same -/
/-- The second tree gives this value wherever what is known allows. -/
def agreeR (same : SV → Bool) : Nat → PC → Out Res → Bool
  | 0, _, _ => false
  | _ + 1, _, .ret r => same r.v
  | _ + 1, _, .bad _ => false
  | n + 1, pc, .br c x y => match decT pc c with
    | some true => agreeR same n pc x
    | some false => agreeR same n pc y
    | none => match agreeR same n (addF pc c true) x with
      | true => agreeR same n (addF pc c false) y
      | false => false
def agree : Nat → PC → Out Res → Out Res → Bool
  | 0, _, _, _ => false
  | n + 1, pc, .ret r, o => agreeR (SV.beq r.v) (n + 1) pc o
  | _ + 1, _, .bad _, _ => false
  | n + 1, pc, .br c x y, o => match decT pc c with
    | some true => agree n pc x o
    | some false => agree n pc y o
    | none => match agree n (addF pc c true) x o with
      | true => agree n (addF pc c false) y o
      | false => false
theorem agreeR_ok {E : Env} {v : SV} : ∀ {n : Nat} {pc : PC} {o : Out Res}, PcOk E pc → agreeR (SV.beq v) n pc o = true → ∃ r, o.sel E = some r ∧ r.v = v
  | 0, _, _, _, h => by cases h
  | n + 1, pc, .ret r, hp, h => ⟨r, rfl, (SV.beq_eq v r.v h).symm⟩
  | n + 1, pc, .bad _, hp, h => by cases h
  | n + 1, pc, .br c x y, hp, h => by
    simp only [agreeR] at h
    split at h
    · rename_i hd
      have hc := decT_ok hp hd
      obtain ⟨r, h1, h2⟩ := agreeR_ok hp h
      exact ⟨r, by simp [Out.sel, hc, h1], h2⟩
    · rename_i hd
      have hc := decT_ok hp hd
      obtain ⟨r, h1, h2⟩ := agreeR_ok hp h
      exact ⟨r, by simp [Out.sel, hc, h1], h2⟩
    · split at h
      · rename_i hx
        cases hc : (c.den E).toB with
        | true =>
          obtain ⟨r, h1, h2⟩ := agreeR_ok (addF_ok c hp hc) hx
          exact ⟨r, by simp [Out.sel, hc, h1], h2⟩
        | false =>
          obtain ⟨r, h1, h2⟩ := agreeR_ok (addF_ok c hp hc) h
          exact ⟨r, by simp [Out.sel, hc, h1], h2⟩
      · cases h
theorem agree_ok {E : Env} : ∀ {n : Nat} {pc : PC} {o o' : Out Res} {r : Res}, PcOk E pc → agree n pc o o' = true → o.sel E = some r → ∃ r', o'.sel E = some r' ∧ r'.v = r.v
  | 0, _, _, _, _, _, h, _ => by cases h
  | n + 1, pc, .ret r0, o', r, hp, h, hs => by
    simp only [Out.sel, Option.some.injEq] at hs
    subst hs
    exact agreeR_ok hp h
  | n + 1, pc, .bad _, o', r, hp, h, hs => by cases h
  | n + 1, pc, .br c x y, o', r, hp, h, hs => by
    simp only [agree] at h
    simp only [Out.sel] at hs
    split at h
    · rename_i hd
      have hc := decT_ok hp hd
      rw [hc] at hs
      exact agree_ok hp h (by simpa using hs)
    · rename_i hd
      have hc := decT_ok hp hd
      rw [hc] at hs
      exact agree_ok hp h (by simpa using hs)
    · split at h
      · rename_i hx
        cases hc : (c.den E).toB with
        | true =>
          rw [hc] at hs
          exact agree_ok (addF_ok c hp hc) hx (by simpa using hs)
        | false =>
          rw [hc] at hs
          exact agree_ok (addF_ok c hp hc) h (by simpa using hs)
      · cases h

section
variable {P : Program} {E : Env}
/-- A contract under assumptions; what is shown of the executor's answer may lean on them. -/
theorem sumW_ok {ctx : Ctx} {n f : Nat} {ps : List Pa} {as pcx : PC} {mk : List Tm → SV} {els : Sum} (hC : ∀ E' : Env, E'.fn = E.fn → CtxOk P E' ctx ∧ CtxPc E' ctx)
    (hN : Named P) (hmix : P.follows .mixedOrders = true) (hj : (Nat.ble (bldP ps 0 0).j 1000 && undersF (bldP ps 0 0).n as) = true)
    (hx : ∀ E' : Env, E'.fn = E.fn → PcOk E' as → PcOk E' pcx)
    (hk : ∀ (E' : Env) (ts : List Tm), E'.fn = E.fn → PcOk E' as → PcOk E' (pcx ++ (bldP ps 0 0).pc) → (bldP ps 0 0).n = ts.length → (∀ (i : Nat) (t : Tm), ts[i]? = some t → E'.v i = t.den E) →
      ∃ r, (callQ P ctx n f ps pcx).sel E' = some r ∧ ∀ β' β v, SV.rep E' β' r.v v → SV.rep E β (mk ts) v)
    (hels : SumOk P E f els) : SumOk P E f (sumQ ps as mk els) := by
  simp only [Bool.and_eq_true] at hj
  intro args m pc r hr β w vals hreps hm hf hl hp
  unfold sumQ at hr
  split at hr
  · rename_i ts hts
    obtain ⟨pc1, hp1, hc⟩ := forkAs_sel hp hr
    rcases hc with ⟨has, hr⟩ | hr
    · simp only [val, Out.sel, Option.some.injEq] at hr
      subst hr
      obtain ⟨e1, bss, e2, hall⟩ := matchP_ok P hp hm (n := 0) (j := 0) hts hreps
      rw [Nat.zero_add] at e1 e2
      let E' : Env := ⟨fun i => (ts[i]?.map (Tm.den E)).getD .nil, E.fn⟩
      let β' : Pl := fun i => bss[i]?
      have hE : ∀ (i : Nat) (t : Tm), ts[i]? = some t → E'.v i = t.den E := fun i t hi => by simp [E', hi]
      obtain ⟨g1, g2, g3⟩ := hall E' β' (fun i t hi => by rw [Nat.zero_add]; exact hE i t hi) (fun i x hi => by rw [Nat.zero_add]; exact hi)
      have hasE : PcOk E' as := substF_ok hE rfl (by rw [← e1]; exact hj.2) has
      have hpx : PcOk E' (pcx ++ (bldP ps 0 0).pc) := fun p hp => by
        rcases List.mem_append.1 hp with hp | hp
        · exact hx E' rfl hasE p hp
        · exact g3 p hp
      obtain ⟨r0, hr0, e3⟩ := hk E' ts rfl hasE hpx e1 hE
      unfold callQ at hr0
      obtain ⟨_, _, hfn, hcalls⟩ := call_ok (hC E' rfl).1 (hC E' rfl).2 hN hmix n f (bldP ps 0 0).svs ⟨(bldP ps 0 0).mem, (bldP ps 0 0).j, 2 ^ 256, 2 ^ 200⟩ (pcx ++ (bldP ps 0 0).pc) r0 hr0 β' w vals g1 g2
        (fun i hi _ => by simp only [β']; exact List.getElem?_eq_none (by simp only at hi; omega)) (Nat.le_trans (Nat.le_of_ble_eq_true hj.1) (show 1000 ≤ 2 ^ 256 by decide)) hpx
      refine ⟨hp1, hl, hfn, hcalls.mono fun e w' ⟨v, β'', he, hv', hst⟩ => ?_⟩
      exact ⟨v, β, he, e3 β'' β v hv', Step.same _ hst.below⟩
    · exact hels args m pc1 r hr β w vals hreps hm hf hl hp1
  · exact hels args m pc r hr β w vals hreps hm hf hl hp
/-- A contract with several results, the executor's term being turned into the name's own, part by part. -/
theorem sumR3_ok {ctx : Ctx} {n f N id : Nat} {ps : List Pa} {as pcx : PC} {rp : Rp} {D T : Tm} {els : Sum} (hC : ∀ E' : Env, E'.fn = E.fn → CtxOk P E' ctx ∧ CtxPc E' ctx)
    (hN : Named P) (hmix : P.follows .mixedOrders = true) (hD : ∀ c, E.fn id c = D.den ⟨fun i => c.at_ i, E.fn⟩)
    (hj : (Nat.ble (bldP ps 0 0).j 1000 && undersF (bldP ps 0 0).n as) = true) (hu : (D.under (bldP ps 0 0).n && Nat.beq N (sizeR rp.2)) = true)
    (hx : ∀ E' : Env, E'.fn = E.fn → PcOk E' as → PcOk E' pcx) (hT : ∀ E' : Env, E'.fn = E.fn → PcOk E' as → ∀ i, i < N → (T.den E').at_ i = (D.den E').at_ i)
    (hk : treeIs rp (callQ P ctx n f ps pcx) T = true) (hels : SumOk P E f els) : SumOk P E f (sumR ps as rp N id els) := by
  simp only [Bool.and_eq_true] at hu
  refine sumW_ok (n := n) hC hN hmix hj hx (fun E' ts hfn has hp hn hE => ?_) hels
  unfold treeIs at hk
  split at hk
  · rename_i T' hT'
    have e := Tm.beq_eq hk
    subst e
    obtain ⟨r, cs, h1, h2, h3⟩ := treeT_sel (E := E') hT'
    refine ⟨r, h1, fun β' β v hv => ?_⟩
    have hlen := unR_length h2
    have hN' : N = sizeR rp.2 := Nat.eq_of_beq_eq_true hu.2
    refine unR_rep h2 hv ⟨by rw [nths_length]; omega, fun i t u g1 g2 => ?_⟩
    have hiN : i < N := by have := (List.getElem?_eq_some_iff.1 g2).1; rw [nths_length] at this; exact this
    have eu := nths_get g2
    rw [Nat.zero_add] at eu
    subst eu
    simp only [Tm.den]
    rw [hD]
    have e2 : D.den E' = D.den ⟨fun i => ((listT ts).den E).at_ i, E.fn⟩ := under_den (E' := ⟨fun i => ((listT ts).den E).at_ i, E.fn⟩) (n := (bldP ps 0 0).n) (fun i hi => by
      rw [hn] at hi
      have ht : ts[i]? = some ts[i] := List.getElem?_eq_getElem hi
      rw [hE i _ ht]
      exact (listT_at ht).symm) hfn hu.1
    rw [← e2, ← hT E' hfn has i hiN, h3]
    exact listT_at g1
  · cases hk
theorem sumR2_ok {ctx : Ctx} {n f N id : Nat} {ps : List Pa} {as pcx : PC} {rp : Rp} {D T : Tm} {els : Sum} (hC : ∀ E' : Env, E'.fn = E.fn → CtxOk P E' ctx ∧ CtxPc E' ctx)
    (hN : Named P) (hmix : P.follows .mixedOrders = true) (hD : ∀ c, E.fn id c = D.den ⟨fun i => c.at_ i, E.fn⟩)
    (hj : (Nat.ble (bldP ps 0 0).j 1000 && undersF (bldP ps 0 0).n as) = true) (hu : (D.under (bldP ps 0 0).n && Nat.beq N (sizeR rp.2)) = true)
    (hx : ∀ E' : Env, E'.fn = E.fn → PcOk E' as → PcOk E' pcx) (hT : ∀ E' : Env, E'.fn = E.fn → PcOk E' as → T.den E' = D.den E')
    (hk : treeIs rp (callQ P ctx n f ps pcx) T = true) (hels : SumOk P E f els) : SumOk P E f (sumR ps as rp N id els) :=
  sumR3_ok hC hN hmix hD hj hu hx (fun E' h1 h2 i _ => by rw [hT E' h1 h2]) hk hels
/-- A contract with several results, each given as a term of the arguments. -/
theorem sumV_ok {ctx : Ctx} {n f N : Nat} {ps : List Pa} {as pcx : PC} {rp : Rp} {T : Tm} {us : List Tm → List Tm} {els : Sum} (hC : ∀ E' : Env, E'.fn = E.fn → CtxOk P E' ctx ∧ CtxPc E' ctx)
    (hN : Named P) (hmix : P.follows .mixedOrders = true)
    (hj : (Nat.ble (bldP ps 0 0).j 1000 && undersF (bldP ps 0 0).n as) = true) (hu : Nat.beq N (sizeR rp.2) = true)
    (hx : ∀ E' : Env, E'.fn = E.fn → PcOk E' as → PcOk E' pcx)
    (hV : ∀ (E' : Env) (ts : List Tm), E'.fn = E.fn → PcOk E' as → (bldP ps 0 0).n = ts.length → (∀ (i : Nat) (t : Tm), ts[i]? = some t → E'.v i = t.den E) → (us ts).length = N ∧ ∀ (i : Nat) (u : Tm), (us ts)[i]? = some u → u.den E = (T.den E').at_ i)
    (hk : treeIs rp (callQ P ctx n f ps pcx) T = true) (hels : SumOk P E f els) : SumOk P E f (sumQ ps as (fun ts => mkR rp (us ts)) els) := by
  refine sumW_ok (n := n) hC hN hmix hj hx (fun E' ts hfn has hp hn hE => ?_) hels
  unfold treeIs at hk
  split at hk
  · rename_i T' hT'
    have e := Tm.beq_eq hk
    subst e
    obtain ⟨r, cs, h1, h2, h3⟩ := treeT_sel (E := E') hT'
    obtain ⟨v1, v2⟩ := hV E' ts hfn has hn hE
    refine ⟨r, h1, fun β' β v hv => ?_⟩
    have hlen := unR_length h2
    have hN' : N = sizeR rp.2 := Nat.eq_of_beq_eq_true hu
    refine unR_rep h2 hv ⟨by omega, fun i t u g1 g2 => ?_⟩
    rw [v2 i u g2, h3]
    exact listT_at g1
  · cases hk
end
end Go.Sx
set_option linter.unusedVariables false
set_option linter.unusedSimpArgs false
noncomputable section
namespace Go.Sx
open Go Go.RowKit
/-- Are two whole numbers equal? The choices pushed out. -/
def eqI2 (b : Tm) : Tm → Tm
  | .ite c x y => mkIteB c (eqI2 b x) (eqI2 b y)
  | a => cmpI .eqi true a b
theorem eqI2_den {E : Env} (b : Tm) : ∀ a : Tm, ((eqI2 b a).den E).toB = decide ((a.den E).toI = (b.den E).toI)
  | .ite c x y => by
    simp only [eqI2, mkIteB_den, eqI2_den b x, eqI2_den b y, Tm.den]
    split <;> rfl
  | .var _ | .bl _ | .il _ | .fl _ | .sl _ | .nil | .cons _ _ | .op _ _ _ | .app _ _ | .nth _ _ => by
    simp only [eqI2]
    rw [cmpI_den _ _ _ _ eqi_self]
    rfl
/-- A test, known or proved, however long that takes. -/
def decL (pc : PC) (t : Tm) : Option Bool :=
  match decB pc t with
  | some b => some b
  | none => match prove true 300 pc t with
    | true => some true
    | false => match prove false 300 pc t with
      | true => some false
      | false => none
theorem decL_ok {E : Env} {pc : PC} (hp : PcOk E pc) {t : Tm} {b : Bool} (h : decL pc t = some b) : (t.den E).toB = b := by
  unfold decL at h
  split at h
  · rename_i b' hb; cases h; exact decB_ok hp t hb
  · split at h
    · rename_i h1; cases h; exact prove_ok 300 hp h1
    · split at h
      · rename_i h1; cases h; exact prove_ok 300 hp h1
      · cases h
def isIntK : SK → Bool
  | .int _ => true
  | _ => false
def wideK : IntKind → Bool
  | .i16 => true | .i32 => true | .i64 => true
  | _ => false
/-- Quotients of the same small numbers, of whatever kind. -/
def quoSame (pc : PC) (t u : Tm) : Bool :=
  match t, u with
  | .op (.quoi k) a b, .op (.quoi k') a' b' => match a.beq a', b.beq b', wideK k, wideK k' with
    | true, true, true, true => match prove true 300 pc (.op .lei (.il 0) a) with
      | true => prove true 300 pc (.op .lei a (.il 1000))
      | false => false
    | _, _, _, _ => false
  | _, _ => false
theorem quo_small {k : IntKind} (hk : wideK k = true) {a b : Int} (h0 : 0 ≤ a) (h1 : a ≤ 1000) : k.wrap (a.tdiv b) = a.tdiv b := by
  have h2 : (a.tdiv b).natAbs ≤ 1000 := by
    rw [Int.natAbs_tdiv]
    exact Nat.le_trans (Nat.div_le_self _ _) (by omega)
  refine wrap_in k ?_ ?_ <;> (unfold wideK at hk; split at hk <;> first | (simp [IntKind.min, IntKind.max, IntKind.bits, IntKind.signed]; omega) | cases hk)
theorem quoSame_ok {E : Env} {pc : PC} (hp : PcOk E pc) {t u : Tm} (h : quoSame pc t u = true) : (t.den E).toI = (u.den E).toI := by
  unfold quoSame at h
  split at h
  · split at h
    · rename_i h1 h2 h3 h4
      split at h
      · rename_i h5
        have e1 := Tm.beq_eq h1
        have e2 := Tm.beq_eq h2
        subst e1; subst e2
        have b1 := of_decide_eq_true (prove_ok 300 hp h5)
        have b2 := of_decide_eq_true (prove_ok 300 hp h)
        exact (quo_small h3 b1 b2).trans (quo_small h4 b1 b2).symm
      · cases h
    · cases h
  · cases h
/-- One cell of a result like the other one's. -/
def sameC (pc : PC) (k : SK) (t u : Tm) : Bool :=
  match t.beq u with
  | true => true
  | false => match isIntK k with
    | true => match quoSame pc t u with
      | true => true
      | false => prove true 300 pc (eqI2 u t)
    | false => false
def sameCs (pc : PC) : List SK → List Tm → List Tm → Bool
  | [], [], [] => true
  | k :: ks, t :: ts, u :: us => match sameC pc k t u with
    | true => sameCs pc ks ts us
    | false => false
  | _, _, _ => false
/-- What one cell stands for the other one stands for, too. -/
def RelK (E E' : Env) (k : SK) (t u : Tm) : Prop := ∀ v, k.rep (t.den E) v → k.rep (u.den E') v
def RelL (E E' : Env) : List SK → List Tm → List Tm → Prop
  | [], [], [] => True
  | k :: ks, t :: ts, u :: us => RelK E E' k t u ∧ RelL E E' ks ts us
  | _, _, _ => False
theorem sameC_ok {E : Env} {pc : PC} (hp : PcOk E pc) {k : SK} {t u : Tm} (h : sameC pc k t u = true) : RelK E E k t u := by
  intro v hv
  unfold sameC at h
  split at h
  · rename_i hb; rw [← Tm.beq_eq hb]; exact hv
  · split at h
    · rename_i hk
      have e : (t.den E).toI = (u.den E).toI := by
        split at h
        · rename_i hq; exact quoSame_ok hp hq
        · have := prove_ok 300 hp h
          rw [eqI2_den] at this
          exact of_decide_eq_true this
      unfold isIntK at hk
      split at hk
      · simp only [SK.rep] at hv ⊢
        rw [← e]; exact hv
      · cases hk
    · cases h
theorem sameCs_ok {E : Env} {pc : PC} (hp : PcOk E pc) : ∀ {ks : List SK} {ts us : List Tm}, sameCs pc ks ts us = true → RelL E E ks ts us
  | [], [], [], _ => trivial
  | k :: ks, t :: ts, u :: us, h => by
    simp only [sameCs] at h
    split at h
    · rename_i h1; exact ⟨sameC_ok hp h1, sameCs_ok hp h⟩
    · cases h
  | [], [], _ :: _, h => by cases h
  | [], _ :: _, _, h => by cases h
  | _ :: _, [], _, h => by cases h
  | _ :: _, _ :: _, [], h => by cases h
def kindsR : List (Bool × List SK) → List SK
  | [] => []
  | p :: r => p.2 ++ kindsR r
def eqbT (a b : Tm) : Tm := mkIteB a b (mkNot b)
theorem eqbT_den {E : Env} (a b : Tm) : ((eqbT a b).den E).toB = ((a.den E).toB == (b.den E).toB) := by
  unfold eqbT
  rw [mkIteB_den, mkNot_den]
  cases (a.den E).toB <;> cases (b.den E).toB <;> rfl
/-- A test that is one of those asked before. -/
def decM (pc : PC) (c : Tm) : PC → Option Bool
  | [] => none
  | (t, b) :: r => match prove true 300 pc (eqbT t c) with
    | true => some b
    | false => decM pc c r
theorem decM_ok {E : Env} {pc : PC} (hp : PcOk E pc) {c : Tm} : ∀ {l : PC} {b : Bool}, PcOk E l → decM pc c l = some b → (c.den E).toB = b
  | [], _, _, h => by cases h
  | (t, b') :: r, b, hl, h => by
    simp only [decM] at h
    split at h
    · rename_i h1
      cases h
      have := prove_ok 300 hp h1
      rw [eqbT_den] at this
      have h2 := hl _ (List.mem_cons_self ..)
      simp only at h2
      rw [h2] at this
      exact (eq_of_beq this).symm
    · exact decM_ok hp (fun p hm => hl p (List.mem_cons_of_mem _ hm)) h
def decA (pc0 cs pc : PC) (c : Tm) : Option Bool :=
  match decL pc c with
  | some b => some b
  | none => decM pc0 c cs
theorem decA_ok {E : Env} {pc0 cs pc : PC} (hp0 : PcOk E pc0) (hc : PcOk E cs) (hp : PcOk E pc) {c : Tm} {b : Bool} (h : decA pc0 cs pc c = some b) : (c.den E).toB = b := by
  unfold decA at h
  split at h
  · rename_i b' hb; cases h; exact decL_ok hp hb
  · exact decM_ok hp0 hc h
def agreeRH (rp : Rp) (pc0 cs : PC) (ts : List Tm) : Nat → PC → Out Res → Bool
  | 0, _, _ => false
  | _ + 1, pc, .ret r => match unR rp r.v with
    | some us => sameCs pc (kindsR rp.2) us ts
    | none => false
  | _ + 1, _, .bad _ => false
  | n + 1, pc, .br c x y => match decA pc0 cs pc c with
    | some true => agreeRH rp pc0 cs ts n pc x
    | some false => agreeRH rp pc0 cs ts n pc y
    | none => match agreeRH rp pc0 cs ts n (addF pc c true) x with
      | true => agreeRH rp pc0 cs ts n (addF pc c false) y
      | false => false
def agreeH (rp : Rp) (pc0 : PC) : Nat → PC → PC → Out Res → Out Res → Bool
  | 0, _, _, _, _ => false
  | n + 1, cs, pc, .ret r, o => match unR rp r.v with
    | some ts => agreeRH rp pc0 cs ts (n + 1) pc o
    | none => false
  | _ + 1, _, _, .bad _, _ => false
  | n + 1, cs, pc, .br c x y, o => match decL pc c with
    | some true => agreeH rp pc0 n cs pc x o
    | some false => agreeH rp pc0 n cs pc y o
    | none => match agreeH rp pc0 n ((c, true) :: cs) (addF pc c true) x o with
      | true => agreeH rp pc0 n ((c, false) :: cs) (addF pc c false) y o
      | false => false
theorem agreeRH_ok {E : Env} {rp : Rp} {pc0 cs : PC} {ts : List Tm} (hp0 : PcOk E pc0) (hcs : PcOk E cs) : ∀ {n : Nat} {pc : PC} {o : Out Res}, PcOk E pc → agreeRH rp pc0 cs ts n pc o = true → ∃ r us, o.sel E = some r ∧ unR rp r.v = some us ∧ RelL E E (kindsR rp.2) us ts
  | 0, _, _, _, h => by cases h
  | n + 1, pc, .ret r, hp, h => by
    simp only [agreeRH] at h
    split at h
    · rename_i us hu; exact ⟨r, us, rfl, hu, sameCs_ok hp h⟩
    · cases h
  | n + 1, pc, .bad _, hp, h => by cases h
  | n + 1, pc, .br c x y, hp, h => by
    simp only [agreeRH] at h
    split at h
    · rename_i hd
      have hc := decA_ok hp0 hcs hp hd
      obtain ⟨r, us, h1, h2⟩ := agreeRH_ok hp0 hcs hp h
      exact ⟨r, us, by simp [Out.sel, hc, h1], h2⟩
    · rename_i hd
      have hc := decA_ok hp0 hcs hp hd
      obtain ⟨r, us, h1, h2⟩ := agreeRH_ok hp0 hcs hp h
      exact ⟨r, us, by simp [Out.sel, hc, h1], h2⟩
    · split at h
      · rename_i hx
        cases hc : (c.den E).toB with
        | true =>
          obtain ⟨r, us, h1, h2⟩ := agreeRH_ok hp0 hcs (addF_ok c hp hc) hx
          exact ⟨r, us, by simp [Out.sel, hc, h1], h2⟩
        | false =>
          obtain ⟨r, us, h1, h2⟩ := agreeRH_ok hp0 hcs (addF_ok c hp hc) h
          exact ⟨r, us, by simp [Out.sel, hc, h1], h2⟩
      · cases h
theorem agreeH_ok {E : Env} {rp : Rp} {pc0 : PC} (hp0 : PcOk E pc0) : ∀ {n : Nat} {cs pc : PC} {o o' : Out Res} {r : Res} {ts : List Tm}, PcOk E cs → PcOk E pc → agreeH rp pc0 n cs pc o o' = true → o.sel E = some r → unR rp r.v = some ts → ∃ r' us, o'.sel E = some r' ∧ unR rp r'.v = some us ∧ RelL E E (kindsR rp.2) us ts
  | 0, _, _, _, _, _, _, _, _, h, _, _ => by cases h
  | n + 1, cs, pc, .ret r0, o', r, ts, hcs, hp, h, hs, hu => by
    simp only [Out.sel, Option.some.injEq] at hs
    subst hs
    simp only [agreeH, hu] at h
    exact agreeRH_ok hp0 hcs hp h
  | n + 1, cs, pc, .bad _, o', r, ts, hcs, hp, h, hs, hu => by cases h
  | n + 1, cs, pc, .br c x y, o', r, ts, hcs, hp, h, hs, hu => by
    simp only [agreeH] at h
    simp only [Out.sel] at hs
    split at h
    · rename_i hd
      have hc := decL_ok hp hd
      rw [hc] at hs
      exact agreeH_ok hp0 hcs hp h (by simpa using hs) hu
    · rename_i hd
      have hc := decL_ok hp hd
      rw [hc] at hs
      exact agreeH_ok hp0 hcs hp h (by simpa using hs) hu
    · split at h
      · rename_i hx
        cases hc : (c.den E).toB with
        | true =>
          rw [hc] at hs
          exact agreeH_ok hp0 (hcs.cons hc) (addF_ok c hp hc) hx (by simpa using hs) hu
        | false =>
          rw [hc] at hs
          exact agreeH_ok hp0 (hcs.cons hc) (addF_ok c hp hc) h (by simpa using hs) hu
      · cases h
section
variable {E E' : Env} {β β' : Pl}
theorem RelL.split {a b : List SK} : ∀ {ts us : List Tm}, RelL E E' (a ++ b) ts us → RelL E E' a (ts.take a.length) (us.take a.length) ∧ RelL E E' b (ts.drop a.length) (us.drop a.length) := by
  induction a with
  | nil => intro ts us h; exact ⟨by simp [RelL], by simpa using h⟩
  | cons k a ih =>
    intro ts us h
    cases ts with
    | nil => cases us <;> simp [RelL] at h
    | cons t ts => cases us with
      | nil => simp [RelL] at h
      | cons u us =>
        obtain ⟨h1, h2⟩ := h
        obtain ⟨g1, g2⟩ := ih h2
        exact ⟨⟨h1, by simpa using g1⟩, by simpa using g2⟩
theorem RelL.len : ∀ {ks : List SK} {ts us : List Tm}, RelL E E' ks ts us → ts.length = ks.length ∧ us.length = ks.length
  | [], [], [], _ => ⟨rfl, rfl⟩
  | k :: ks, t :: ts, u :: us, h => by
    obtain ⟨h1, h2⟩ := RelL.len h.2
    simp [h1, h2]
  | [], [], _ :: _, h => by cases h
  | [], _ :: _, _, h => by cases h
  | _ :: _, [], _, h => by cases h
  | _ :: _, _ :: _, [], h => by cases h
theorem scs_rel : ∀ {ks : List SK} {ts us : List Tm} {vs : List Value}, RelL E E' ks ts us → SV.reps E β (scs ks ts) vs → SV.reps E' β' (scs ks us) vs
  | [], [], [], vs, _, h => by simpa [scs] using h
  | k :: ks, t :: ts, u :: us, vs, hr, h => by
    simp only [scs, SV.reps] at h ⊢
    obtain ⟨v, rest, rfl, h1, h2⟩ := h
    exact ⟨v, rest, rfl, hr.1 v h1, scs_rel hr.2 h2⟩
  | [], [], _ :: _, _, h, _ => by cases h
  | [], _ :: _, _, _, h, _ => by cases h
  | _ :: _, [], _, _, h, _ => by cases h
  | _ :: _, _ :: _, [], _, h, _ => by cases h
theorem mkC_rel {p : Bool × List SK} {ts us : List Tm} {v : Value} (hr : RelL E E' p.2 ts us) (h : SV.rep E β (mkC p ts) v) : SV.rep E' β' (mkC p us) v := by
  obtain ⟨b, ks⟩ := p
  cases b with
  | true =>
    simp only [mkC, SV.rep] at h ⊢
    obtain ⟨vs, rfl, hv⟩ := h
    exact ⟨vs, rfl, scs_rel hr hv⟩
  | false =>
    simp only [mkC] at h ⊢
    split
    · rename_i s hs
      have : SV.reps E' β' (scs ks us) [v] := by
        refine scs_rel (β := β) hr ?_
        obtain ⟨l1, l2⟩ := hr.len
        simp only at l1 l2
        rcases ks with _ | ⟨k, _ | ⟨k2, ks⟩⟩
        · simp [scs] at hs
        · rcases ts with _ | ⟨t, _ | ⟨t2, ts⟩⟩
          · simp at l1
          · simpa [scs] using h
          · simp at l1
        · rcases us with _ | ⟨u, _ | ⟨u2, us⟩⟩
          · simp at l2
          · simp at l2
          · simp [scs] at hs
      rw [hs] at this
      simpa using this
    · simp [SV.rep]
theorem mkCs_rel : ∀ {ps : List (Bool × List SK)} {ts us : List Tm} {vs : List Value}, RelL E E' (kindsR ps) ts us → SV.reps E β (mkCs ps ts) vs → SV.reps E' β' (mkCs ps us) vs
  | [], _, _, _, _, h => by simpa [mkCs] using h
  | p :: ps, ts, us, vs, hr, h => by
    obtain ⟨h1, h2⟩ := RelL.split hr
    simp only [mkCs, SV.reps] at h ⊢
    obtain ⟨v, rest, rfl, g1, g2⟩ := h
    exact ⟨v, rest, rfl, mkC_rel h1 g1, mkCs_rel h2 g2⟩
theorem mkR_rel {rp : Rp} {ts us : List Tm} {v : Value} (hr : RelL E E' (kindsR rp.2) ts us) (h : SV.rep E β (mkR rp ts) v) : SV.rep E' β' (mkR rp us) v := by
  obtain ⟨b, ps⟩ := rp
  cases b with
  | true =>
    simp only [mkR, SV.rep] at h ⊢
    obtain ⟨vs, rfl, hv⟩ := h
    exact ⟨vs, rfl, mkCs_rel hr hv⟩
  | false =>
    simp only [mkR] at h ⊢
    split
    · rename_i s hs
      have : SV.reps E' β' (mkCs ps us) [v] := by
        refine mkCs_rel (β := β) hr ?_
        match ps with
        | [] => simp [mkCs] at hs
        | [p] => simpa [mkCs] using h
        | p :: p2 :: ps => simp [mkCs] at hs
      rw [hs] at this
      simpa using this
    · simp [SV.rep]
theorem RelL.den {E'' : Env} : ∀ {ks : List SK} {ts us zs : List Tm}, RelL E E' ks ts us → zs.length = us.length → (∀ (i : Nat) (u z : Tm), us[i]? = some u → zs[i]? = some z → z.den E'' = u.den E') → RelL E E'' ks ts zs
  | [], [], [], [], _, _, _ => trivial
  | k :: ks, t :: ts, u :: us, z :: zs, h, hl, hz => by
    refine ⟨fun v hv => ?_, RelL.den h.2 (by simpa using hl) (fun i a b h1 h2 => hz (i + 1) a b (by simpa using h1) (by simpa using h2))⟩
    rw [hz 0 u z rfl rfl]
    exact h.1 v hv
  | _, _, [], _ :: _, _, hl, _ => by simp at hl
  | _, _, _ :: _, [], _, hl, _ => by simp at hl
  | [], [], _ :: _, _, h, _, _ => by cases h
  | [], _ :: _, _, _, h, _, _ => by cases h
  | _ :: _, [], _, _, h, _, _ => by cases h
  | _ :: _, _ :: _, [], _, h, _, _ => by cases h
end
/-- Two functions whose trees agree: one name for both. -/
theorem sumH_ok {P : Go.Program} {E : Env} {ctx ctx' : Ctx} {n m f g N id : Nat} {ps ps' : List Pa} {ass pcx : PC} {rp : Rp} {D : Tm} {els : Sum} (hC' : ∀ E' : Env, E'.fn = E.fn → CtxOk P E' ctx' ∧ CtxPc E' ctx')
    (hN : Named P) (hmix : P.follows .mixedOrders = true) (hD : ∀ c, E.fn id c = D.den ⟨fun i => c.at_ i, E.fn⟩)
    (hj : (Nat.ble (bldP ps' 0 0).j 1000 && undersF (bldP ps' 0 0).n ass) = true) (hu : (D.under (bldP ps' 0 0).n && Nat.beq N (sizeR rp.2)) = true)
    (hx : ∀ E' : Env, E'.fn = E.fn → PcOk E' ass → PcOk E' pcx) (hk : treeIs rp (callQ P ctx n g ps pcx) D = true)
    (ha : agreeH rp pcx m [] pcx (callQ P ctx n g ps pcx) (callQ P ctx' n f ps' pcx) = true) (hels : SumOk P E f els) : SumOk P E f (sumR ps' ass rp N id els) := by
  simp only [Bool.and_eq_true] at hu
  refine sumQ_ok (n := n) hC' hN hmix hj hx (fun E' ts hfn hp hn hE => ?_) hels
  unfold treeIs at hk
  split at hk
  · rename_i T hT
    have e := Tm.beq_eq hk
    subst e
    obtain ⟨r, cs, h1, h2, h3⟩ := treeT_sel (E := E') hT
    obtain ⟨r', us, g1, g2, g3⟩ := agreeH_ok (pc := pcx) (fun p hm => hp p (List.mem_append.2 (.inl hm))) (fun p hm => by cases hm) (fun p hm => hp p (List.mem_append.2 (.inl hm))) ha h1 h2
    refine ⟨r', g1, fun β' β v hv => ?_⟩
    have hlen := unR_length h2
    have hlen' := unR_length g2
    have hN' : N = sizeR rp.2 := Nat.eq_of_beq_eq_true hu.2
    have hrefl : SV.rep E' β' (mkR rp us) v := unR_rep g2 hv ⟨rfl, fun i t u a b => by rw [a] at b; cases b; rfl⟩
    refine mkR_rel (β := β') (RelL.den g3 (by rw [nths_length]; omega) fun i t u q1 q2 => ?_) hrefl
    have eu := nths_get q2
    rw [Nat.zero_add] at eu
    subst eu
    simp only [Tm.den]
    rw [hD]
    have e2 : T.den E' = T.den ⟨fun i => ((listT ts).den E).at_ i, E.fn⟩ := under_den (E' := ⟨fun i => ((listT ts).den E).at_ i, E.fn⟩) (n := (bldP ps' 0 0).n) (fun i hi => by
      rw [hn] at hi
      have ht : ts[i]? = some ts[i] := List.getElem?_eq_getElem hi
      rw [hE i _ ht]
      exact (listT_at ht).symm) hfn hu.1
    rw [← e2, h3]
    exact listT_at q1
  · cases hk
end Go.Sx
set_option linter.unusedVariables false
set_option linter.unusedSimpArgs false
noncomputable section
namespace Go.Sx
open Go Go.RowKit
/-- The list's cells: their kind, their type, how many; is the list of a failure nil? -/
structure Fr where
  kd : SK
  e : Nat
  n : Nat
  nl : Bool
def zerosL : Nat → List Tm
  | 0 => []
  | m + 1 => .nil :: zerosL m
def isZ : Tm → Bool
  | .il n => ieq n 0
  | _ => false
/-- The cells and the code of an answer. -/
def leafL (F : Fr) (r : Res) : Option (List Tm) :=
  match r.v with
  | .tup [s, .sc k c] => match beqK k (.int .i64) with
    | false => none
    | true => match s with
      | .gs j m => match find r.nb j with
        | some sb => match sb.row with
          | some (e', z, m') => match Nat.beq e' F.e, Nat.beq z 1, Nat.beq m m' with
            | true, true, true => match Nat.beq m F.n with
              | true => match Nat.blt 0 F.n, isZ c, matchKs (List.replicate F.n F.kd) sb.cs with
                | true, true, some ts => some (ts ++ [c])
                | _, _, _ => none
              | false => match Nat.beq m 0, F.nl, prove false 60 r.pc (.op .eqi c (.il 0)) with
                | true, false, true => some (zerosL F.n ++ [c])
                | _, _, _ => none
            | _, _, _ => none
          | none => none
        | none => none
      | .nils => match F.nl, prove false 60 r.pc (.op .eqi c (.il 0)) with
        | true, true => some (zerosL F.n ++ [c])
        | _, _ => none
      | _ => none
  | _ => none
def treeL (F : Fr) : Out Res → Option Tm
  | .ret r => match leafL F r with
    | some ts => some (listT ts)
    | none => none
  | .br t x y => match treeL F x, treeL F y with
    | some a, some b => some (.ite t a b)
    | _, _ => none
  | .bad _ => none
def treeIsL (F : Fr) (o : Out Res) (D : Tm) : Bool :=
  match treeL F o with
  | some T => T.beq D
  | none => false
theorem treeL_sel {E : Env} {F : Fr} : ∀ {o : Out Res} {T : Tm}, treeL F o = some T → ∃ r ts, o.sel E = some r ∧ leafL F r = some ts ∧ T.den E = (listT ts).den E
  | .ret r, T, h => by
    simp only [treeL] at h
    split at h
    · rename_i ts hts; cases h; exact ⟨r, ts, rfl, hts, rfl⟩
    · cases h
  | .bad _, T, h => by cases h
  | .br t x y, T, h => by
    simp only [treeL] at h
    split at h
    · rename_i a b ha hb
      cases h
      obtain ⟨r, ts, h1, h2, h3⟩ := treeL_sel (E := E) ha
      obtain ⟨r', ts', g1, g2, g3⟩ := treeL_sel (E := E) hb
      cases ht : (t.den E).toB with
      | true => exact ⟨r, ts, by simp [Out.sel, ht, h1], h2, by simp only [Tm.den, ht, if_true]; exact h3⟩
      | false => exact ⟨r', ts', by simp [Out.sel, ht, g1], g2, by simp only [Tm.den, ht, Bool.false_eq_true, if_false]; exact g3⟩
    · cases h
def codeF (F : Fr) (A : Tm) : Tm := .op .eqi (.nth F.n A) (.il 0)
def okF (F : Fr) (A : Tm) (m : Mm) (pc : PC) : Res := ⟨.tup [.gs m.nxt F.n, .sc (.int .i64) (.il 0)], [(m.nxt, ⟨(nths A F.n 0).map (.sc F.kd), some (F.e, 1, F.n)⟩)], m.nxt + 1, (codeF F A, true) :: pc⟩
def erF (F : Fr) (A : Tm) (m : Mm) (pc : PC) : Res :=
  match F.nl with
  | true => ⟨.tup [.nils, .sc (.int .i64) (.nth F.n A)], [], m.nxt, (codeF F A, false) :: pc⟩
  | false => ⟨.tup [.gs m.nxt 0, .sc (.int .i64) (.nth F.n A)], [(m.nxt, ⟨[], some (F.e, 1, 0)⟩)], m.nxt + 1, (codeF F A, false) :: pc⟩
/-- The contract: a list of single cells, each a part of the named function's value. -/
def sumN (F : Fr) (id : Nat) (ps : List Pa) (els : Sum) : Sum := fun args m pc =>
  match matchP m.mem pc ps args, Nat.blt m.nxt m.lim with
  | some ts, true => match decB pc (codeF F (.app id (listT ts))) with
    | some true => .ret (okF F (.app id (listT ts)) m pc)
    | some false => .ret (erF F (.app id (listT ts)) m pc)
    | none => .br (codeF F (.app id (listT ts))) (.ret (okF F (.app id (listT ts)) m pc)) (.ret (erF F (.app id (listT ts)) m pc))
  | _, _ => els args m pc
section
variable {P : Program} {E : Env}
theorem zerosL_length : ∀ n, (zerosL n).length = n
  | 0 => rfl
  | n + 1 => by simp [zerosL, zerosL_length]
theorem isZ_eq {c : Tm} (h : isZ c = true) : c = .il 0 := by
  unfold isZ at h
  split at h
  · rw [ieq_eq h]
  · cases h
theorem matchKs_len : ∀ {ks : List SK} {cs : List SV} {ts : List Tm}, matchKs ks cs = some ts → cs.length = ks.length
  | [], [], _, _ => rfl
  | [], _ :: _, ts, h => by simp [matchKs] at h
  | _ :: _, [], ts, h => by simp [matchKs] at h
  | k :: ks, s :: cs, ts, h => by
    simp only [matchKs] at h
    split at h
    · split at h
      · rename_i hh; simp [matchKs_len hh]
      · cases h
    · cases h
theorem leafL_len : ∀ {ks : List SK} {cs : List SV} {ts : List Tm}, matchKs ks cs = some ts → ts.length = ks.length
  | [], [], ts, h => by simp [matchKs] at h; subst h; rfl
  | [], _ :: _, ts, h => by simp [matchKs] at h
  | _ :: _, [], ts, h => by simp [matchKs] at h
  | k :: ks, s :: cs, ts, h => by
    simp only [matchKs] at h
    split at h
    · split at h
      · rename_i hh; cases h; simp [leafL_len hh]
      · cases h
    · cases h
theorem matchKs_cell {F : Fr} : ∀ {n : Nat} {cs : List SV} {ts : List Tm}, matchKs (List.replicate n F.kd) cs = some ts → ∀ {i : Nat}, i < (List.replicate n F.kd).length → ∃ s t, cs[i]? = some s ∧ ts[i]? = some t ∧ s = .sc F.kd t
  | 0, cs, ts, h, i, hi => by simp at hi
  | n + 1, [], ts, h, i, hi => by simp [matchKs, List.replicate_succ] at h
  | n + 1, s :: cs, ts, h, i, hi => by
    simp only [List.replicate_succ, matchKs] at h
    split at h
    · rename_i k' t
      split at h
      · rename_i ts' hk hm
        cases h
        cases i with
        | zero => exact ⟨_, t, rfl, rfl, by rw [beqK_eq hk]⟩
        | succ i =>
          obtain ⟨s2, t2, h1, h2, h3⟩ := matchKs_cell hm (i := i) (by simpa using hi)
          exact ⟨s2, t2, by simpa using h1, by simpa using h2, h3⟩
      · cases h
    · cases h
theorem leafL_code {F : Fr} {r : Res} {ts : List Tm} (h : leafL F r = some ts) : ts.length = F.n + 1 ∧ ∃ c, ts[F.n]? = some c := by
  have len : ts.length = F.n + 1 := by
    unfold leafL at h
    repeat' split at h
    all_goals first
      | (cases h; done)
      | (cases h; simp only [List.length_append, zerosL_length, List.length_singleton]; done)
      | skip
    all_goals
      rename_i hm
      cases h
      have : ∀ {ks : List SK} {cs : List SV} {ts : List Tm}, matchKs ks cs = some ts → ts.length = ks.length := by
        intro ks
        induction ks with
        | nil => intro cs ts h; cases cs <;> simp [matchKs] at h; subst h; rfl
        | cons k ks ih =>
          intro cs ts h
          cases cs with
          | nil => simp [matchKs] at h
          | cons s cs =>
            simp only [matchKs] at h
            split at h
            · split at h
              · rename_i hh; cases h; simp [ih hh]
              · cases h
            · cases h
      simp [this hm]
  exact ⟨len, _, List.getElem?_eq_getElem (by omega)⟩
theorem step_new1 {β β' : Pl} {w w' : World} {n l : Nat} (hf : Fresh β n l) (hl : n < l) {sb : SB} {b : Bs} (hbel : Below w.heap.size w w') (hr : SB.reads E (upd β n b) sb b w') (hb : w.heap.size ≤ b.blk) (ho : SB.owns sb b w') :
    Step E β (upd β n b) w w' n (n + 1) [(n, sb)] := by
  refine ⟨hbel, upd_le hf hl _, fun j hj => ?_, Nat.le_succ _, ⟨fun j sb' hj => ?_, fun j sb' j' sb2 b1 b2 hj hj' hne => ?_⟩⟩
  · have hj' : j < n ∨ n + 1 ≤ j := hj
    simp only [upd]
    rw [if_neg (by omega)]
  · rcases List.mem_cons.1 hj with hj | hj
    · cases hj
      exact ⟨b, by simp [upd], hr, hb, ho⟩
    · cases hj
  · rcases List.mem_cons.1 hj with hj | hj
    · rcases List.mem_cons.1 hj' with hj' | hj'
      · cases hj; cases hj'; exact absurd rfl hne
      · cases hj'
    · cases hj
/-- What an answer's leaf says, said of the named function's value. -/
theorem leafL_ok {E' : Env} {F : Fr} {r0 : Res} {l : List Tm} {A : Tm} {m : Mm} {pc : PC} {β β'' β0 : Pl} {w w' : World} {v : Value} {n0 : Nat} (hl : leafL F r0 = some l) (hA : ∀ (i : Nat) (t : Tm), l[i]? = some t → (A.den E).at_ i = t.den E') (hp0 : PcOk E' r0.pc)
    (hv : SV.rep E' β'' r0.v v) (hst : Step E' β0 β'' w w' n0 r0.nxt r0.nb) (hf : Fresh β m.nxt m.lim) (hlt : m.nxt < m.lim) :
    (((codeF F A).den E).toB = true → ∃ β2, SV.rep E β2 (okF F A m pc).v v ∧ Step E β β2 w w' m.nxt (okF F A m pc).nxt (okF F A m pc).nb) ∧
    (((codeF F A).den E).toB = false → ∃ β2, SV.rep E β2 (erF F A m pc).v v ∧ Step E β β2 w w' m.nxt (erF F A m pc).nxt (erF F A m pc).nb) := by
  have hcode : ∀ c, l[F.n]? = some c → ((codeF F A).den E).toB = decide ((c.den E').toI = 0) := by
    intro c hc
    show decide (((A.den E).at_ F.n).toI = 0) = _
    rw [hA _ _ hc]
  unfold leafL at hl
  split at hl
  · rename_i s k c hrv
    rw [hrv] at hv
    simp only [SV.rep, SV.reps] at hv
    obtain ⟨vs, rfl, hvs⟩ := hv
    obtain ⟨v1, rest1, e1, hv1, v2, rest2, e2, hv2, e3⟩ := hvs
    subst e3; subst e2
    split at hl
    · cases hl
    · rename_i hk
      have hk' := beqK_eq hk
      subst hk'
      simp only [SV.rep, SK.rep] at hv2
      subst hv2
      have htup : ∀ (β2 : Pl) (s2 : SV) (t2 : Tm), SV.rep E β2 s2 v1 → (t2.den E).toI = (c.den E').toI → SV.rep E β2 (.tup [s2, .sc (.int .i64) t2]) (.tuple vs) := by
        intro β2 s2 t2 h1 h2
        simp only [SV.rep, SV.reps]
        exact ⟨vs, rfl, v1, _, e1, h1, _, _, rfl, by simp only [SK.rep]; rw [h2], rfl⟩
      split at hl
      · rename_i j mm
        simp only [SV.rep] at hv1
        obtain ⟨b, hb, hoff, hv1⟩ := hv1
        split at hl
        · rename_i sb hsb
          obtain ⟨b2, hb2, hreads, hB, h0, arr, e, hh, hrw⟩ := hst.new.ent j sb (find_mem hsb)
          rw [hb] at hb2; cases hb2
          split at hl
          · rename_i e' z m' hrow
            split at hl
            · rename_i he hz hm
              have he' := Nat.eq_of_beq_eq_true he
              have hz' := Nat.eq_of_beq_eq_true hz
              have hm' := Nat.eq_of_beq_eq_true hm
              subst he'; subst hz'; subst hm'
              rw [hrow] at hrw
              simp only at hrw
              split at hl
              · rename_i hmn
                have hmn' := Nat.eq_of_beq_eq_true hmn
                subst hmn'
                split at hl
                · rename_i ts hpos hz0 hts
                  cases hl
                  have hz1 := isZ_eq hz0
                  subst hz1
                  have hpos' : 0 < F.n := Nat.le_of_ble_eq_true hpos
                  have htl : ts.length = F.n := by
                    have := leafL_len hts
                    simpa using this
                  have hc0 := hcode (.il 0) (by rw [List.getElem?_append_right (by omega), htl]; simp)
                  have hc1 : ((codeF F A).den E).toB = true := by rw [hc0]; exact decide_eq_true rfl
                  refine ⟨fun _ => ⟨upd β m.nxt b, htup _ _ _ ?_ rfl, step_new1 (β' := β'') hf hlt hst.below ⟨hreads.1, fun i s2 hi => ?_, ?_, fun e2 s2 h => ?_⟩ hB ⟨h0, arr, e, hh, ?_⟩⟩, fun h => by rw [hc1] at h; cases h⟩
                  · simp only [SV.rep]
                    exact ⟨b, by simp [upd], hoff, hv1⟩
                  · simp only [List.getElem?_map, Option.map_eq_some_iff] at hi
                    obtain ⟨u, hu, rfl⟩ := hi
                    have eu := nths_get hu
                    rw [Nat.zero_add] at eu
                    subst eu
                    have hi' : i < F.n := by have := (List.getElem?_eq_some_iff.1 hu).1; rw [nths_length] at this; exact this
                    obtain ⟨s3, t3, g1, g2, g3⟩ := matchKs_cell hts (i := i) (by simp; exact hi')
                    obtain ⟨v, c1, c2, c3⟩ := hreads.2 i s3 g1
                    refine ⟨v, c1, c2, ?_⟩
                    subst g3
                    simp only [SV.rep] at c3 ⊢
                    have : (Tm.nth i A).den E = t3.den E' := hA i t3 (by rw [List.getElem?_append_left (by omega)]; exact g2)
                    rw [this]; exact c3
                  · rcases hreads.3 with h | ⟨h, _⟩
                    · exact .inl h
                    · exfalso
                      have := matchKs_len hts
                      rw [h] at this
                      simp at this
                      omega
                  · simp only [Option.some.injEq, Prod.mk.injEq] at h
                    omega
                  · simp only
                    refine ⟨hrw.1, hrw.2.1, hrw.2.2.1, hrw.2.2.2.1, ?_⟩
                    simp [nths_length]
                · cases hl
              · split at hl
                · rename_i hm0 hnl hne
                  cases hl
                  have hm0' := Nat.eq_of_beq_eq_true hm0
                  subst hm0'
                  have hc0 := hcode c (by rw [List.getElem?_append_right (by rw [zerosL_length]; exact Nat.le_refl _), zerosL_length]; simp)
                  have hcne : ¬ (c.den E').toI = 0 := by
                    have := prove_ok 60 hp0 hne
                    exact of_decide_eq_false this
                  have hc1 : ((codeF F A).den E).toB = false := by rw [hc0]; exact decide_eq_false hcne
                  refine ⟨fun h => (by rw [hc1] at h; cases h), fun _ => ?_⟩
                  unfold erF
                  rw [hnl]
                  refine ⟨upd β m.nxt b, htup _ _ _ ?_ ?_, step_new1 (β' := β'') hf hlt hst.below ⟨hreads.1, fun i s2 hi => by simp at hi, ?_, fun e2 s2 h => ?_⟩ hB ⟨h0, arr, e, hh, ?_⟩⟩
                  · simp only [SV.rep]
                    exact ⟨b, by simp [upd], hoff, hv1⟩
                  · show ((A.den E).at_ F.n).toI = _
                    rw [hA F.n c (by rw [List.getElem?_append_right (by rw [zerosL_length]; exact Nat.le_refl _), zerosL_length]; simp)]
                  · rcases hreads.3 with h | ⟨h, hg⟩
                    · exact .inl h
                    · exact .inr ⟨rfl, hg⟩
                  · cases h
                    exact hreads.zc _ _ hrow
                  · simp only
                    exact ⟨hrw.1, hrw.2.1, hrw.2.2.1, hrw.2.2.2.1, by simp⟩
                · cases hl
            · cases hl
          · cases hl
        · cases hl
      · split at hl
        · rename_i hnl hne
          cases hl
          have hc0 := hcode c (by rw [List.getElem?_append_right (by rw [zerosL_length]; exact Nat.le_refl _), zerosL_length]; simp)
          have hcne : ¬ (c.den E').toI = 0 := by
            have := prove_ok 60 hp0 hne
            exact of_decide_eq_false this
          have hc1 : ((codeF F A).den E).toB = false := by rw [hc0]; exact decide_eq_false hcne
          refine ⟨fun h => (by rw [hc1] at h; cases h), fun _ => ?_⟩
          unfold erF
          rw [hnl]
          refine ⟨β, htup _ _ _ ?_ ?_, Step.same _ hst.below⟩
          · simpa only [SV.rep] using hv1
          · show ((A.den E).at_ F.n).toI = _
            rw [hA F.n c (by rw [List.getElem?_append_right (by rw [zerosL_length]; exact Nat.le_refl _), zerosL_length]; simp)]
        · cases hl
      · cases hl
  · cases hl
theorem sumN_ok {ctx : Ctx} {n f id : Nat} {ps : List Pa} {F : Fr} {D : Tm} {els : Sum} (hC : ∀ E' : Env, E'.fn = E.fn → CtxOk P E' ctx ∧ CtxPc E' ctx)
    (hN : Named P) (hmix : P.follows .mixedOrders = true) (hD : ∀ c, E.fn id c = D.den ⟨fun i => c.at_ i, E.fn⟩)
    (hj : (Nat.ble (bldP ps 0 0).j 1000 && D.under (bldP ps 0 0).n) = true) (hk : treeIsL F (callQ P ctx n f ps []) D = true) (hels : SumOk P E f els) : SumOk P E f (sumN F id ps els) := by
  simp only [Bool.and_eq_true] at hj
  intro args m pc r hr β w vals hreps hm hf hl hp
  unfold sumN at hr
  split at hr
  · rename_i ts hts hlt0
    have hlt : m.nxt < m.lim := Nat.le_of_ble_eq_true hlt0
    obtain ⟨e1, bss, e2, hall⟩ := matchP_ok P hp hm (n := 0) (j := 0) hts hreps
    rw [Nat.zero_add] at e1 e2
    let E' : Env := ⟨fun i => (ts[i]?.map (Tm.den E)).getD .nil, E.fn⟩
    let β' : Pl := fun i => bss[i]?
    have hE : ∀ (i : Nat) (t : Tm), ts[i]? = some t → E'.v i = t.den E := fun i t hi => by simp [E', hi]
    obtain ⟨g1, g2, g3⟩ := hall E' β' (fun i t hi => by rw [Nat.zero_add]; exact hE i t hi) (fun i x hi => by rw [Nat.zero_add]; exact hi)
    unfold treeIsL at hk
    split at hk
    · rename_i T hT
      have e := Tm.beq_eq hk
      subst e
      obtain ⟨r0, l, h1, h2, h3⟩ := treeL_sel (E := E') hT
      have hpx : PcOk E' ([] ++ (bldP ps 0 0).pc) := fun p hp => g3 p (by simpa using hp)
      obtain ⟨hp0, _, hfn, hcalls⟩ := call_ok (hC E' rfl).1 (hC E' rfl).2 hN hmix n f (bldP ps 0 0).svs ⟨(bldP ps 0 0).mem, (bldP ps 0 0).j, 2 ^ 256, 2 ^ 200⟩ ([] ++ (bldP ps 0 0).pc) r0 h1 β' w vals g1 g2
        (fun i hi _ => by simp only [β']; exact List.getElem?_eq_none (by simp only at hi; omega)) (Nat.le_trans (Nat.le_of_ble_eq_true hj.1) (show 1000 ≤ 2 ^ 256 by decide)) hpx
      have hA : ∀ (i : Nat) (t : Tm), l[i]? = some t → ((Tm.app id (listT ts)).den E).at_ i = t.den E' := by
        intro i t hi
        simp only [Tm.den]
        rw [hD]
        have e3 : T.den E' = T.den ⟨fun i => ((listT ts).den E).at_ i, E.fn⟩ := under_den (E := E') (E' := ⟨fun i => ((listT ts).den E).at_ i, E.fn⟩) (n := (bldP ps 0 0).n) (fun i hi => by
          rw [e1] at hi
          have ht : ts[i]? = some ts[i] := List.getElem?_eq_getElem hi
          rw [hE i _ ht]
          exact (listT_at ht).symm) rfl hj.2
        rw [← e3, h3]
        exact listT_at hi
      have ok : ((codeF F (.app id (listT ts))).den E).toB = true → r = okF F (.app id (listT ts)) m pc → PcOk E r.pc ∧ r.nxt ≤ m.lim ∧ (∃ fn, P.funcs[f]? = some fn ∧ fn.body.isSome = true) ∧ Calls P f vals.toArray w fun e w' => ∃ v β2, e = .returned v ∧ SV.rep E β2 r.v v ∧ Step E β β2 w w' m.nxt r.nxt r.nb := by
        rintro hc rfl
        refine ⟨hp.cons hc, hlt, hfn, hcalls.mono fun e w' ⟨v, β'', he, hv, hst⟩ => ?_⟩
        obtain ⟨β2, q1, q2⟩ := (leafL_ok (m := m) (pc := pc) (β := β) h2 hA hp0 hv hst hf hlt).1 hc
        exact ⟨v, β2, he, q1, q2⟩
      have er : ((codeF F (.app id (listT ts))).den E).toB = false → r = erF F (.app id (listT ts)) m pc → PcOk E r.pc ∧ r.nxt ≤ m.lim ∧ (∃ fn, P.funcs[f]? = some fn ∧ fn.body.isSome = true) ∧ Calls P f vals.toArray w fun e w' => ∃ v β2, e = .returned v ∧ SV.rep E β2 r.v v ∧ Step E β β2 w w' m.nxt r.nxt r.nb := by
        rintro hc rfl
        refine ⟨?_, ?_, hfn, hcalls.mono fun e w' ⟨v, β'', he, hv, hst⟩ => ?_⟩
        · unfold erF; split <;> exact hp.cons hc
        · unfold erF; split
          · exact hl
          · exact hlt
        · obtain ⟨β2, q1, q2⟩ := (leafL_ok (m := m) (pc := pc) (β := β) h2 hA hp0 hv hst hf hlt).2 hc
          exact ⟨v, β2, he, q1, q2⟩
      split at hr
      · rename_i hd
        simp only [Out.sel, Option.some.injEq] at hr
        exact ok (decB_ok hp _ hd) hr.symm
      · rename_i hd
        simp only [Out.sel, Option.some.injEq] at hr
        exact er (decB_ok hp _ hd) hr.symm
      · simp only [Out.sel] at hr
        split at hr
        · rename_i hc
          simp only [Option.some.injEq] at hr
          exact ok hc hr.symm
        · rename_i hc
          simp only [Option.some.injEq] at hr
          exact er (by simpa using hc) hr.symm
    · cases hk
  · exact hels args m pc r hr β w vals hreps hm hf hl hp
theorem sumN_pc {F : Fr} {id : Nat} {ps : List Pa} {els : Sum} (hels : ∀ args m pc, PcOk E pc → Pcs E Res.pc (els args m pc)) (args : List SV) (m : Mm) (pc : PC) (hp : PcOk E pc) : Pcs E Res.pc (sumN F id ps els args m pc) := by
  have ok : ∀ (A : Tm), ((codeF F A).den E).toB = true → PcOk E (okF F A m pc).pc := fun A hc => hp.cons hc
  have er : ∀ (A : Tm), ((codeF F A).den E).toB = false → PcOk E (erF F A m pc).pc := fun A hc => by unfold erF; split <;> exact hp.cons hc
  intro r hr
  unfold sumN at hr
  split at hr
  · split at hr
    · rename_i hd
      simp only [Out.sel, Option.some.injEq] at hr
      subst hr; exact ok _ (decB_ok hp _ hd)
    · rename_i hd
      simp only [Out.sel, Option.some.injEq] at hr
      subst hr; exact er _ (decB_ok hp _ hd)
    · simp only [Out.sel] at hr
      split at hr
      · rename_i hc
        simp only [Option.some.injEq] at hr
        subst hr; exact ok _ hc
      · rename_i hc
        simp only [Option.some.injEq] at hr
        subst hr; exact er _ (by simpa using hc)
  · exact hels args m pc hp r hr
end
end Go.Sx
set_option linter.unusedVariables false
set_option linter.unusedSimpArgs false
noncomputable section
namespace Go.Sx
open Go Go.RowKit
def redT (pc : PC) : Tm → Tm
  | .ite c a b => match decB pc c with
    | some true => redT pc a
    | some false => redT pc b
    | none => .ite c a b
  | .op o a b => mkOp o (redT pc a) (redT pc b)
  | t => t
theorem redT_den {E : Env} {pc : PC} (hp : PcOk E pc) : ∀ t : Tm, (redT pc t).den E = t.den E
  | .ite c a b => by
    unfold redT
    split
    · rename_i h
      have hc := decB_ok hp c h
      rw [redT_den hp a]
      show a.den E = if (c.den E).toB = true then a.den E else b.den E
      rw [if_pos hc]
    · rename_i h
      have hc := decB_ok hp c h
      rw [redT_den hp b]
      show b.den E = if (c.den E).toB = true then a.den E else b.den E
      rw [if_neg (by rw [hc]; decide)]
    · rfl
  | .op o a b => by
    unfold redT
    rw [mkOp_den, redT_den hp a, redT_den hp b]
    rfl
  | .var _ | .bl _ | .il _ | .fl _ | .sl _ | .nil | .cons _ _ | .app _ _ | .nth _ _ => rfl
def redC (pc : PC) : SV → SV
  | .sc k t => .sc k (redT pc t)
  | s => s
def red1 (pc : PC) : SV → SV
  | .agg cs => .agg (cs.map (redC pc))
  | s => redC pc s
def red2 (pc : PC) : SV → SV
  | .tup cs => .tup (cs.map (red1 pc))
  | s => red1 pc s
section
variable {P : Program} {E : Env} {β : Pl}
theorem reps_mapQ {f : SV → SV} (h : ∀ s v, SV.rep E β (f s) v ↔ SV.rep E β s v) : ∀ {cs : List SV} {vs : List Value}, SV.reps E β (cs.map f) vs ↔ SV.reps E β cs vs
  | [], vs => Iff.rfl
  | s :: r, vs => by
    simp only [List.map_cons, SV.reps]
    constructor
    · rintro ⟨v, rest, rfl, h1, h2⟩; exact ⟨v, rest, rfl, (h s v).1 h1, (reps_mapQ h).1 h2⟩
    · rintro ⟨v, rest, rfl, h1, h2⟩; exact ⟨v, rest, rfl, (h s v).2 h1, (reps_mapQ h).2 h2⟩
theorem redC_rep {pc : PC} (hp : PcOk E pc) (s : SV) (v : Value) : SV.rep E β (redC pc s) v ↔ SV.rep E β s v := by
  cases s <;> simp only [redC, SV.rep, redT_den hp]
theorem red1_rep {pc : PC} (hp : PcOk E pc) (s : SV) (v : Value) : SV.rep E β (red1 pc s) v ↔ SV.rep E β s v := by
  cases s with
  | agg cs => simp only [red1, SV.rep, reps_mapQ (β := β) (redC_rep hp)]
  | _ => simp only [red1]; exact redC_rep hp _ v
theorem red2_rep {pc : PC} (hp : PcOk E pc) (s : SV) (v : Value) : SV.rep E β (red2 pc s) v ↔ SV.rep E β s v := by
  cases s with
  | tup cs => simp only [red2, SV.rep, reps_mapQ (β := β) (red1_rep hp)]
  | _ => simp only [red2]; exact red1_rep hp _ v
/-- The same contract, its arguments made simpler. -/
def redA (S : Sum) : Sum := fun args m pc => S (args.map (red1 pc)) m pc
/-- The same contract, its answer made simpler. -/
def redR (S : Sum) : Sum := fun args m pc => (S args m pc).bind fun r => .ret ⟨red2 r.pc r.v, r.nb, r.nxt, r.pc⟩
theorem redA_ok {f : Nat} {S : Sum} (h : SumOk P E f S) : SumOk P E f (redA S) := by
  intro args m pc r hr β w vals hreps hm hf hl hp
  exact h _ m pc r hr β w vals ((reps_mapQ (red1_rep hp)).2 hreps) hm hf hl hp
theorem redA_pc {S : Sum} (h : ∀ args m pc, PcOk E pc → Pcs E Res.pc (S args m pc)) (args : List SV) (m : Mm) (pc : PC) (hp : PcOk E pc) : Pcs E Res.pc (redA S args m pc) := h _ m pc hp
theorem redR_ok {f : Nat} {S : Sum} (h : SumOk P E f S) : SumOk P E f (redR S) := by
  intro args m pc r hr β w vals hreps hm hf hl hp
  unfold redR at hr
  obtain ⟨r0, h0, hr⟩ := Out.sel_bind_some hr
  simp only [Out.sel, Option.some.injEq] at hr
  subst hr
  obtain ⟨h1, h2, h3, h4⟩ := h args m pc r0 h0 β w vals hreps hm hf hl hp
  exact ⟨h1, h2, h3, h4.mono fun e w' ⟨v, β', he, hrep, hst⟩ => ⟨v, β', he, (red2_rep h1 _ _).2 hrep, hst⟩⟩
theorem redR_pc {S : Sum} (h : ∀ args m pc, PcOk E pc → Pcs E Res.pc (S args m pc)) (args : List SV) (m : Mm) (pc : PC) (hp : PcOk E pc) : Pcs E Res.pc (redR S args m pc) := by
  unfold redR
  exact .bind (h args m pc hp) (fun r hr => .ret hr)
end
end Go.Sx
