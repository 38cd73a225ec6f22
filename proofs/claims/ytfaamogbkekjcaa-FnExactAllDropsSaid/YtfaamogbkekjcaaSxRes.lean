/- Contracts of functions with several results, under what is assumed of the arguments. No condition. -/
import Derived.Test.YtfaamogbkekjcaaSxPat
set_option linter.unusedVariables false
set_option linter.unusedSimpArgs false
noncomputable section
namespace Go.Sx
open Go Go.RowKit

/-- A result: is it a tuple, and its parts: is it an aggregate, and its cells. -/
abbrev Rp := Bool × List (Bool × List SK)
def cellsR : Bool × List SK → SV → Option (List Tm)
  | (true, ks), .agg cs => matchKs ks cs
  | (false, ks), .sc k t => matchKs ks [.sc k t]
  | _, _ => none
def cellsRs : List (Bool × List SK) → List SV → Option (List Tm)
  | [], [] => some []
  | p :: ps, s :: ss => match cellsR p s, cellsRs ps ss with
    | some a, some b => some (a ++ b)
    | _, _ => none
  | _, _ => none
def unR (rp : Rp) (v : SV) : Option (List Tm) :=
  match rp.1 with
  | true => match v with
    | .tup vs => cellsRs rp.2 vs
    | _ => none
  | false => cellsRs rp.2 [v]
def mkC : Bool × List SK → List Tm → SV
  | (true, ks), ts => .agg (scs ks ts)
  | (false, ks), ts => match scs ks ts with
    | [s] => s
    | _ => .un
def mkCs : List (Bool × List SK) → List Tm → List SV
  | [], _ => []
  | p :: ps, ts => mkC p (ts.take p.2.length) :: mkCs ps (ts.drop p.2.length)
def mkR (rp : Rp) (ts : List Tm) : SV :=
  match rp.1 with
  | true => .tup (mkCs rp.2 ts)
  | false => match mkCs rp.2 ts with
    | [s] => s
    | _ => .un
/-- Two lists of terms stand for the same. -/
def SameL (E E' : Env) (ts us : List Tm) : Prop := ts.length = us.length ∧ ∀ (i : Nat) (t u : Tm), ts[i]? = some t → us[i]? = some u → u.den E' = t.den E

section
variable {E E' : Env} {β β' : Pl}
theorem SameL.tail {t u : Tm} {ts us : List Tm} (h : SameL E E' (t :: ts) (u :: us)) : SameL E E' ts us :=
  ⟨by have := h.1; simpa using this, fun i a b h1 h2 => h.2 (i + 1) a b (by simpa using h1) (by simpa using h2)⟩
theorem SameL.split {a b us : List Tm} (h : SameL E E' (a ++ b) us) : SameL E E' a (us.take a.length) ∧ SameL E E' b (us.drop a.length) := by
  have hl := h.1
  rw [List.length_append] at hl
  refine ⟨⟨by rw [List.length_take]; omega, fun i t u h1 h2 => ?_⟩, ⟨by rw [List.length_drop]; omega, fun i t u h1 h2 => ?_⟩⟩
  · have hi := (List.getElem?_eq_some_iff.1 h1).1
    rw [List.getElem?_take, if_pos hi] at h2
    exact h.2 i t u (by rw [List.getElem?_append_left hi]; exact h1) h2
  · rw [List.getElem?_drop] at h2
    exact h.2 (a.length + i) t u (by rw [List.getElem?_append_right (by omega), Nat.add_sub_cancel_left]; exact h1) h2
theorem scs_reps : ∀ {ks : List SK} {cs : List SV} {ts us : List Tm} {vs : List Value}, matchKs ks cs = some ts → SV.reps E β cs vs → SameL E E' ts us → SV.reps E' β' (scs ks us) vs
  | [], [], ts, us, vs, h, hr, hs => by
    simp only [matchKs, Option.some.injEq] at h
    subst h
    simp only [reps_nil] at hr
    subst hr
    simp [scs]
  | [], _ :: _, _, _, _, h, _, _ => by cases h
  | _ :: _, [], _, _, _, h, _, _ => by cases h
  | k :: ks, s :: cs, ts, us, vs, h, hr, hs => by
    simp only [matchKs] at h
    split at h
    · rename_i k' t
      split at h
      · rename_i ts' hk hm
        simp only [Option.some.injEq] at h
        subst h
        cases us with
        | nil => have := hs.1; simp at this
        | cons u us =>
          simp only [SV.reps] at hr
          obtain ⟨v, rest, rfl, h1, h2⟩ := hr
          simp only [scs, reps_cons]
          refine ⟨?_, scs_reps hm h2 hs.tail⟩
          have e := hs.2 0 t u rfl rfl
          simp only [SV.rep] at h1 ⊢
          rw [e, beqK_eq hk]; exact h1
      · cases h
    · cases h
theorem cellsR_rep {p : Bool × List SK} {s : SV} {ts us : List Tm} {v : Value} (h : cellsR p s = some ts) (hr : SV.rep E β s v) (hs : SameL E E' ts us) : ts.length = p.2.length ∧ SV.rep E' β' (mkC p us) v := by
  unfold cellsR at h
  split at h
  · rename_i ks cs
    simp only [SV.rep] at hr
    obtain ⟨vs, rfl, hvs⟩ := hr
    obtain ⟨_, e, _⟩ := matchKs_reps h hvs
    refine ⟨e, ?_⟩
    simp only [mkC, SV.rep]
    exact ⟨vs, rfl, scs_reps h hvs hs⟩
  · rename_i ks k t
    have hr' : SV.reps E β [.sc k t] [v] := by rw [reps_cons]; exact ⟨hr, by simp⟩
    obtain ⟨e0, e, _⟩ := matchKs_reps h hr'
    refine ⟨e, ?_⟩
    have g := scs_reps (β' := β') h hr' hs
    simp only [mkC]
    split
    · rename_i s hs1
      rw [hs1] at g
      simp only [reps_cons, reps_nil] at g
      exact g.1
    · simp [SV.rep]
  · cases h
theorem cellsRs_reps : ∀ {ps : List (Bool × List SK)} {ss : List SV} {ts us : List Tm} {vs : List Value}, cellsRs ps ss = some ts → SV.reps E β ss vs → SameL E E' ts us → SV.reps E' β' (mkCs ps us) vs
  | [], [], ts, us, vs, h, hr, hs => by
    simp only [reps_nil] at hr
    subst hr
    simp [mkCs]
  | [], _ :: _, _, _, _, h, _, _ => by cases h
  | _ :: _, [], _, _, _, h, _, _ => by cases h
  | p :: ps, s :: ss, ts, us, vs, h, hr, hs => by
    simp only [cellsRs] at h
    split at h
    · rename_i a b ha hb
      simp only [Option.some.injEq] at h
      subst h
      simp only [SV.reps] at hr
      obtain ⟨v, rest, rfl, h1, h2⟩ := hr
      obtain ⟨s1, s2⟩ := hs.split
      obtain ⟨e, g⟩ := cellsR_rep (β' := β') ha h1 s1
      simp only [mkCs, reps_cons]
      rw [← e]
      exact ⟨g, cellsRs_reps hb h2 s2⟩
    · cases h
theorem unR_rep {rp : Rp} {s : SV} {ts us : List Tm} {v : Value} (h : unR rp s = some ts) (hr : SV.rep E β s v) (hs : SameL E E' ts us) : SV.rep E' β' (mkR rp us) v := by
  unfold unR at h
  unfold mkR
  split at h
  · rename_i hb
    split at h
    · simp only [SV.rep] at hr
      obtain ⟨vs, rfl, hvs⟩ := hr
      simp only [SV.rep]
      exact ⟨vs, rfl, cellsRs_reps h hvs hs⟩
    · cases h
  · have hr' : SV.reps E β [s] [v] := by rw [reps_cons]; exact ⟨hr, by simp⟩
    have g := cellsRs_reps (β' := β') h hr' hs
    split
    · rename_i s' hs1
      rw [hs1] at g
      simp only [reps_cons, reps_nil] at g
      exact g.1
    · simp [SV.rep]
end

/-- A tree of ways as one term: the list of the results' cells. -/
def treeT (rp : Rp) : Out Res → Option Tm
  | .ret r => match unR rp r.v with
    | some ts => some (listT ts)
    | none => none
  | .br t x y => match treeT rp x, treeT rp y with
    | some a, some b => some (.ite t a b)
    | _, _ => none
  | .bad _ => none
theorem treeT_sel {E : Env} {rp : Rp} : ∀ {o : Out Res} {T : Tm}, treeT rp o = some T → ∃ r ts, o.sel E = some r ∧ unR rp r.v = some ts ∧ T.den E = (listT ts).den E
  | .ret r, T, h => by
    simp only [treeT] at h
    split at h
    · rename_i ts hts; cases h; exact ⟨r, ts, rfl, hts, rfl⟩
    · cases h
  | .bad _, T, h => by cases h
  | .br t x y, T, h => by
    simp only [treeT] at h
    split at h
    · rename_i a b ha hb
      cases h
      cases ht : (t.den E).toB with
      | true =>
        obtain ⟨r, ts, h1, h2, h3⟩ := treeT_sel (E := E) ha
        exact ⟨r, ts, by simp [Out.sel, ht, h1], h2, by simp [Tm.den, ht, h3]⟩
      | false =>
        obtain ⟨r, ts, h1, h2, h3⟩ := treeT_sel (E := E) hb
        exact ⟨r, ts, by simp [Out.sel, ht, h1], h2, by simp [Tm.den, ht, h3]⟩
    · cases h

def nths (a : Tm) : Nat → Nat → List Tm
  | 0, _ => []
  | n + 1, i => .nth i a :: nths a n (i + 1)
theorem nths_get {a : Tm} : ∀ {n i j : Nat} {t : Tm}, (nths a n i)[j]? = some t → t = .nth (i + j) a
  | 0, i, j, t, h => by simp [nths] at h
  | n + 1, i, 0, t, h => by simp [nths] at h; subst h; rfl
  | n + 1, i, j + 1, t, h => by
    have := nths_get (n := n) (i := i + 1) (j := j) (by simpa [nths] using h)
    rw [this, show i + 1 + j = i + (j + 1) by omega]
theorem nths_length (a : Tm) : ∀ n i, (nths a n i).length = n
  | 0, _ => rfl
  | n + 1, i => by simp [nths, nths_length a n (i + 1)]

/-! Assumptions -/
def substF (ts : List Tm) : PC → PC
  | [] => []
  | (t, b) :: r => (t.subst ts, b) :: substF ts r
/-- What is assumed is asked where it isn't known. -/
def forkAs (yes no : PC → Out Res) : PC → PC → Out Res
  | [], pc => yes pc
  | (t, b) :: r, pc => match b with
    | true => fork pc t (forkAs yes no r) no
    | false => fork pc t no (forkAs yes no r)
theorem forkAs_sel {E : Env} {yes no : PC → Out Res} : ∀ {as pc : PC} {r : Res}, PcOk E pc → (forkAs yes no as pc).sel E = some r → ∃ pc', PcOk E pc' ∧ ((PcOk E as ∧ (yes pc').sel E = some r) ∨ (no pc').sel E = some r)
  | [], pc, r, hp, h => ⟨pc, hp, .inl ⟨fun p hp => (by cases hp), h⟩⟩
  | (t, b) :: as, pc, r, hp, h => by
    simp only [forkAs] at h
    cases b
    rotate_left
    · obtain ⟨pc1, hp1, h1⟩ := fork_sel hp h
      rcases h1 with ⟨ht, h1⟩ | ⟨ht, h1⟩
      · obtain ⟨pc2, hp2, h2⟩ := forkAs_sel hp1 h1
        exact ⟨pc2, hp2, h2.imp (fun g => ⟨g.1.cons ht, g.2⟩) id⟩
      · exact ⟨pc1, hp1, .inr h1⟩
    · obtain ⟨pc1, hp1, h1⟩ := fork_sel hp h
      rcases h1 with ⟨ht, h1⟩ | ⟨ht, h1⟩
      · exact ⟨pc1, hp1, .inr h1⟩
      · obtain ⟨pc2, hp2, h2⟩ := forkAs_sel hp1 h1
        exact ⟨pc2, hp2, h2.imp (fun g => ⟨g.1.cons ht, g.2⟩) id⟩
def sumQ (ps : List Pa) (as : PC) (mk : List Tm → SV) (els : Sum) : Sum := fun args m pc =>
  match matchP m.mem pc ps args with
  | some ts => forkAs (fun pc => val m pc (mk ts)) (els args m) (substF ts as) pc
  | none => els args m pc
def callQ (P : Program) (ctx : Ctx) (n f : Nat) (ps : List Pa) (pc : PC) : Out Res :=
  call ctx P n f (bldP ps 0 0).svs ⟨(bldP ps 0 0).mem, (bldP ps 0 0).j, 2 ^ 256, 2 ^ 200⟩ (pc ++ (bldP ps 0 0).pc)
def undersF (n : Nat) : PC → Bool
  | [] => true
  | (t, _) :: r => match t.under n with | true => undersF n r | false => false

section
variable {P : Program} {E : Env}
theorem substF_ok {E' : Env} {ts : List Tm} (hv : ∀ (i : Nat) (t : Tm), ts[i]? = some t → E'.v i = t.den E) (hf : E'.fn = E.fn) : ∀ {as : PC}, undersF ts.length as = true → PcOk E (substF ts as) → PcOk E' as
  | [], _, _ => fun p hp => by cases hp
  | (t, b) :: r, hu, h => by
    simp only [undersF] at hu
    split at hu
    · rename_i h1
      intro p hp
      rcases List.mem_cons.1 hp with rfl | hp
      · have := h _ (List.mem_cons_self ..)
        simp only [subst_den hv hf h1] at this
        exact this
      · exact substF_ok hv hf hu (fun q hq => h q (List.mem_cons_of_mem _ hq)) p hp
    · cases hu
/-- A CONTRACT UNDER ASSUMPTIONS, OUT OF THE EXECUTOR'S OWN RECKONING. -/
theorem sumQ_ok {ctx : Ctx} {n f : Nat} {ps : List Pa} {as pcx : PC} {mk : List Tm → SV} {els : Sum} (hC : ∀ E' : Env, E'.fn = E.fn → CtxOk P E' ctx ∧ CtxPc E' ctx)
    (hN : Named P) (hmix : P.follows .mixedOrders = true) (hj : (Nat.ble (bldP ps 0 0).j 1000 && undersF (bldP ps 0 0).n as) = true)
    (hx : ∀ E' : Env, E'.fn = E.fn → PcOk E' as → PcOk E' pcx)
    (hk : ∀ (E' : Env) (ts : List Tm), E'.fn = E.fn → PcOk E' (pcx ++ (bldP ps 0 0).pc) → (bldP ps 0 0).n = ts.length → (∀ (i : Nat) (t : Tm), ts[i]? = some t → E'.v i = t.den E) →
      ∃ r, (callQ P ctx n f ps pcx).sel E' = some r ∧ ∀ β' β v, SV.rep E' β' r.v v → SV.rep E β (mk ts) v)
    (hels : SumOk P E f els) : SumOk P E f (sumQ ps as mk els) := by
  simp only [Bool.and_eq_true] at hj
  intro args m pc r hr β w vals hreps hm hf hl hp
  unfold sumQ at hr
  split at hr
  · rename_i ts hts
    obtain ⟨pc1, hp1, hc⟩ := forkAs_sel hp hr
    rcases hc with ⟨has, hr⟩ | hr
    · simp only [val, Out.sel, Option.some.injEq] at hr
      subst hr
      obtain ⟨e1, bss, e2, hall⟩ := matchP_ok P hp hm (n := 0) (j := 0) hts hreps
      rw [Nat.zero_add] at e1 e2
      let E' : Env := ⟨fun i => (ts[i]?.map (Tm.den E)).getD .nil, E.fn⟩
      let β' : Pl := fun i => bss[i]?
      have hE : ∀ (i : Nat) (t : Tm), ts[i]? = some t → E'.v i = t.den E := fun i t hi => by simp [E', hi]
      obtain ⟨g1, g2, g3⟩ := hall E' β' (fun i t hi => by rw [Nat.zero_add]; exact hE i t hi) (fun i x hi => by rw [Nat.zero_add]; exact hi)
      have hpx : PcOk E' (pcx ++ (bldP ps 0 0).pc) := fun p hp => by
        rcases List.mem_append.1 hp with hp | hp
        · exact hx E' rfl (substF_ok hE rfl (by rw [← e1]; exact hj.2) has) p hp
        · exact g3 p hp
      obtain ⟨r0, hr0, e3⟩ := hk E' ts rfl hpx e1 hE
      unfold callQ at hr0
      obtain ⟨_, _, hfn, hcalls⟩ := call_ok (hC E' rfl).1 (hC E' rfl).2 hN hmix n f (bldP ps 0 0).svs ⟨(bldP ps 0 0).mem, (bldP ps 0 0).j, 2 ^ 256, 2 ^ 200⟩ (pcx ++ (bldP ps 0 0).pc) r0 hr0 β' w vals g1 g2
        (fun i hi _ => by simp only [β']; exact List.getElem?_eq_none (by simp only at hi; omega)) (Nat.le_trans (Nat.le_of_ble_eq_true hj.1) (show 1000 ≤ 2 ^ 256 by decide)) hpx
      refine ⟨hp1, hl, hfn, hcalls.mono fun e w' ⟨v, β'', he, hv', hst⟩ => ?_⟩
      exact ⟨v, β, he, e3 β'' β v hv', Step.same _ hst.below⟩
    · exact hels args m pc1 r hr β w vals hreps hm hf hl hp1
  · exact hels args m pc r hr β w vals hreps hm hf hl hp
theorem sumQ_pc {ps : List Pa} {as : PC} {mk : List Tm → SV} {els : Sum} (hels : ∀ args m pc, PcOk E pc → Pcs E Res.pc (els args m pc)) (args : List SV) (m : Mm) (pc : PC) (hp : PcOk E pc) : Pcs E Res.pc (sumQ ps as mk els args m pc) := by
  unfold sumQ
  split
  · intro r hr
    obtain ⟨pc1, hp1, hc⟩ := forkAs_sel hp hr
    rcases hc with ⟨_, hr⟩ | hr
    · simp only [val, Out.sel, Option.some.injEq] at hr
      subst hr
      exact hp1
    · exact hels args m pc1 hp1 r hr
  · exact hels args m pc hp
/-- The contract: several results, each a part of the named function's value. -/
def sumR (ps : List Pa) (as : PC) (rp : Rp) (N id : Nat) (els : Sum) : Sum := sumQ ps as (fun ts => mkR rp (nths (.app id (listT ts)) N 0)) els
def treeIs (rp : Rp) (o : Out Res) (D : Tm) : Bool :=
  match treeT rp o with
  | some T => T.beq D
  | none => false
/-- The number of a result's cells. -/
def sizeR : List (Bool × List SK) → Nat
  | [] => 0
  | p :: r => p.2.length + sizeR r
theorem unR_length {rp : Rp} {v : SV} {ts : List Tm} (h : unR rp v = some ts) : ts.length = sizeR rp.2 := by
  have one : ∀ {ks : List SK} {cs : List SV} {ts : List Tm}, matchKs ks cs = some ts → ts.length = ks.length := by
    intro ks
    induction ks with
    | nil => intro cs ts h; cases cs <;> simp [matchKs] at h; subst h; rfl
    | cons k ks ih =>
      intro cs ts h
      cases cs with
      | nil => simp [matchKs] at h
      | cons s cs =>
        simp only [matchKs] at h
        split at h
        · split at h
          · rename_i hm
            cases h
            simp [ih hm]
          · cases h
        · cases h
  have all : ∀ {ps : List (Bool × List SK)} {ss : List SV} {ts : List Tm}, cellsRs ps ss = some ts → ts.length = sizeR ps := by
    intro ps
    induction ps with
    | nil => intro ss ts h; cases ss <;> simp [cellsRs] at h; subst h; rfl
    | cons p ps ih =>
      intro ss ts h
      cases ss with
      | nil => simp [cellsRs] at h
      | cons s ss =>
        simp only [cellsRs] at h
        split at h
        · rename_i a b ha hb
          cases h
          have : a.length = p.2.length := by
            unfold cellsR at ha
            split at ha
            · exact one ha
            · exact one ha
            · cases ha
          simp [sizeR, this, ih hb]
        · cases h
  unfold unR at h
  split at h
  · split at h
    · exact all h
    · cases h
  · exact all h
theorem sumR_ok {ctx : Ctx} {n f N id : Nat} {ps : List Pa} {as pcx : PC} {rp : Rp} {D : Tm} {els : Sum} (hC : ∀ E' : Env, E'.fn = E.fn → CtxOk P E' ctx ∧ CtxPc E' ctx)
    (hN : Named P) (hmix : P.follows .mixedOrders = true) (hD : ∀ c, E.fn id c = D.den ⟨fun i => c.at_ i, E.fn⟩)
    (hj : (Nat.ble (bldP ps 0 0).j 1000 && undersF (bldP ps 0 0).n as) = true) (hu : (D.under (bldP ps 0 0).n && Nat.beq N (sizeR rp.2)) = true)
    (hx : ∀ E' : Env, E'.fn = E.fn → PcOk E' as → PcOk E' pcx) (hk : treeIs rp (callQ P ctx n f ps pcx) D = true) (hels : SumOk P E f els) : SumOk P E f (sumR ps as rp N id els) := by
  simp only [Bool.and_eq_true] at hu
  refine sumQ_ok (n := n) hC hN hmix hj hx (fun E' ts hfn hp hn hE => ?_) hels
  unfold treeIs at hk
  split at hk
  · rename_i T hT
    have e := Tm.beq_eq hk
    subst e
    obtain ⟨r, cs, h1, h2, h3⟩ := treeT_sel (E := E') hT
    refine ⟨r, h1, fun β' β v hv => ?_⟩
    have hlen := unR_length h2
    have hN' : N = sizeR rp.2 := Nat.eq_of_beq_eq_true hu.2
    refine unR_rep h2 hv ⟨by rw [nths_length]; omega, fun i t u g1 g2 => ?_⟩
    have eu := nths_get g2
    rw [Nat.zero_add] at eu
    subst eu
    simp only [Tm.den]
    rw [hD]
    have e2 : T.den E' = T.den ⟨fun i => ((listT ts).den E).at_ i, E.fn⟩ := under_den (E' := ⟨fun i => ((listT ts).den E).at_ i, E.fn⟩) (n := (bldP ps 0 0).n) (fun i hi => by
      rw [hn] at hi
      have ht : ts[i]? = some ts[i] := List.getElem?_eq_getElem hi
      rw [hE i _ ht]
      exact (listT_at ht).symm) hfn hu.1
    rw [← e2, h3]
    exact listT_at g1
  · cases hk
end
/-! Another way where a contract doesn't fit -/
def orS (S els : Sum) : Sum := fun args m pc =>
  match S args m pc with
  | .bad _ => els args m pc
  | o => o
section
variable {P : Program} {E : Env}
theorem orS_ok {f : Nat} {S els : Sum} (h : SumOk P E f S) (k : SumOk P E f els) : SumOk P E f (orS S els) := by
  intro args m pc r hr
  unfold orS at hr
  split at hr
  · exact k args m pc r hr
  · exact h args m pc r hr
theorem orS_pc {S els : Sum} (h : ∀ args m pc, PcOk E pc → Pcs E Res.pc (S args m pc)) (k : ∀ args m pc, PcOk E pc → Pcs E Res.pc (els args m pc)) (args : List SV) (m : Mm) (pc : PC) (hp : PcOk E pc) : Pcs E Res.pc (orS S els args m pc) := by
  unfold orS
  split
  · exact k args m pc hp
  · exact h args m pc hp
/-- Each contract of a list, with the executor's own reckoning where it doesn't fit. -/
def orL (ctx0 : Ctx) (P : Program) (n : Nat) : List (Nat × Sum) → List (Nat × Sum)
  | [] => []
  | (f, S) :: r => (f, orS S (call ctx0 P n f)) :: orL ctx0 P n r
theorem orL_sum {ctx0 : Ctx} {n : Nat} : ∀ {l : List (Nat × Sum)} {f : Nat} {S : Sum}, sumL (orL ctx0 P n l) f = some S → ∃ S0, sumL l f = some S0 ∧ S = orS S0 (call ctx0 P n f)
  | [], f, S, h => by cases h
  | (g, S1) :: r, f, S, h => by
    simp only [orL, sumL] at h ⊢
    split at h
    · rename_i hg
      cases h
      rw [Nat.eq_of_beq_eq_true hg]
      exact ⟨S1, rfl, rfl⟩
    · exact orL_sum h
theorem orL_ok {ctx0 : Ctx} {n : Nat} {l : List (Nat × Sum)} (hN : Named P) (hmix : P.follows .mixedOrders = true) (h : CtxOk P E (ctxL l) ∧ CtxPc E (ctxL l)) (h0 : CtxOk P E ctx0 ∧ CtxPc E ctx0) :
    CtxOk P E (ctxL (orL ctx0 P n l)) ∧ CtxPc E (ctxL (orL ctx0 P n l)) := by
  refine ⟨⟨fun f S hf => ?_, fun c L h => (by cases h), fun f as σ o h => (by cases h)⟩, ⟨fun f S hf => ?_, fun c L h => (by cases h), fun f as σ o h => (by cases h)⟩⟩
  · obtain ⟨S0, e1, rfl⟩ := orL_sum hf
    exact orS_ok (h.1.sum f S0 e1) (call_ok h0.1 h0.2 hN hmix n f)
  · obtain ⟨S0, e1, rfl⟩ := orL_sum hf
    exact orS_pc (h.2.sum f S0 e1) (call_pc h0.2 n f)
end
end Go.Sx
