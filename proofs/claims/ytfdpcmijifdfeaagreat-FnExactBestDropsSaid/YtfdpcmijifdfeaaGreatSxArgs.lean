/- From the arguments of a law to symbolic values; the law's call returns true. No condition. -/
import Derived.Test.YtfdpcmijifdfeaaGreatSxSound
import Derived.ChangeShapes
import Derived.OpenShut
import Derived.Carry
set_option linter.unusedVariables false
set_option linter.unusedSimpArgs false
noncomputable section
namespace Go.Sx
open Go Go.RowKit Go.ChangeShapes

def skOf (P : Program) (t : TypeId) : Option SK :=
  match P.underlying t with
  | some .bool => some .bool
  | some (.int k) => some (.int k)
  | some (.float k) => some (.float k)
  | some .string => some .str
  | _ => none

def kinds (P : Program) : List TypeId → Option (List SK)
  | [] => some []
  | t :: r => match skOf P t, kinds P r with
    | some k, some l => some (k :: l)
    | _, _ => none

def sym : List SK → Nat → List SV
  | [], _ => []
  | k :: r, n => .sc k (.var n) :: sym r (n + 1)

/-- The symbolic argument of a type whose cells are all of plain kinds, its variables from n on; and the next variable. -/
def argOf (P : Program) (n : Nat) (t : TypeId) : Option (SV × Nat) :=
  match P.underlying t with
  | some (.struct _) | some (.array _ _) => match P.cellTypes P.depth t with
    | some ts => match kinds P ts, Nat.beq (P.cellsOf t) ts.length with
      | some ks, true => some (.agg (sym ks n), n + ks.length)
      | _, _ => none
    | none => none
  | _ => match skOf P t with
    | some k => some (.sc k (.var n), n + 1)
    | none => none
def argsOf (P : Program) (n : Nat) : List TypeId → Option (List SV × Nat)
  | [] => some ([], n)
  | t :: r => match argOf P n t with
    | some (s, n') => match argsOf P n' r with
      | some (l, m) => some (s :: l, m)
      | none => none
    | none => none

def scOf : Value → Sc
  | .bool b => .b b
  | .int _ n => .i n
  | .float k x => .f (canon k x)
  | .string s => .s s.data.toList
  | _ => .nil
def flat : List Value → List Value
  | [] => []
  | .agg cs :: r => cs.toList ++ flat r
  | v :: r => v :: flat r
def envOf (args : List Value) : Env := ⟨fun i => ((flat args)[i]?.map scOf).getD .nil, fun _ _ => .nil⟩

section
variable {P : Program} {w : World} {r : Reach} {base : Nat} {E : Env} {β : Pl}

theorem cell_rep {t : TypeId} {k : SK} {v : Value} (hk : skOf P t = some k) (h : Cell.okWide P w r base t v) : k.rep (scOf v) v := by
  unfold skOf at hk
  unfold Cell.okWide Cell.ok at h
  split at hk
  all_goals (first | cases hk | skip)
  all_goals rename_i hu
  all_goals simp only [hu] at h
  all_goals (cases v <;> simp_all [SK.rep, scOf, Sc.toB, Sc.toI, Sc.toF, Sc.toS])

theorem sym_reps : ∀ (ks : List SK) (n : Nat) (vs : List Value), ks.length = vs.length → (∀ (i : Nat) (k : SK) (v : Value), ks[i]? = some k → vs[i]? = some v → k.rep (E.v (n + i)) v) → SV.reps E β (sym ks n) vs
  | [], _, [], _, _ => by simp [sym]
  | k :: ks, n, v :: vs, hl, h => by
    simp only [sym, reps_cons]
    refine ⟨h 0 k v rfl rfl, sym_reps ks (n + 1) vs (by simpa using hl) fun i k' v' h1 h2 => ?_⟩
    have := h (i + 1) k' v' (by simpa using h1) (by simpa using h2)
    rwa [show n + 1 + i = n + (i + 1) by omega]
  | [], _, _ :: _, h, _ => by simp at h
  | _ :: _, _, [], h, _ => by simp at h

theorem kinds_get : ∀ {ts : List TypeId} {ks : List SK}, kinds P ts = some ks → ks.length = ts.length ∧ ∀ (i : Nat) (t : TypeId) (k : SK), ts[i]? = some t → ks[i]? = some k → skOf P t = some k
  | [], ks, h => by simp only [kinds, Option.some.injEq] at h; subst h; simp
  | t :: ts, ks, h => by
    simp only [kinds] at h
    split at h
    · rename_i k l hk hl
      simp only [Option.some.injEq] at h
      subst h
      obtain ⟨h1, h2⟩ := kinds_get hl
      refine ⟨by simp [h1], fun i t' k' ht hk' => ?_⟩
      cases i with
      | zero => simp at ht hk'; subst ht; subst hk'; exact hk
      | succ i => exact h2 i t' k' (by simpa using ht) (by simpa using hk')
    · cases h

theorem argOf_rep {n n' : Nat} {t : TypeId} {s : SV} {v : Value} (ha : argOf P n t = some (s, n')) (h : Value.okWide P w r base t v)
    (hE : ∀ (i : Nat) (u : Value), (flat [v])[i]? = some u → E.v (n + i) = scOf u) : SV.rep E β s v ∧ n' = n + (flat [v]).length := by
  have whole : ∀ cs ks, v = .agg cs → cs.size = P.cellsOf t → Row.okWide P w r base t cs → ∀ ts, P.cellTypes P.depth t = some ts → kinds P ts = some ks → Nat.beq (P.cellsOf t) ts.length = true →
      SV.rep E β (.agg (sym ks n)) v ∧ n + ks.length = n + (flat [v]).length := by
    intro cs ks hv hs hrow ts hts hks hl
    subst hv
    obtain ⟨ts', h1, _, h3⟩ := hrow
    rw [hts] at h1
    cases h1
    have hl' := Nat.eq_of_beq_eq_true hl
    obtain ⟨k1, k2⟩ := kinds_get hks
    have hlen : ks.length = cs.toList.length := by simp [k1, hs, hl']
    refine ⟨?_, by simp [flat, hlen]⟩
    simp only [SV.rep]
    refine ⟨cs, rfl, sym_reps ks n _ hlen fun i k u hk hu => ?_⟩
    have hi : i < ts.length := by
      have := (List.getElem?_eq_some_iff.1 hk).1
      omega
    obtain ⟨t', ht', hc⟩ := h3 i u (by simpa using hu)
    rw [Nat.mod_eq_of_lt hi] at ht'
    have e : E.v (n + i) = scOf u := hE i u (by simpa [flat] using hu)
    rw [e]
    exact cell_rep (k2 i t' k ht' hk) hc
  unfold argOf at ha
  unfold Value.okWide at h
  split at ha
  · rename_i fs hu
    simp only [hu] at h
    obtain ⟨cs, hv, hs, hrow⟩ := h
    split at ha
    · rename_i ts hts
      split at ha
      · rename_i ks hks hl
        simp only [Option.some.injEq, Prod.mk.injEq] at ha
        obtain ⟨rfl, rfl⟩ := ha
        exact whole cs ks hv hs hrow ts hts hks hl
      · cases ha
    · cases ha
  · rename_i m e hu
    simp only [hu] at h
    obtain ⟨cs, hv, hs, hrow⟩ := h
    split at ha
    · rename_i ts hts
      split at ha
      · rename_i ks hks hl
        simp only [Option.some.injEq, Prod.mk.injEq] at ha
        obtain ⟨rfl, rfl⟩ := ha
        exact whole cs ks hv hs hrow ts hts hks hl
      · cases ha
    · cases ha
  · rename_i h1 h2
    split at ha
    · rename_i k hk
      simp only [Option.some.injEq, Prod.mk.injEq] at ha
      obtain ⟨rfl, rfl⟩ := ha
      have hc : Cell.okWide P w r base t v := by
        split at h
        · rename_i fs hu; exact absurd hu (h1 fs)
        · rename_i m e hu; exact absurd hu (h2 m e)
        · exact h
      have hr := cell_rep hk hc
      have hfl : flat [v] = [v] := by
        cases v <;> simp [flat]
        cases k <;> simp [SK.rep] at hr
      refine ⟨?_, by simp [hfl]⟩
      simp only [SV.rep, Tm.den]
      rw [show E.v n = scOf v from hE 0 v (by simp [hfl])]
      exact hr
    · cases ha

theorem flat_cons (v : Value) (vs : List Value) : flat (v :: vs) = flat [v] ++ flat vs := by
  cases v <;> simp [flat]

theorem argsOf_len : ∀ {ts : List TypeId} {n m : Nat} {ss : List SV} {vs : List Value}, argsOf P n ts = some (ss, m) → vs.length = ts.length →
    (∀ (i : Nat) (t : TypeId) (v : Value), ts[i]? = some t → vs[i]? = some v → Value.okWide P w r base t v) → m = n + (flat vs).length
  | [], n, m, ss, vs, h, hl, _ => by
    simp only [argsOf, Option.some.injEq, Prod.mk.injEq] at h
    have : vs = [] := by simpa using hl
    subst this
    simp [flat, h.2]
  | t :: ts, n, m, ss, [], h, hl, _ => by simp at hl
  | t :: ts, n, m, ss, v :: vs, h, hl, hv => by
    simp only [argsOf] at h
    split at h
    · rename_i s n' hs
      split at h
      · rename_i l k hr
        simp only [Option.some.injEq, Prod.mk.injEq] at h
        obtain ⟨_, rfl⟩ := h
        obtain ⟨_, h2⟩ := argOf_rep (E := ⟨fun i => ((flat [v])[i - n]?.map scOf).getD .nil, fun _ _ => .nil⟩) (β := fun _ => none) hs (hv 0 t v rfl rfl) fun i u hu => by
          simp only [Nat.add_sub_cancel_left, hu, Option.map_some, Option.getD_some]
        have h3 := argsOf_len hr (by simpa using hl) (fun i t' v' ht hv' => hv (i + 1) t' v' (by simpa using ht) (by simpa using hv'))
        rw [flat_cons, List.length_append]
        omega
      · cases h
    · cases h
theorem argsOf_reps : ∀ {ts : List TypeId} {n m : Nat} {ss : List SV} {vs : List Value}, argsOf P n ts = some (ss, m) → vs.length = ts.length →
    (∀ (i : Nat) (t : TypeId) (v : Value), ts[i]? = some t → vs[i]? = some v → Value.okWide P w r base t v) → (∀ (i : Nat) (u : Value), (flat vs)[i]? = some u → E.v (n + i) = scOf u) → SV.reps E β ss vs
  | [], n, m, ss, vs, h, hl, _, _ => by
    simp only [argsOf, Option.some.injEq, Prod.mk.injEq] at h
    obtain ⟨rfl, rfl⟩ := h
    simpa using hl
  | t :: ts, n, m, ss, [], h, hl, _, _ => by simp at hl
  | t :: ts, n, m, ss, v :: vs, h, hl, hv, hE => by
    simp only [argsOf] at h
    split at h
    · rename_i s n' hs
      split at h
      · rename_i l k hr
        simp only [Option.some.injEq, Prod.mk.injEq] at h
        obtain ⟨rfl, rfl⟩ := h
        rw [flat_cons] at hE
        obtain ⟨h1, h2⟩ := argOf_rep (E := E) (β := β) hs (hv 0 t v rfl rfl) fun i u hu => hE i u (by rw [List.getElem?_append_left (List.getElem?_eq_some_iff.1 hu).1]; exact hu)
        rw [reps_cons]
        refine ⟨h1, argsOf_reps hr (by simpa using hl) (fun i t' v' ht hv' => hv (i + 1) t' v' (by simpa using ht) (by simpa using hv')) fun i u hu => ?_⟩
        have := hE ((flat [v]).length + i) u (by rw [List.getElem?_append_right (by omega)]; simpa using hu)
        rw [h2]
        rwa [show n + (flat [v]).length + i = n + ((flat [v]).length + i) by omega]
      · cases h
    · cases h

/-! Terms that are given names -/
def Tm.under (n : Nat) : Tm → Bool
  | .var m => Nat.blt m n
  | .cons a b => a.under n && b.under n
  | .op _ a b => a.under n && b.under n
  | .ite c a b => c.under n && (a.under n && b.under n)
  | .app _ a => a.under n
  | .nth _ a => a.under n
  | _ => true
theorem under_den {E E' : Env} {n : Nat} (hv : ∀ m, m < n → E.v m = E'.v m) (hf : E.fn = E'.fn) : ∀ {t : Tm}, t.under n = true → t.den E = t.den E' := by
  intro t
  induction t with
  | var m => intro h; exact hv m (by simp only [Tm.under, Nat.blt] at h; exact Nat.le_of_ble_eq_true h)
  | cons a b ha hb => intro h; simp only [Tm.under, Bool.and_eq_true] at h; simp only [Tm.den, ha h.1, hb h.2]
  | op o a b ha hb => intro h; simp only [Tm.under, Bool.and_eq_true] at h; simp only [Tm.den, ha h.1, hb h.2]
  | ite c a b hc ha hb => intro h; simp only [Tm.under, Bool.and_eq_true] at h; simp only [Tm.den, hc h.1, ha h.2.1, hb h.2.2]
  | app f a ha => intro h; simp only [Tm.den, ha h, hf]
  | nth k a ha => intro h; simp only [Tm.den, ha h]
  | _ => intro _; rfl
def defsPc : Nat → List Tm → PC
  | _, [] => []
  | b, t :: r => (.op .eqv (.var b) t, true) :: defsPc (b + 1) r
def defsOk : Nat → List Tm → Bool
  | _, [] => true
  | b, t :: r => match t.under b with
    | true => defsOk (b + 1) r
    | false => false
noncomputable def extD (E : Env) : Nat → List Tm → Env
  | _, [] => E
  | b, t :: r => extD ⟨fun m => if m = b then t.den E else E.v m, E.fn⟩ (b + 1) r
theorem extD_old : ∀ (D : List Tm) {E : Env} {b m : Nat}, m < b → (extD E b D).v m = E.v m
  | [], _, _, _, _ => rfl
  | t :: r, E, b, m, h => by
    simp only [extD]
    rw [extD_old r (Nat.lt_succ_of_lt h)]
    simp only
    rw [if_neg (Nat.ne_of_lt h)]
theorem extD_fn : ∀ (D : List Tm) {E : Env} {b : Nat}, (extD E b D).fn = E.fn
  | [], _, _ => rfl
  | t :: r, E, b => by simp only [extD]; rw [extD_fn r]
theorem extD_pc : ∀ (D : List Tm) {E : Env} {b : Nat}, defsOk b D = true → PcOk (extD E b D) (defsPc b D)
  | [], _, _, _ => fun p hp => by cases hp
  | t :: r, E, b, h => by
    simp only [defsOk] at h
    split at h
    · rename_i ht
      intro p hp
      simp only [defsPc] at hp
      rcases List.mem_cons.1 hp with rfl | hp
      · show decide _ = true
        refine decide_eq_true ?_
        show (extD _ (b + 1) r).v b = t.den (extD _ (b + 1) r)
        rw [extD_old r (Nat.lt_succ_self b)]
        simp only [if_true]
        exact under_den (fun m hm => by rw [extD_old r (Nat.lt_succ_of_lt hm)]; simp only; rw [if_neg (Nat.ne_of_lt hm)]) (by rw [extD_fn r]) ht
      · exact extD_pc r h p hp
    · cases h

theorem named_of (h : P.funcs.toList.all (fun fn => !(fn.name == "runtime.NumGoroutine")) = true) : Named P := by
  intro f fn hf
  have : fn ∈ P.funcs.toList := by
    rw [Array.mem_toList_iff]
    exact Array.mem_of_getElem? hf
  simpa using List.all_eq_true.1 h fn this

def mBare : Mm := ⟨[], 0, 2 ^ 256, 2 ^ 200⟩

/-- The law's tree, its arguments named by variables; some terms have names of their own, from variable b on. -/
def lawTrueD (P : Program) (n f : Nat) (ts : List TypeId) (b : Nat) (D : List Tm) : Bool :=
  match argsOf P 0 ts with
  | some (ss, m) => match Nat.ble m b, defsOk b D with
    | true, true => allTrue (call ⟨fun _ => none, fun _ => false, fun _ => none, fun _ _ _ => none, false⟩ P n f ss mBare (defsPc b D))
    | _, _ => false
  | none => false
def lawTrue (P : Program) (n f : Nat) (ts : List TypeId) : Bool := lawTrueD P n f ts 100000 []

/-- A LAW WHOSE ARGUMENTS ARE PLAIN, AND WHOSE TREE IS TRUE AT EACH LEAF, RETURNS TRUE AND TOUCHES NOTHING. -/
theorem law_holdsD {n f b : Nat} {D : List Tm} {ts : List TypeId} {args : Array Value} (hN : P.funcs.toList.all (fun fn => !(fn.name == "runtime.NumGoroutine")) = true)
    (hmix : P.follows .mixedOrders = true) (hk : lawTrueD P n f ts b D = true)
    (hl : args.toList.length = ts.length) (hv : ∀ (j : Nat) t v, ts.toArray[j]? = some t → args[j]? = some v → Value.okWide P w r base t v) :
    Calls P f args w fun e w' => e = .returned (.bool true) ∧ Below w.heap.size w w' := by
  unfold lawTrueD at hk
  split at hk
  · rename_i ss m ha
    split at hk
    · rename_i hb hD
      have hv' : ∀ (i : Nat) (t : TypeId) (v : Value), ts[i]? = some t → args.toList[i]? = some v → Value.okWide P w r base t v := fun i t v ht hv' => hv i t v (by simpa using ht) (by simpa using hv')
      let E := extD (envOf args.toList) b D
      have hm := argsOf_len ha hl hv'
      have hreps : SV.reps E (fun _ => none) ss args.toList := argsOf_reps (E := E) ha hl hv' fun i u hu => by
        have hi := (List.getElem?_eq_some_iff.1 hu).1
        have hb' := Nat.le_of_ble_eq_true hb
        simp only [E]
        rw [extD_old D (by omega)]
        simp only [envOf, Nat.zero_add, hu, Option.map_some, Option.getD_some]
      have hC : CtxOk P E ⟨fun _ => none, fun _ => false, fun _ => none, fun _ _ _ => none, false⟩ := ⟨fun f S h => (by cases h), fun c L h => (by cases h), fun f as σ o h => (by cases h)⟩
      have hCp : CtxPc E ⟨fun _ => none, fun _ => false, fun _ => none, fun _ _ _ => none, false⟩ := ⟨fun f S h => (by cases h), fun c L h => (by cases h), fun f as σ o h => (by cases h)⟩
      have hpc0 : PcOk E (defsPc b D) := extD_pc D hD
      obtain ⟨res, t, h1, h2, h3⟩ := allTrue_ok (pc := []) hk (call_pc (P := P) hCp n f ss mBare _ hpc0)
      obtain ⟨_, _, _, hcalls⟩ := call_ok hC hCp (named_of hN) hmix n f ss mBare _ res h1 (fun _ => none) w args.toList hreps (fun j sb h => by cases h) (fun _ _ _ => rfl) (by decide) hpc0
      have e : args.toList.toArray = args := by simp
      rw [e] at hcalls
      refine hcalls.mono fun e w' ⟨v, β', he, hv', hst⟩ => ?_
      rw [h2] at hv'
      have hb := bool_rep (t := t) (E := E) hv'
      rw [h3] at hb
      subst hb
      exact ⟨he, hst.below⟩
    · cases hk
  · cases hk
theorem law_holds {n f : Nat} {ts : List TypeId} {args : Array Value} (hN : P.funcs.toList.all (fun fn => !(fn.name == "runtime.NumGoroutine")) = true)
    (hmix : P.follows .mixedOrders = true) (hk : lawTrue P n f ts = true)
    (hl : args.toList.length = ts.length) (hv : ∀ (j : Nat) t v, ts.toArray[j]? = some t → args[j]? = some v → Value.okWide P w r base t v) :
    Calls P f args w fun e w' => e = .returned (.bool true) ∧ Below w.heap.size w w' := law_holdsD hN hmix hk hl hv
end

section
variable {H : Type} {enc : TypeId × Value → H} {P : Program}
def readable (P : Program) (ts : List TypeId) : Bool := ts.all fun t => P.readableRec t && decide (t < P.types.size)
theorem trodAll_length {w : World} {b : Nat} {sp : Nat → Bool} {held : Bool} : ∀ {ts : List TypeId} {vs : List Value} {ds : List (DataW H)} {ps : List MemPlace}, DataW.TrodAll enc P w b sp held ts vs ds ps → vs.length = ts.length
  | [], vs, ds, ps, h => by obtain ⟨rfl, _, _⟩ := trodAll_nil h; rfl
  | t :: ts, vs, ds, ps, h => by
    obtain ⟨v, vs', d, ds', p, q, rfl, rfl, rfl, _, h2⟩ := trodAll_cons h
    simp [trodAll_length h2]
theorem trodAll_below (hl : laidOutB P = true) {W W' : World} (hb : Below W.heap.size W W') : ∀ {ts : List TypeId} {vs : List Value} {ds : List (DataW H)} {ps : List MemPlace}, readable P ts = true →
    DataW.TrodAll enc P W 0 (fun _ => true) true ts vs ds ps → DataW.TrodAll enc P W' 0 (fun b => decide (b < W.heap.size)) true ts vs ds ps
  | [], vs, ds, ps, _, h => by obtain ⟨rfl, rfl, rfl⟩ := trodAll_nil h; exact trodAll_mk0
  | t :: ts, vs, ds, ps, hr, h => by
    obtain ⟨v, vs', d, ds', p, q, rfl, rfl, rfl, h1, h2⟩ := trodAll_cons h
    simp only [readable, List.all_cons, Bool.and_eq_true, decide_eq_true_eq] at hr
    refine trodAll_cons_mk (Below.trod hl hr.1.1 hr.1.2 h1 hb ?_) (trodAll_below hl hb hr.2 h2)
    obtain ⟨m, hm⟩ := h1
    exact DataW.trod_lt m _ _ _ hm
end
end Go.Sx
