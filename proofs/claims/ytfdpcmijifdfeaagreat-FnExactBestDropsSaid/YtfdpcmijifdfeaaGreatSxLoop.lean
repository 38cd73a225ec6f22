/- Loops whose number of rounds is open: the executor reckons one round, a law in plain Lean says where the rounds end. No condition. -/
import Derived.Test.YtfdpcmijifdfeaaGreatSxArgs
set_option linter.unusedVariables false
set_option linter.unusedSimpArgs false
noncomputable section
namespace Go.Sx
open Go Go.RowKit

/-- A place that a loop changes: a slot, a cell behind the address in a slot, or a cell of an aggregate in a slot. -/
inductive Place where
  | slot (t : Nat) | cell (t o : Nat) | part (t i : Nat)

/-- A loop: the places, whose values at the beginning of a round are the variables from b on; the slots with lists that grow, each with the kinds of its rows (a list is two variables: its length and its cells); the terms of the surroundings that its name reads; the name of what the places and lists are at the end; what must be known at first; what is known in each round, and at the end; the test by which it ends and its answer there; the places behind a round. -/
structure LoopSpec where
  b : Nat
  places : List Place
  lists : List (Nat × List SK) := []
  keep : List Place := []
  args : List Tm := []
  N : Nat
  pre : PC
  inv : PC
  post : PC := []
  cond : Tm
  pol : Bool
  next : List Tm
  /-- How many of the places the name reads and changes. -/
  ar : Option Nat := none
def LoopSpec.width (S : LoopSpec) : Nat := S.places.length + 2 * S.lists.length

/-- The surroundings, and from b on these values. -/
def envV (b : Nat) (E : Env) (v : List Sc) : Env := ⟨fun i => if b ≤ i then (v[i - b]?).getD .nil else E.v i, E.fn⟩
theorem envV_envV (b : Nat) (E : Env) (v x : List Sc) : envV b (envV b E v) x = envV b E x := by
  unfold envV
  congr 1
  funext i
  by_cases h : b ≤ i
  · simp only [if_pos h]
  · simp only [if_neg h]
theorem envV_lt {b : Nat} {E : Env} {v : List Sc} {i : Nat} (h : i < b) : (envV b E v).v i = E.v i := by
  unfold envV
  simp only
  rw [if_neg (by omega)]
theorem envV_out {b : Nat} {E : Env} {v : List Sc} {t : Tm} (h : t.under b = true) : t.den (envV b E v) = t.den E := under_den (fun m hm => envV_lt hm) rfl h

/-- The rounds from values v on end with z. -/
inductive Rounds (S : LoopSpec) (E : Env) : List Sc → List Sc → Prop
  | stop {v : List Sc} : PcOk (envV S.b E v) S.inv → (S.cond.den (envV S.b E v)).toB = S.pol → Rounds S E v v
  | more {v z : List Sc} : PcOk (envV S.b E v) S.inv → (S.cond.den (envV S.b E v)).toB = (!S.pol) → Rounds S E (S.next.map (Tm.den (envV S.b E v))) z → Rounds S E v z
def finOf (fn : Nat → Sc → Sc) (N : Nat) (as v : List Sc) : List Sc := (List.range v.length).map fun j => (fn N (Sc.ofList (as ++ v))).at_ j
/-- The same, where the name reads and changes the first k alone. -/
def finK (fn : Nat → Sc → Sc) (N k : Nat) (as v : List Sc) : List Sc := (List.range v.length).map fun j => if j < k then (fn N (Sc.ofList (as ++ v.take k))).at_ j else (v[j]?).getD .nil
def finS (S : LoopSpec) (E : Env) (v : List Sc) : List Sc := match S.ar with
  | none => finOf E.fn S.N (S.args.map (Tm.den E)) v
  | some k => finK E.fn S.N k (S.args.map (Tm.den E)) v
/-- What is to be shown of a loop, in plain Lean. -/
def LoopLaw (S : LoopSpec) (E : Env) : Prop := ∀ v : List Sc, v.length = S.width → PcOk (envV S.b E v) S.pre → Rounds S E v (finS S E v) ∧ PcOk (envV S.b E (finS S E v ++ v)) S.post

theorem Rounds.end_ {S : LoopSpec} {E : Env} {v z : List Sc} (h : Rounds S E v z) : PcOk (envV S.b E z) S.inv ∧ (S.cond.den (envV S.b E z)).toB = S.pol := by
  induction h with
  | stop h1 h2 => exact ⟨h1, h2⟩
  | more _ _ _ ih => exact ih
theorem Rounds.const {S : LoopSpec} {E : Env} {v z : List Sc} (h : Rounds S E v z) {j : Nat} (hj : S.next[j]? = some (.var (S.b + j))) (hl : v.length = S.next.length) : z[j]? = v[j]? := by
  induction h with
  | stop _ _ => rfl
  | more _ _ _ ih =>
    rename_i v z _ _ _
    rw [ih (by simp)]
    have hlt : j < v.length := by rw [hl]; exact (List.getElem?_eq_some_iff.1 hj).1
    simp [hj, Tm.den, envV, hlt]

/-! Terms with others in the place of variables -/
def substT (b : Nat) (ts : List Tm) : Tm → Tm
  | .var i => match Nat.ble b i with
    | true => match nth? ts (i - b) with
      | some t => t
      | none => .nil
    | false => .var i
  | .cons h t => .cons (substT b ts h) (substT b ts t)
  | .op o x y => mkOp o (substT b ts x) (substT b ts y)
  | .ite c x y => .ite (substT b ts c) (substT b ts x) (substT b ts y)
  | .app f x => .app f (substT b ts x)
  | .nth n x => .nth n (substT b ts x)
  | t => t
theorem ble_iff {a b : Nat} : Nat.ble a b = true ↔ a ≤ b := ⟨Nat.le_of_ble_eq_true, Nat.ble_eq_true_of_le⟩
theorem substT_den {E : Env} {b : Nat} {ts : List Tm} : ∀ (t : Tm), (substT b ts t).den E = t.den (envV b E (ts.map (Tm.den E)))
  | .var i => by
    simp only [substT, Tm.den, envV]
    split
    · rename_i h
      rw [if_pos (ble_iff.1 h)]
      rw [nth?_get]
      cases ht : ts[i - b]? <;> simp [ht, Tm.den]
    · rename_i h
      rw [if_neg (fun e => by rw [ble_iff.2 e] at h; cases h)]
      rfl
  | .bl _ => rfl | .il _ => rfl | .fl _ => rfl | .sl _ => rfl | .nil => rfl
  | .cons h t => by simp only [substT, Tm.den, substT_den h, substT_den t]
  | .op o x y => by simp only [substT, Tm.den, mkOp_den, substT_den x, substT_den y]
  | .ite c x y => by simp only [substT, Tm.den, substT_den c, substT_den x, substT_den y]
  | .app f x => by simp only [substT, Tm.den, substT_den x]; rfl
  | .nth n x => by simp only [substT, Tm.den, substT_den x]
/-- What a choice says, once the choice is known. -/
def unlock (pc : PC) : PC → PC
  | [] => []
  | (t, v) :: r => match t, v with
    | .ite c a x, true => match a with
      | .bl true => match decB pc c with
        | some false => (x, true) :: unlock pc r
        | _ => unlock pc r
      | _ => unlock pc r
    | _, _ => unlock pc r
theorem unlock_ok {E : Env} {pc : PC} (hp : PcOk E pc) : ∀ {l : PC}, PcOk E l → PcOk E (unlock pc l)
  | [], _ => fun p h => by cases h
  | (t, v) :: r, h => by
    have hr : PcOk E (unlock pc r) := unlock_ok hp (fun p hm => h p (List.mem_cons_of_mem _ hm))
    unfold unlock
    split
    · rename_i c a x
      split
      · split
        · rename_i hd
          have hc := decB_ok hp c hd
          have h0 := h _ (List.mem_cons_self ..)
          simp only [Tm.den, hc, Bool.false_eq_true, if_false] at h0
          intro p hm
          rcases List.mem_cons.1 hm with rfl | hm
          · exact h0
          · exact hr p hm
        · exact hr
      · exact hr
    · exact hr
def proveAll (pc : PC) (b : Nat) (ts : List Tm) : PC → Bool
  | [] => true
  | (t, v) :: r => match prove v 60 pc (substT b ts t) with
    | true => proveAll pc b ts r
    | false => false
theorem proveAll_ok {E : Env} {pc : PC} {b : Nat} {ts : List Tm} (hp : PcOk E pc) : ∀ {l : PC}, proveAll pc b ts l = true → PcOk (envV b E (ts.map (Tm.den E))) l
  | [], _ => fun p hp => by cases hp
  | (t, v) :: r, h => by
    simp only [proveAll] at h
    split at h
    · rename_i h1
      intro p hm
      rcases List.mem_cons.1 hm with rfl | hm
      · have := prove_ok 60 hp h1
        rw [substT_den] at this
        exact this
      · exact proveAll_ok hp h p hm
    · cases h
def substPc (b : Nat) (ts : List Tm) : PC → PC
  | [] => []
  | (t, v) :: r => (substT b ts t, v) :: substPc b ts r
theorem substPc_ok {E : Env} {b : Nat} {ts : List Tm} : ∀ {l : PC}, PcOk (envV b E (ts.map (Tm.den E))) l → PcOk E (substPc b ts l)
  | [], _ => fun p hp => by cases hp
  | (t, v) :: r, h => by
    intro p hm
    simp only [substPc] at hm
    rcases List.mem_cons.1 hm with rfl | hm
    · simp only
      rw [substT_den]
      exact h (t, v) (List.mem_cons_self ..)
    · exact substPc_ok (fun p hp => h p (List.mem_cons_of_mem _ hp)) p hm
def consT : List Tm → Tm
  | [] => .nil
  | t :: r => .cons t (consT r)
theorem consT_den {E : Env} : ∀ (ts : List Tm), (consT ts).den E = Sc.ofList (ts.map (Tm.den E))
  | [] => rfl
  | t :: r => by simp only [consT, Tm.den, List.map_cons, Sc.ofList, consT_den r]
/-- The terms of the places at the end. -/
def lpFin (S : LoopSpec) (A : Tm) : List Tm → List Tm → Nat → List Tm
  | [], _, _ => []
  | t :: r, nx, j => (match nx with
    | [] => .nth j A
    | u :: _ => match u with
      | .var i => match Nat.beq i (S.b + j) with
        | true => t
        | false => .nth j A
      | _ => .nth j A) :: lpFin S A r (nx.drop 1) (j + 1)
theorem lpFin_get {S : LoopSpec} {A : Tm} : ∀ {ts nx : List Tm} {j i : Nat} {t : Tm}, ts[i]? = some t → (lpFin S A ts nx j)[i]? = some (.nth (j + i) A) ∨ ((lpFin S A ts nx j)[i]? = some t ∧ nx[i]? = some (.var (S.b + (j + i))))
  | [], _, _, _, _, h => by simp at h
  | t0 :: r, nx, j, 0, t, h => by
    simp at h
    subst h
    simp only [lpFin, List.getElem?_cons_zero, Nat.add_zero]
    split
    · exact .inl rfl
    · rename_i u x
      split
      · rename_i i
        split
        · rename_i hb
          exact .inr ⟨rfl, by simp [Nat.eq_of_beq_eq_true hb]⟩
        · exact .inl rfl
      · exact .inl rfl
  | t0 :: r, nx, j, i + 1, t, h => by
    have := lpFin_get (S := S) (A := A) (ts := r) (nx := nx.drop 1) (j := j + 1) (i := i) (t := t) (by simpa using h)
    simp only [lpFin, List.getElem?_cons_succ]
    rw [show j + 1 + i = j + (i + 1) by omega] at this
    rcases this with h1 | ⟨h1, h2⟩
    · exact .inl h1
    · refine .inr ⟨h1, ?_⟩
      rw [← h2, List.getElem?_drop]
      congr 1
      omega
theorem lpFin_length {S : LoopSpec} {A : Tm} : ∀ {ts nx : List Tm} {j : Nat}, (lpFin S A ts nx j).length = ts.length
  | [], _, _ => rfl
  | _ :: r, nx, j => by simp only [lpFin, List.length_cons, lpFin_length (ts := r)]
/-- The terms of the places at the end, by the name of all or of the first k. -/
def takeT : Nat → List Tm → List Tm
  | 0, _ => []
  | _ + 1, [] => []
  | k + 1, t :: r => t :: takeT k r
def dropT : Nat → List Tm → List Tm
  | 0, l => l
  | _ + 1, [] => []
  | k + 1, _ :: r => dropT k r
theorem takeT_eq : ∀ (k : Nat) (l : List Tm), takeT k l = l.take k
  | 0, _ => by simp [takeT]
  | k + 1, [] => by simp [takeT]
  | k + 1, t :: r => by simp [takeT, takeT_eq k r]
theorem dropT_eq : ∀ (k : Nat) (l : List Tm), dropT k l = l.drop k
  | 0, _ => by simp [dropT]
  | k + 1, [] => by simp [dropT]
  | k + 1, t :: r => by simp [dropT, dropT_eq k r]
def endT (S : LoopSpec) (ts : List Tm) : List Tm := match S.ar with
  | none => lpFin S (.app S.N (consT (S.args ++ ts))) ts S.next 0
  | some k => lpFin S (.app S.N (consT (S.args ++ takeT k ts))) (takeT k ts) S.next 0 ++ dropT k ts

theorem lpFin_den {S : LoopSpec} {E : Env} {ts : List Tm} (hl : ts.length = S.next.length) (hr : Rounds S E (ts.map (Tm.den E)) (finS S E (ts.map (Tm.den E)))) :
    (endT S ts).map (Tm.den E) = finS S E (ts.map (Tm.den E)) := by
  unfold endT
  cases ha : S.ar with
  | none =>
    have e0 : finS S E (ts.map (Tm.den E)) = finOf E.fn S.N (S.args.map (Tm.den E)) (ts.map (Tm.den E)) := by unfold finS; rw [ha]
    rw [e0] at hr ⊢
    simp only
    refine List.ext_getElem? fun i => ?_
    rcases Nat.lt_or_ge i ts.length with hi | hi
    · have ht : ts[i]? = some ts[i] := List.getElem?_eq_getElem hi
      have hfin : (finOf E.fn S.N (S.args.map (Tm.den E)) (ts.map (Tm.den E)))[i]? = some ((E.fn S.N (Sc.ofList (S.args.map (Tm.den E) ++ ts.map (Tm.den E)))).at_ i) := by
        simp [finOf, hi]
      rw [List.getElem?_map]
      rcases lpFin_get (S := S) (A := .app S.N (consT (S.args ++ ts))) (nx := S.next) (j := 0) ht with h | ⟨h, hv⟩
      · rw [h, hfin]
        simp only [Option.map_some, Nat.zero_add, Tm.den, consT_den, List.map_append]
      · rw [h]
        rw [Nat.zero_add] at hv
        have := hr.const hv (by simpa using hl)
        rw [this]
        simp [ht]
    · rw [List.getElem?_eq_none, List.getElem?_eq_none]
      · simp [finOf]; omega
      · simp [lpFin_length]; omega
  | some k =>
    have e0 : finS S E (ts.map (Tm.den E)) = finK E.fn S.N k (S.args.map (Tm.den E)) (ts.map (Tm.den E)) := by unfold finS; rw [ha]
    rw [e0] at hr ⊢
    simp only [takeT_eq, dropT_eq]
    refine List.ext_getElem? fun i => ?_
    rcases Nat.lt_or_ge i ts.length with hi | hi
    · have ht : ts[i]? = some ts[i] := List.getElem?_eq_getElem hi
      have hfin : (finK E.fn S.N k (S.args.map (Tm.den E)) (ts.map (Tm.den E)))[i]? = some (if i < k then (E.fn S.N (Sc.ofList (S.args.map (Tm.den E) ++ (ts.map (Tm.den E)).take k))).at_ i else ts[i].den E) := by
        simp [finK, hi]
      rw [List.getElem?_map]
      rcases Nat.lt_or_ge i k with hk | hk
      · have ht' : (ts.take k)[i]? = some ts[i] := by rw [List.getElem?_take, if_pos hk]; exact ht
        rw [List.getElem?_append_left (by simp [lpFin_length]; omega), hfin, if_pos hk]
        rcases lpFin_get (S := S) (A := .app S.N (consT (S.args ++ ts.take k))) (nx := S.next) (j := 0) ht' with h | ⟨h, hv⟩
        · rw [h]
          simp only [Option.map_some, Nat.zero_add, Tm.den, consT_den, List.map_append, List.map_take]
        · rw [h]
          rw [Nat.zero_add] at hv
          have := hr.const hv (by simpa using hl)
          rw [hfin, if_pos hk] at this
          simp only [Option.map_some]
          rw [this]
          simp [ht]
      · have hmin : (lpFin S (.app S.N (consT (S.args ++ ts.take k))) (ts.take k) S.next 0).length = k := by rw [lpFin_length, List.length_take]; omega
        rw [List.getElem?_append_right (by omega), hmin, List.getElem?_drop, show k + (i - k) = i by omega, ht, hfin, if_neg (by omega)]
        rfl
    · rw [List.getElem?_eq_none, List.getElem?_eq_none]
      · simp [finK]; omega
      · simp [lpFin_length]; omega

/-! Templates of states -/
/-- Is a term, of the surroundings or the variable of a place, this one? -/
def fitT (b : Nat) (ts : List Tm) (t u : Tm) : Bool :=
  match t with
  | .var i => match Nat.ble b i with
    | true => match nth? ts (i - b) with
      | some x => x.beq u
      | none => false
    | false => (Tm.var i).beq u
  | t => match t.under b with
    | true => t.beq u
    | false => false
section
variable {E E1 : Env} {b : Nat} {ts : List Tm}
/-- An environment that says of the surroundings what E says. -/
def Outs (b : Nat) (E E1 : Env) : Prop := (∀ i, i < b → E1.v i = E.v i) ∧ E1.fn = E.fn
theorem Outs.refl : Outs b E E := ⟨fun _ _ => rfl, rfl⟩
theorem Outs.env {v : List Sc} : Outs b E (envV b E v) := ⟨fun _ h => envV_lt h, rfl⟩
theorem Outs.same (h : Outs b E E1) (v : List Sc) : envV b E1 v = envV b E v := by
  unfold envV
  rw [h.2]
  congr 1
  funext i
  by_cases hi : b ≤ i
  · simp only [if_pos hi]
  · simp only [if_neg hi]; exact h.1 i (by omega)
theorem fitT_den {t u : Tm} (h : fitT b ts t u = true) : t.den (envV b E1 (ts.map (Tm.den E1))) = u.den E1 := by
  unfold fitT at h
  split at h
  · rename_i i
    split at h
    · rename_i hbi
      split at h
      · rename_i x hx
        rw [← Tm.beq_eq h]
        rw [nth?_get] at hx
        simp only [Tm.den, envV, if_pos (ble_iff.1 hbi), List.getElem?_map, hx, Option.map_some, Option.getD_some]
      · cases h
    · rename_i hbi
      rw [← Tm.beq_eq h]
      exact envV_lt (by
        rcases Nat.lt_or_ge i b with h | h
        · exact h
        · rw [ble_iff.2 h] at hbi; cases hbi)
  · split at h
    · rename_i hu
      rw [envV_out hu, Tm.beq_eq h]
    · cases h
end
/-- Does a symbolic value fit into a template, the variables from b on being these terms, and blocks being named as J says? -/
def fitV0 (J : Nat → Nat → Bool) (b : Nat) (ts : List Tm) (s s' : SV) : Bool :=
  match s, s' with
  | .un, _ => true
  | .sc k t, .sc k' u => match beqK k k' with
    | true => fitT b ts t u
    | false => false
  | .ptr j o, .ptr j' o' => match J j j' with | true => Nat.beq o o' | false => false
  | .sl j o n, .sl j' o' n' => match J j j', Nat.beq o o' with | true, true => Nat.beq n n' | _, _ => false
  | .gs j n, .gs j' n' => match J j j' with | true => Nat.beq n n' | false => false
  | .os j n t, .os j' n' t' => match J j j', fitT b ts n n' with | true, true => fitT b ts t t' | _, _ => false
  | .og j ks n t, .og j' ks' n' t' => match J j j', eqKs ks ks', fitT b ts n n' with | true, true, true => fitT b ts t t' | _, _, _ => false
  | .nilp, .nilp => true
  | .nils, .nils => true
  | .nilf, .nilf => true
  | .nili, .nili => true
  | .fn (.func g) [] [], .fn (.func g') [] [] => Nat.beq g g'
  | _, _ => false
/-- Where the blocks of the template lie. -/
def Named' (J : Nat → Nat → Bool) (β' β'' : Pl) : Prop := ∀ j j', J j j' = true → β'' j = β' j'
section
variable {J : Nat → Nat → Bool} {E1 : Env} {b : Nat} {ts : List Tm} {β' β'' : Pl}
theorem fitV0_rep {s s' : SV} {v : Value} (hf : fitV0 J b ts s s' = true) (hJ : Named' J β' β'') (h : SV.rep E1 β' s' v) :
    SV.rep (envV b E1 (ts.map (Tm.den E1))) β'' s v := by
  unfold fitV0 at hf
  split at hf
  · simp [SV.rep]
  · rename_i k t k' u
    split at hf
    · rename_i hkk
      have := beqK_eq hkk
      subst this
      simp only [SV.rep] at h ⊢
      rw [fitT_den hf]; exact h
    · cases hf
  · split at hf
    · rename_i h1
      have e2 := Nat.eq_of_beq_eq_true hf
      subst e2
      simp only [SV.rep] at h ⊢
      rw [hJ _ _ h1]; exact h
    · cases hf
  · split at hf
    · rename_i h1 h2
      have e2 := Nat.eq_of_beq_eq_true h2
      have e3 := Nat.eq_of_beq_eq_true hf
      subst e2; subst e3
      simp only [SV.rep] at h ⊢
      rw [hJ _ _ h1]; exact h
    · cases hf
  · split at hf
    · rename_i h1
      have e2 := Nat.eq_of_beq_eq_true hf
      subst e2
      simp only [SV.rep] at h ⊢
      rw [hJ _ _ h1]; exact h
    · cases hf
  · split at hf
    · rename_i h1 h2
      simp only [SV.rep] at h ⊢
      rw [hJ _ _ h1, fitT_den h2, fitT_den hf]; exact h
    · cases hf
  · split at hf
    · rename_i h1 h2 h3
      have e2 := eqKs_eq h2
      subst e2
      simp only [SV.rep] at h ⊢
      rw [hJ _ _ h1, fitT_den h3, fitT_den hf]; exact h
    · cases hf
  · simpa [SV.rep] using h
  · simpa [SV.rep] using h
  · simpa [SV.rep] using h
  · simpa [SV.rep] using h
  · have e1 := Nat.eq_of_beq_eq_true hf
    subst e1
    simpa [SV.rep] using h
  · cases hf
/-- Aggregates, cell by cell. -/
def fitA (J : Nat → Nat → Bool) (b : Nat) (ts : List Tm) : List SV → List SV → Bool
  | [], l => match l with
    | [] => true
    | _ => false
  | s :: r, l => match l with
    | s' :: r' => match fitV0 J b ts s s' with
      | true => fitA J b ts r r'
      | false => false
    | [] => false
def fitV (J : Nat → Nat → Bool) (b : Nat) (ts : List Tm) (s s' : SV) : Bool :=
  match s with
  | .agg cs => match s' with
    | .agg cs' => fitA J b ts cs cs'
    | _ => false
  | s => fitV0 J b ts s s'
theorem fitA_rep (hJ : Named' J β' β'') : ∀ {l l' : List SV} {vs : List Value}, fitA J b ts l l' = true → SV.reps E1 β' l' vs → SV.reps (envV b E1 (ts.map (Tm.den E1))) β'' l vs
  | [], l', vs, hf, h => by
    cases l' with
    | nil => simpa using h
    | cons _ _ => cases hf
  | s :: r, l', vs, hf, h => by
    cases l' with
    | nil => cases hf
    | cons s' r' =>
      simp only [fitA] at hf
      split at hf
      · rename_i h1
        simp only [SV.reps] at h
        obtain ⟨v, rest, rfl, h2, h3⟩ := h
        rw [reps_cons]
        exact ⟨fitV0_rep h1 hJ h2, fitA_rep hJ hf h3⟩
      · cases hf
theorem fitV_rep {s s' : SV} {v : Value} (hf : fitV J b ts s s' = true) (hJ : Named' J β' β'') (h : SV.rep E1 β' s' v) :
    SV.rep (envV b E1 (ts.map (Tm.den E1))) β'' s v := by
  unfold fitV at hf
  split at hf
  · split at hf
    · simp only [SV.rep] at h ⊢
      obtain ⟨vs, rfl, h⟩ := h
      exact ⟨vs, rfl, fitA_rep hJ hf h⟩
    · cases hf
  · exact fitV0_rep hf hJ h
def fitL (J : Nat → Nat → Bool) (b : Nat) (ts : List Tm) : List SV → List SV → Bool
  | [], [] => true
  | s :: r, s' :: r' => match fitV J b ts s s' with
    | true => fitL J b ts r r'
    | false => false
  | _, _ => false
theorem fitL_get : ∀ {l l' : List SV}, fitL J b ts l l' = true → l.length = l'.length ∧ ∀ (i : Nat) (s : SV), l[i]? = some s → ∃ s', l'[i]? = some s' ∧ fitV J b ts s s' = true
  | [], [], _ => ⟨rfl, fun i s h => by simp at h⟩
  | s :: r, s' :: r', h => by
    simp only [fitL] at h
    split at h
    · rename_i h1
      obtain ⟨g1, g2⟩ := fitL_get h
      refine ⟨by simp [g1], fun i x hi => ?_⟩
      cases i with
      | zero => simp at hi; subst hi; exact ⟨s', by simp, h1⟩
      | succ i => simpa using g2 i x (by simpa using hi)
    · cases h
  | [], _ :: _, h => by cases h
  | _ :: _, [], h => by cases h
end
/-- The block of a run that a template's block is. -/
def rhoJ (r : List (Nat × Nat)) (j : Nat) : Nat :=
  match r with
  | [] => j
  | (m, q) :: r => match Nat.beq m j with
    | true => q
    | false => rhoJ r j
def inR (r : List (Nat × Nat)) (j : Nat) : Bool :=
  match r with
  | [] => false
  | (m, _) :: r => match Nat.beq m j with
    | true => true
    | false => inR r j
/-- The names of blocks: those of the lists as given, the others from before the loop as they are. -/
def namJ (r : List (Nat × Nat)) (n0 : Nat) (j j' : Nat) : Bool :=
  match Nat.beq (rhoJ r j) j' with
  | true => match inR r j with
    | true => true
    | false => Nat.blt j n0
  | false => false
def fitM (r : List (Nat × Nat)) (n0 b : Nat) (ts : List Tm) (own' : Mem) : Mem → Bool
  | [] => true
  | (j, sb) :: rest => match namJ r n0 j (rhoJ r j), find own' (rhoJ r j) with
    | true, some sb' => match beqRow sb.row sb'.row, fitL (namJ r n0) b ts sb.cs sb'.cs with
      | true, true => fitM r n0 b ts own' rest
      | _, _ => false
    | _, _ => false
theorem fitM_get {r : List (Nat × Nat)} {n0 b : Nat} {ts : List Tm} {own' : Mem} : ∀ {own : Mem}, fitM r n0 b ts own' own = true → ∀ j sb, (j, sb) ∈ own → namJ r n0 j (rhoJ r j) = true ∧ ∃ sb', (rhoJ r j, sb') ∈ own' ∧ sb.row = sb'.row ∧ fitL (namJ r n0) b ts sb.cs sb'.cs = true
  | [], _, j, sb, h => by cases h
  | (j0, sb0) :: rest, h, j, sb, hj => by
    simp only [fitM] at h
    split at h
    · rename_i sb' hn hf
      split at h
      · rename_i h1 h2
        rcases List.mem_cons.1 hj with hj | hj
        · cases hj; exact ⟨hn, sb', find_mem hf, beqRow_eq h1, h2⟩
        · exact fitM_get h j sb hj
      · cases h
    · cases h
/-- No two blocks of the template are one. -/
def onceR (r : List (Nat × Nat)) (j : Nat) : Mem → Bool
  | [] => true
  | (i, _) :: rest => match Nat.beq i j, Nat.beq (rhoJ r i) (rhoJ r j) with
    | false, true => false
    | _, _ => onceR r j rest
def apartR (r : List (Nat × Nat)) (all : Mem) : Mem → Bool
  | [] => true
  | (j, _) :: rest => match onceR r j all with
    | true => apartR r all rest
    | false => false
theorem onceR_get {r : List (Nat × Nat)} {j : Nat} : ∀ {all : Mem}, onceR r j all = true → ∀ i sb, (i, sb) ∈ all → i ≠ j → rhoJ r i ≠ rhoJ r j
  | [], _, i, sb, h, _ => by cases h
  | (i0, _) :: rest, h, i, sb, hi, hne => by
    simp only [onceR] at h
    split at h
    · cases h
    · rename_i hx
      rcases List.mem_cons.1 hi with hi | hi
      · cases hi
        intro e
        exact hx (by cases hb : Nat.beq i0 j with
          | true => exact absurd (Nat.eq_of_beq_eq_true hb) hne
          | false => rfl) (by rw [e]; exact Nat.beq_refl _)
      · exact onceR_get h i sb hi hne
theorem apartR_get {r : List (Nat × Nat)} {all : Mem} : ∀ {l : Mem}, apartR r all l = true → ∀ j sb, (j, sb) ∈ l → onceR r j all = true
  | [], _, j, sb, h => by cases h
  | (j0, _) :: rest, h, j, sb, hj => by
    simp only [apartR] at h
    split at h
    · rename_i h1
      rcases List.mem_cons.1 hj with hj | hj
      · cases hj; exact h1
      · exact apartR_get h j sb hj
    · cases h

section
variable {P : Program} {E E1 : Env} {β β' β'' : Pl} {w0 w : World} {a : Act}
theorem fit_rep {r : List (Nat × Nat)} {n0 b : Nat} {ts : List Tm} {g σ : St} (htm : fitL (namJ r n0) b ts g.tm σ.tm = true) (hown : fitM r n0 b ts σ.own g.own = true) (hap : apartR r g.own g.own = true) (hJ : Named' (namJ r n0) β' β'') (hfresh : Fresh β'' g.nxt g.lim) (hle : g.nxt ≤ g.lim)
    (h : RepM E1 β' w0 σ a w) : RepM (envV b E1 (ts.map (Tm.den E1))) β'' w0 g a w := by
  obtain ⟨hl, hg⟩ := fitL_get htm
  refine { tm := ?_, df := h.df, own := ⟨fun j sb hj => ?_, fun j sb j' sb' x x' hj hj' hne hx hx' => ?_⟩, fresh := hfresh, le := hle, below := h.below }
  · refine reps_iff.2 ⟨by rw [reps_length h.tm, hl], fun i s hs => ?_⟩
    obtain ⟨s', hs', hf⟩ := hg i s hs
    obtain ⟨v, hv, hr⟩ := reps_get h.tm hs'
    exact ⟨v, hv, fitV_rep hf hJ hr⟩
  · obtain ⟨hn, sb', hj', hrow, hcs⟩ := fitM_get hown j sb hj
    obtain ⟨hl2, hg2⟩ := fitL_get hcs
    obtain ⟨b1, hb1, hr, hB, h0, arr, e, hh, hrw⟩ := h.own.ent _ sb' hj'
    refine ⟨b1, by rw [hJ _ _ hn]; exact hb1, ⟨hr.1, fun i s hi => ?_, hr.3.imp id fun ⟨g1, g2⟩ => ⟨List.eq_nil_of_length_eq_zero (by rw [hl2, g1]; rfl), g2⟩, fun e s he => hr.4 e s (hrow.symm.trans he)⟩, hB, h0, arr, e, hh, ?_⟩
    · obtain ⟨s', hs', hf⟩ := hg2 i s hi
      obtain ⟨v, hv1, hv2, hv3⟩ := hr.2 i s' hs'
      exact ⟨v, hv1, hv2, fitV_rep hf hJ hv3⟩
    · rw [hrow, hl2]; exact hrw
  · obtain ⟨hn, s1, h1, _⟩ := fitM_get hown j sb hj
    obtain ⟨hn', s2, h2, _⟩ := fitM_get hown j' sb' hj'
    have hne' := onceR_get (apartR_get hap j' sb' hj') j sb hj hne
    rw [hJ _ _ hn] at hx
    rw [hJ _ _ hn'] at hx'
    exact h.own.apart _ s1 _ s2 x x' h1 h2 hne' hx hx'

/-! What the surroundings say stays so -/
def undV (b : Nat) : SV → Bool
  | .un => true | .sc _ t => t.under b
  | .ptr _ _ => true | .nilp => true | .sl _ _ _ => true | .nils => true | .gs _ _ => true
  | .os _ n t => match n.under b with | true => t.under b | false => false
  | .og _ _ n t => match n.under b with | true => t.under b | false => false
  | .nilf => true | .nili => true
  | _ => false
theorem undV_rep {b : Nat} {v : List Sc} {s : SV} {x : Value} (hu : undV b s = true) (h : SV.rep E β s x) : SV.rep (envV b E v) β s x := by
  cases s <;> simp only [undV, Bool.false_eq_true] at hu <;> try exact h
  · simp only [SV.rep] at h ⊢; rw [envV_out hu]; exact h
  · split at hu
    · rename_i hn; simp only [SV.rep] at h ⊢; rw [envV_out hn, envV_out hu]; exact h
    · cases hu
  · split at hu
    · rename_i hn; simp only [SV.rep] at h ⊢; rw [envV_out hn, envV_out hu]; exact h
    · cases hu
def undL (b : Nat) : List SV → Bool
  | [] => true
  | s :: r => match undV b s with
    | true => undL b r
    | false => false
theorem undL_get {b : Nat} : ∀ {l : List SV}, undL b l = true → ∀ s, s ∈ l → undV b s = true
  | [], _, s, h => by cases h
  | s0 :: r, h, s, hs => by
    simp only [undL] at h
    split at h
    · rename_i h1
      rcases List.mem_cons.1 hs with rfl | hs
      · exact h1
      · exact undL_get h s hs
    · cases h
/-- The blocks that speak of the surroundings alone. -/
def outM (b : Nat) : Mem → Mem
  | [] => []
  | (j, sb) :: r => match undL b sb.cs with
    | true => (j, sb) :: outM b r
    | false => outM b r
theorem outM_get {b : Nat} : ∀ {m : Mem} {j : Nat} {sb : SB}, (j, sb) ∈ outM b m → (j, sb) ∈ m ∧ undL b sb.cs = true
  | [], _, _, h => by cases h
  | (i, x) :: r, j, sb, h => by
    simp only [outM] at h
    split at h
    · rename_i hu
      rcases List.mem_cons.1 h with h | h
      · cases h; exact ⟨List.mem_cons_self .., hu⟩
      · obtain ⟨h1, h2⟩ := outM_get h; exact ⟨List.mem_cons_of_mem _ h1, h2⟩
    · obtain ⟨h1, h2⟩ := outM_get h; exact ⟨List.mem_cons_of_mem _ h1, h2⟩
theorem outM_reads {b : Nat} {v : List Sc} {m : Mem} (hm : Pl.le β β'') (h : Reads E β m w) : Reads (envV b E v) β'' (outM b m) w := by
  intro j sb hj
  obtain ⟨h1, h2⟩ := outM_get hj
  obtain ⟨c, hc, hr⟩ := h j sb h1
  refine ⟨c, hm j c hc, hr.1, fun i s hi => ?_, hr.3, hr.4⟩
  obtain ⟨x, g1, g2, g3⟩ := hr.2 i s hi
  exact ⟨x, g1, g2, SV.rep_mono hm _ _ (undV_rep (undL_get h2 s (List.mem_of_getElem? hi)) g3)⟩
def outP (b : Nat) : PC → PC
  | [] => []
  | (t, v) :: r => match t.under b with
    | true => (t, v) :: outP b r
    | false => outP b r
theorem outP_ok {b : Nat} {v : List Sc} : ∀ {pc : PC}, PcOk E pc → PcOk (envV b E v) (outP b pc)
  | [], _ => fun p hp => by cases hp
  | (t, x) :: r, h => by
    have hr : PcOk (envV b E v) (outP b r) := outP_ok (fun p hm => h p (List.mem_cons_of_mem _ hm))
    simp only [outP]
    split
    · rename_i hu
      exact hr.cons (by rw [envV_out hu]; exact h _ (List.mem_cons_self ..))
    · exact hr

/-! The template with terms in the place of its variables -/
def instT (b : Nat) (fs : List Tm) (t : Tm) : Tm := match t.under b with | true => t | false => substT b fs t
theorem instT_den {b : Nat} {fs : List Tm} (t : Tm) : (instT b fs t).den E = t.den (envV b E (fs.map (Tm.den E))) := by
  unfold instT
  split
  · rename_i hu; exact (envV_out hu).symm
  · exact substT_den t
def instA (b : Nat) (fs : List Tm) : List SV → List SV
  | [] => []
  | s :: r => (match s with
    | .sc k t => .sc k (instT b fs t)
    | .sl j o n => .sl j o n
    | .os j n t => .os j (instT b fs n) (instT b fs t)
    | .nils => .nils
    | _ => .un) :: instA b fs r
theorem instA_rep {b : Nat} {fs : List Tm} : ∀ {l : List SV} {vs : List Value}, SV.reps (envV b E (fs.map (Tm.den E))) β l vs → SV.reps E β (instA b fs l) vs
  | [], _, h => by simpa [instA] using h
  | s :: r, vs, h => by
    simp only [SV.reps] at h
    obtain ⟨v, rest, rfl, h1, h2⟩ := h
    simp only [instA]
    rw [reps_cons]
    refine ⟨?_, instA_rep h2⟩
    split
    · rename_i k t
      simp only [SV.rep, instT_den] at h1 ⊢
      exact h1
    · simpa only [SV.rep] using h1
    · simp only [SV.rep, instT_den] at h1 ⊢
      exact h1
    · simpa only [SV.rep] using h1
    · simp [SV.rep]
def instV (b : Nat) (fs : List Tm) : SV → SV
  | .agg cs => .agg (instA b fs cs)
  | .sc k t => .sc k (instT b fs t)
  | .ptr j o => .ptr j o
  | .sl j o n => .sl j o n
  | .gs j n => .gs j n
  | .os j n t => .os j (instT b fs n) (instT b fs t)
  | .og j ks n t => .og j ks (instT b fs n) (instT b fs t)
  | .nilp => .nilp | .nils => .nils | .nilf => .nilf | .nili => .nili
  | .fn f a c => match f, a, c with
    | .func g, [], [] => .fn (.func g) [] []
    | _, _, _ => .un
  | _ => .un
theorem instV_rep {b : Nat} {fs : List Tm} {s : SV} {v : Value} (h : SV.rep (envV b E (fs.map (Tm.den E))) β s v) : SV.rep E β (instV b fs s) v := by
  cases s with
  | sc k t =>
    simp only [instV, SV.rep, instT_den] at h ⊢
    exact h
  | fn f a c =>
    simp only [instV]
    split
    · simpa [SV.rep] using h
    · simp [SV.rep]
  | un => simp [instV, SV.rep]
  | agg cs =>
    simp only [instV, SV.rep] at h ⊢
    obtain ⟨vs, rfl, h⟩ := h
    exact ⟨vs, rfl, instA_rep h⟩
  | tup vs => simp [instV, SV.rep]
  | rp j ks t i o => simp [instV, SV.rep]
  | os j n t =>
    simp only [instV, SV.rep, instT_den] at h ⊢
    exact h
  | og j ks n t =>
    simp only [instV, SV.rep, instT_den] at h ⊢
    exact h
  | ptr j o => simpa [instV, SV.rep] using h
  | sl j o n => simpa [instV, SV.rep] using h
  | gs j n => simpa [instV, SV.rep] using h
  | nilp => simpa [instV, SV.rep] using h
  | nils => simpa [instV, SV.rep] using h
  | nilf => simpa [instV, SV.rep] using h
  | nili => simpa [instV, SV.rep] using h
def instB (b : Nat) (fs : List Tm) : Mem → Mem
  | [] => []
  | (j, sb) :: r => (j, ⟨sb.cs.map (instV b fs), sb.row⟩) :: instB b fs r
theorem instB_mem {b : Nat} {fs : List Tm} : ∀ {x : Mem} {j : Nat} {sb : SB}, (j, sb) ∈ instB b fs x → ∃ s, (j, s) ∈ x ∧ sb = ⟨s.cs.map (instV b fs), s.row⟩
  | [], _, _, h => by cases h
  | (i, y) :: r, j, sb, h => by
    simp only [instB] at h
    rcases List.mem_cons.1 h with h | h
    · cases h; exact ⟨y, List.mem_cons_self .., rfl⟩
    · obtain ⟨s, h1, h2⟩ := instB_mem h; exact ⟨s, List.mem_cons_of_mem _ h1, h2⟩
theorem inst_rep {b : Nat} {fs : List Tm} {g : St} {ro : Mem} {pc : PC} (hro : Reads E β ro w0) (hpc : PcOk E pc) (h : RepM (envV b E (fs.map (Tm.den E))) β w0 g a w) :
    RepS E β w0 { g with tm := g.tm.map (instV b fs), own := instB b fs g.own, ro := ro, pc := pc } a w := by
  refine { tm := ?_, df := h.df, own := ⟨fun j sb hj => ?_, fun j sb j' sb' x x' hj hj' hne hx hx' => ?_⟩, fresh := h.fresh, le := h.le, below := h.below, ro := hro, pc := hpc }
  · refine reps_iff.2 ⟨by simp [reps_length h.tm], fun i s hs => ?_⟩
    simp only [List.getElem?_map, Option.map_eq_some_iff] at hs
    obtain ⟨u, hu, rfl⟩ := hs
    obtain ⟨v, hv, hr⟩ := reps_get h.tm hu
    exact ⟨v, hv, instV_rep hr⟩
  · obtain ⟨s, hs, rfl⟩ := instB_mem hj
    obtain ⟨b1, hb1, hr, hB, h0, arr, e, hh, hrw⟩ := h.own.ent j s hs
    refine ⟨b1, hb1, ⟨hr.1, fun i t hi => ?_, hr.3.imp id fun ⟨g1, g2⟩ => ⟨by rw [g1]; rfl, g2⟩, hr.4⟩, hB, h0, arr, e, hh, ?_⟩
    · simp only [List.getElem?_map, Option.map_eq_some_iff] at hi
      obtain ⟨u, hu, rfl⟩ := hi
      obtain ⟨v, hv1, hv2, hv3⟩ := hr.2 i u hu
      exact ⟨v, hv1, hv2, instV_rep hv3⟩
    · simp only [List.length_map]; exact hrw
  · obtain ⟨s1, h1, _⟩ := instB_mem hj
    obtain ⟨s2, h2, _⟩ := instB_mem hj'
    exact h.own.apart j s1 j' s2 x x' h1 h2 hne hx hx'

/-! The loop -/
/-- The slots that a piece of code writes. -/
def dstsR (l : List Oper) (r : List Nat) : List Nat := List.rec (motive := fun _ => List Nat) r (fun o _ ih => match o.dst with | some t => t :: ih | none => ih) l
def dstsC : Code → List Nat → List Nat
  | .region _ ops _, r => dstsR ops.toList r
  | .seq x y, r => dstsC x (dstsC y r)
  | .block _ c, r => dstsC c r
  | .loop c, r => dstsC c r
  | .cond _ x y, r => dstsC x (dstsC y r)
  | .scope c, r => dstsC c r
  | _, r => r
/-- What of a slot that the loop does not write can be kept in the template. -/
def keepV (b : Nat) (s : SV) : SV :=
  match s with
  | .agg cs => match undL b cs with
    | true => .agg cs
    | false => .un
  | .fn f a c => match f, a, c with
    | .func g, [], [] => .fn (.func g) [] []
    | _, _, _ => .un
  | s => match undV b s with
    | true => s
    | false => .un
def blankV : SV → SV
  | .ptr j o => .ptr j o
  | .sl j o n => .sl j o n
  | .gs j n => .gs j n
  | .nilp => .nilp | .nils => .nils | .nilf => .nilf | .nili => .nili
  | .fn f a c => match f, a, c with
    | .func g, [], [] => .fn (.func g) [] []
    | _, _, _ => .un
  | _ => .un
/-- The template's slots: those that the loop writes are open. -/
def keepL (b : Nat) (ds : List Nat) : Nat → List SV → List SV
  | _, [] => []
  | i, s :: r => (match memN ds i with
    | true => .un
    | false => keepV b s) :: keepL b ds (i + 1) r
def blankB (b : Nat) : Mem → Mem
  | [] => []
  | (j, sb) :: r => (j, ⟨sb.cs.map (keepV b), sb.row⟩) :: blankB b r
def getPl (σ : St) (p : Place) : SV :=
  match p with
  | .part t i => match nth? σ.tm t with
    | some (.agg cs) => match nth? cs i with
      | some s => s
      | none => .un
    | _ => .un
  | .slot t => match nth? σ.tm t with
    | some s => s
    | none => .un
  | .cell t o => match nth? σ.tm t with
    | some (.ptr j q) => match find σ.own j with
      | some sb => match nth? sb.cs (q + o) with
        | some s => s
        | none => .un
      | none => .un
    | _ => .un
def setPl (σ : St) (p : Place) (s : SV) : St :=
  match p with
  | .part t i => match nth? σ.tm t with
    | some (.agg cs) => { σ with tm := σ.tm.set t (.agg (cs.set i s)) }
    | _ => σ
  | .slot t => { σ with tm := σ.tm.set t s }
  | .cell t o => match nth? σ.tm t with
    | some (.ptr j q) => match find σ.own j with
      | some sb => { σ with own := setB σ.own j ⟨sb.cs.set (q + o) s, sb.row⟩ }
      | none => σ
    | _ => σ
def initsOf (σ : St) : List Place → Option (List (SK × Tm))
  | [] => some []
  | p :: r => match getPl σ p, initsOf σ r with
    | .sc k t, some x => some ((k, t) :: x)
    | _, _ => none
/-- Aggregates of open cells, where places are parts of a slot that the loop writes. -/
def openParts (σ : St) : List Place → St → St
  | [], g => g
  | p :: r, g => match p with
    | .part t _ => match nth? g.tm t, nth? σ.tm t with
      | some .un, some (.agg cs) => openParts σ r { g with tm := g.tm.set t (.agg (cs.map fun _ => .un)) }
      | _, _ => openParts σ r g
    | _ => openParts σ r g
def setAll (b : Nat) : List Place → List (SK × Tm) → Nat → St → St
  | p :: r, (k, _) :: x, j, g => setAll b r x (j + 1) (setPl g p (.sc k (.var (b + j))))
  | _, _, _, g => g
def keepAll (σ : St) : List Place → St → St
  | [], g => g
  | p :: r, g => keepAll σ r (setPl g p (getPl σ p))
/-- The lists that the loop makes longer get names of their own; their lengths and cells. -/
def openAll : List (Nat × List SK) → St → Option (St × List Tm)
  | [], σ => some (σ, [])
  | (t, ks) :: r, σ => match nth? σ.tm t with
    | some s => match openT σ.own ks s, Nat.blt σ.nxt σ.lim with
      | some x, true => match openAll r (reopen σ.nxt ks s x σ) with
        | some (σ', l) => some (σ', x.n :: x.t :: l)
        | none => none
      | _, _ => none
    | none => none
def setLists (b : Nat) : List (Nat × List SK) → Nat → Nat → St → St
  | [], _, _, g => g
  | (t, ks) :: r, j, i, g => setLists b r (j + 1) (i + 2) { g with tm := g.tm.set t (.og j ks (.var (b + i)) (.var (b + i + 1))) }
/-- Of each list the block where it lies behind a round. -/
def listsAt (tm : List SV) : List (Nat × List SK) → Nat → List (Nat × Nat)
  | [], _ => []
  | (t, _) :: r, j => (j, match nth? tm t with | some (.og q _ _ _) => q | _ => j) :: listsAt tm r (j + 1)
/-- Other slots with one of the lists are left open. -/
def dropJ (m0 c : Nat) : List SV → List SV
  | [] => []
  | s :: r => (match s with
    | .og j ks n t => match Nat.ble m0 j, Nat.blt j (m0 + c) with
      | true, true => .un
      | _, _ => .og j ks n t
    | s => s) :: dropJ m0 c r
def genSt (c : Code) (S : LoopSpec) (ks : List (SK × Tm)) (m0 : Nat) (σ : St) : St :=
  setLists S.b S.lists m0 (S.places.length) (setAll S.b S.places ks 0 (openParts σ S.places (keepAll σ S.keep { σ with tm := dropJ m0 S.lists.length (keepL S.b (dstsC c []) 0 σ.tm), own := blankB S.b σ.own, ro := outM S.b σ.ro, pc := (S.cond, !S.pol) :: S.inv })))
/-- Ways that go on although the test says that the loop ends: what is known on them contradicts itself. -/
def dead (S : LoopSpec) (fs : List Tm) (σ : St) : Bool := prove (!S.pol) 60 σ.pc (substT S.b fs S.cond)
/-- The ways that can be. -/
def pruneO (d : St → Bool) : Out (Ex × St) → Option (Out (Ex × St))
  | .ret r => match r with
    | (.normal, σ) => match d σ with
      | true => none
      | false => some (.bad 205)
    | r => some (.ret r)
  | .bad n => some (.bad n)
  | .br c x y => match pruneO d x with
    | some a => match pruneO d y with
      | some b => some (.br c a b)
      | none => some a
    | none => pruneO d y
def loopE (d : St → Bool) (o : Out (Ex × St)) : Out (Ex × St) := match pruneO d o with
  | some o => o
  | none => .bad 207
def finPcB (S : LoopSpec) (fs ts : List Tm) (base : PC) : PC := unlock base (substPc S.b (fs ++ ts) S.post) ++ base
/-- What is known behind the loop. -/
def finPc (S : LoopSpec) (fs ts : List Tm) (pc : PC) : PC := finPcB S fs ts (substPc S.b (fs ++ ts) S.post ++ (substPc S.b fs ((S.cond, S.pol) :: S.inv) ++ pc))
theorem finPc_ok {E : Env} {S : LoopSpec} {fs ts : List Tm} {pc : PC} (hp : PcOk E pc) (hi : PcOk (envV S.b E (fs.map (Tm.den E))) S.inv) (hc : (S.cond.den (envV S.b E (fs.map (Tm.den E)))).toB = S.pol)
    (hpost : PcOk (envV S.b E (fs.map (Tm.den E) ++ ts.map (Tm.den E))) S.post) : PcOk E (finPc S fs ts pc) := by
  have h1 : PcOk E (substPc S.b (fs ++ ts) S.post) := substPc_ok (by rw [List.map_append]; exact hpost)
  have h2 : PcOk E (substPc S.b fs ((S.cond, S.pol) :: S.inv)) := substPc_ok (fun p hp => by
    rcases List.mem_cons.1 hp with rfl | hp
    · exact hc
    · exact hi p hp)
  have hb : PcOk E (substPc S.b (fs ++ ts) S.post ++ (substPc S.b fs ((S.cond, S.pol) :: S.inv) ++ pc)) := fun p hm => by
    rcases List.mem_append.1 hm with hm | hm
    · exact h1 p hm
    · rcases List.mem_append.1 hm with hm | hm
      · exact h2 p hm
      · exact hp p hm
  unfold finPc finPcB
  exact fun p hm => (List.mem_append.1 hm).elim (unlock_ok hb h1 p) (hb p)
def loopF (run : Code → St → Out (Ex × St)) (c : Code) (S : LoopSpec) (σ : St) (g : St) (ts fs : List Tm) : Out (Ex × St) :=
  loopE (dead S fs) (run c { g with tm := g.tm.map (instV S.b fs), own := instB S.b fs g.own, ro := σ.ro, pc := finPc S fs ts σ.pc })
/-- One state out of a round's ways. -/
def oneN (g : St) (o : Out (Ex × St)) : Option St :=
  match o with
  | .ret (.normal, σ) => some σ
  | o => mergeN { g with ap := false } o
/-- One round from the template. -/
def roundL (run : Code → St → Out (Ex × St)) (c : Code) (S : LoopSpec) (pc : PC) (g : St) : Option St :=
  oneN g (run c { g with pc := addF (S.inv ++ outP S.b pc) S.cond (!S.pol) })
def loopM (run : Code → St → Out (Ex × St)) (c : Code) (S : LoopSpec) (n0 : Nat) (σ : St) (ts : List Tm) (g : St) : Out (Ex × St) :=
  match fitL (namJ (listsAt σ.tm S.lists n0) n0) S.b ts g.tm σ.tm, fitM (listsAt σ.tm S.lists n0) n0 S.b ts σ.own g.own, apartR (listsAt σ.tm S.lists n0) g.own g.own with
  | true, true, true => match Nat.beq g.nxt σ.nxt, Nat.beq g.lim σ.lim, Nat.ble (n0 + S.lists.length) σ.nxt, proveAll (unlock σ.pc σ.pc ++ σ.pc) S.b ts S.pre, Nat.beq ts.length S.next.length, Nat.beq ts.length S.width with
    | true, true, true, true, true, true => match roundL run c S σ.pc g with
      | some σ' => match fitL (namJ (listsAt σ'.tm S.lists n0) n0) S.b S.next g.tm σ'.tm, fitM (listsAt σ'.tm S.lists n0) n0 S.b S.next σ'.own g.own, apartR (listsAt σ'.tm S.lists n0) g.own g.own with
        | true, true, true => loopF run c S σ g ts (endT S ts)
        | _, _, _ => .bad 203
      | none => .bad 204
    | _, _, _, _, _, _ => .bad 202
  | _, _, _ => .bad 206
/-- The state at the beginning, its lists named; the terms of places and lists; the template. -/
def startL (c : Code) (S : LoopSpec) (σ : St) : Option (St × List Tm × St) :=
  match openAll S.lists σ with
  | none => none
  | some (σ0, l) => match initsOf σ0 S.places with
    | none => none
    | some ks => some (σ0, ks.map (·.2) ++ l, genSt c S ks σ.nxt σ0)
def loopL (run : Code → St → Out (Ex × St)) (c : Code) (S : LoopSpec) : Nat → St → Out (Ex × St)
  | 0, σ => match startL c S σ with
    | some (σ0, ts, g) => loopM run c S σ.nxt σ0 ts g
    | none => .bad 200
  | k + 1, σ => match startL c S σ with
    | some (σ0, ts, g) => loopM run c S σ.nxt σ0 ts g
    | none => (run c σ).bind fun r => match r with
      | (.normal, σ) => loopL run c S k σ
      | r => .ret r

theorem openAll_rep : ∀ {ls : List (Nat × List SK)} {σ σ' : St} {l : List Tm} {β : Pl}, RepM E β w0 σ a w → openAll ls σ = some (σ', l) → ∃ β', Ext β β' σ.nxt σ'.nxt ∧ RepM E β' w0 σ' a w
  | [], σ, σ', l, β, h, ho => by cases ho; exact ⟨β, Ext.refl _ _, h⟩
  | (t, ks) :: r, σ, σ', l, β, h, ho => by
    simp only [openAll] at ho
    split at ho
    · rename_i s hs
      split at ho
      · rename_i x hx hlt
        split at ho
        · rename_i σ2 l2 hr
          cases ho
          rw [nth?_get] at hs
          have hlt' : σ.nxt < σ.lim := by simpa [Nat.blt_eq] using hlt
          obtain ⟨β1, e1, h1⟩ := reopen_rep h (reps_memV h.tm (List.mem_of_getElem? hs)) hx (Nat.le_refl _) hlt'
          obtain ⟨β2, e2, h2⟩ := openAll_rep h1 hr
          exact ⟨β2, e1.trans e2, h2⟩
        · cases ho
      · cases ho
    · cases ho
theorem openAll_keeps : ∀ {ls : List (Nat × List SK)} {σ σ' : St} {l : List Tm}, openAll ls σ = some (σ', l) → σ'.pc = σ.pc ∧ σ'.ro = σ.ro ∧ σ'.lim = σ.lim
  | [], σ, σ', l, ho => by cases ho; exact ⟨rfl, rfl, rfl⟩
  | (t, ks) :: r, σ, σ', l, ho => by
    simp only [openAll] at ho
    split at ho
    · split at ho
      · split at ho
        · rename_i σ2 l2 hr
          cases ho
          have := openAll_keeps hr
          exact this
        · cases ho
      · cases ho
    · cases ho

/-! Rounds of which the first ones are run as they are -/
def roundsX (P : Program) (c : Code) (Q : Exit → Act → World → Prop) : Nat → Act → World → Prop
  | 0 => fun a w => ∃ n, Code.rounds P c Q n a w
  | k + 1 => fun a w => c.wp P (Exit.then (roundsX P c Q k) Q) a w
theorem wp_loop_X {c : Code} {Q : Exit → Act → World → Prop} : ∀ (k : Nat) {a : Act} {w : World}, roundsX P c Q k a w → (Code.loop c).wp P Q a w
  | 0, a, w, h => by obtain ⟨n, hn⟩ := h; exact wp_loop_rounds n hn
  | k + 1, a, w, h => by
    intro b kk cs
    have key : ∀ k a w, roundsX P c Q k a w → ∃ e a' w', Q e a' w' ∧ Arrives P (Go.lone (b.at a (.code c :: .inLoop c :: kk)) cs w) b kk cs e a' w' := by
      intro k
      induction k with
      | zero =>
        intro a w ⟨n, hn⟩
        induction n generalizing a w with
        | zero => exact hn.elim
        | succ n ih =>
          obtain ⟨e, a₁, w₁, hq, harr⟩ := hn b (.inLoop c :: kk) cs
          cases e with
          | normal =>
            obtain ⟨e₂, a₂, w₂, hq₂, harr₂⟩ := ih a₁ w₁ hq
            exact ⟨e₂, a₂, w₂, hq₂, .of_steps (Steps.trans harr (.one step_inLoop)) harr₂⟩
          | exit id => exact ⟨_, a₁, w₁, hq, .pass (x := .inLoop c) rfl (fun _ _ => .inl (by simp)) harr⟩
          | goto l => exact ⟨_, a₁, w₁, hq, .pass (x := .inLoop c) rfl (fun _ _ => .inl (by simp)) harr⟩
          | ret => exact ⟨_, a₁, w₁, hq, .pass (x := .inLoop c) rfl (fun _ _ => .inl (by simp)) harr⟩
          | panic ch => exact ⟨_, a₁, w₁, hq, .pass (x := .inLoop c) rfl (fun _ _ => .inl (by simp)) harr⟩
          | outgrown => exact ⟨_, a₁, w₁, hq, .pass (x := .inLoop c) rfl (fun _ _ => .inl (by simp)) harr⟩
      | succ k ih =>
        intro a w h
        obtain ⟨e, a₁, w₁, hq, harr⟩ := h b (.inLoop c :: kk) cs
        cases e with
        | normal =>
          obtain ⟨e₂, a₂, w₂, hq₂, harr₂⟩ := ih a₁ w₁ hq
          exact ⟨e₂, a₂, w₂, hq₂, .of_steps (Steps.trans harr (.one step_inLoop)) harr₂⟩
        | exit id => exact ⟨_, a₁, w₁, hq, .pass (x := .inLoop c) rfl (fun _ _ => .inl (by simp)) harr⟩
        | goto l => exact ⟨_, a₁, w₁, hq, .pass (x := .inLoop c) rfl (fun _ _ => .inl (by simp)) harr⟩
        | ret => exact ⟨_, a₁, w₁, hq, .pass (x := .inLoop c) rfl (fun _ _ => .inl (by simp)) harr⟩
        | panic ch => exact ⟨_, a₁, w₁, hq, .pass (x := .inLoop c) rfl (fun _ _ => .inl (by simp)) harr⟩
        | outgrown => exact ⟨_, a₁, w₁, hq, .pass (x := .inLoop c) rfl (fun _ _ => .inl (by simp)) harr⟩
    obtain ⟨e, a', w', hq, harr⟩ := key (k + 1) a w h
    exact ⟨e, a', w', hq, .of_steps (.one step_loop) harr⟩

theorem oneN_rep {g : St} : ∀ {o : Out (Ex × St)} {m : St}, oneN g o = some m → ∃ s, o.sel E = some (.normal, s) ∧ ∀ {β a w}, RepM E β w0 s a w → ∃ β', Ext β β' s.nxt m.nxt ∧ RepM E β' w0 m a w := by
  intro o m h
  unfold oneN at h
  split at h
  · cases h; exact ⟨m, rfl, fun {β _ _} hr => ⟨β, Ext.refl _ _, hr⟩⟩
  · exact mergeN_rep h
theorem inR_listsAt {tm : List SV} : ∀ {ls : List (Nat × List SK)} {m j : Nat}, inR (listsAt tm ls m) j = true → m ≤ j ∧ j < m + ls.length
  | [], _, _, h => by cases h
  | (t, ks) :: r, m, j, h => by
    simp only [listsAt, inR] at h
    split at h
    · rename_i hb
      have := Nat.eq_of_beq_eq_true hb
      subst this
      exact ⟨Nat.le_refl _, by simp⟩
    · obtain ⟨h1, h2⟩ := inR_listsAt h
      simp only [List.length_cons]
      exact ⟨by omega, by omega⟩
theorem rhoJ_out : ∀ {r : List (Nat × Nat)} {j : Nat}, inR r j = false → rhoJ r j = j
  | [], _, _ => rfl
  | (m, q) :: r, j, h => by
    simp only [inR, rhoJ] at h ⊢
    split at h
    · cases h
    · exact rhoJ_out h
/-- The places of the lists' blocks, taken anew. -/
def rebase (β0 β2 : Pl) (n0 n1 : Nat) (r : List (Nat × Nat)) : Pl := fun j => if n0 ≤ j ∧ j < n1 then β2 (rhoJ r j) else β0 j
theorem rebase_named {β0 β2 : Pl} {n0 n1 : Nat} {tm : List SV} {ls : List (Nat × List SK)} (hn : n0 + ls.length ≤ n1) (hold : ∀ j, j < n0 → β2 j = β0 j) : Named' (namJ (listsAt tm ls n0) n0) β2 (rebase β0 β2 n0 n1 (listsAt tm ls n0)) := by
  intro j j' h
  unfold namJ at h
  split at h
  · rename_i hb
    have e := Nat.eq_of_beq_eq_true hb
    unfold rebase
    split at h
    · rename_i hin
      obtain ⟨h1, h2⟩ := inR_listsAt hin
      rw [if_pos ⟨h1, by omega⟩, e]
    · rename_i hin
      have hlt : j < n0 := by simpa [Nat.blt_eq] using h
      rw [if_neg (by omega), ← hold j hlt, ← e, rhoJ_out hin]
  · cases h
theorem rebase_ext {β0 β2 : Pl} {n0 n1 lim : Nat} {r : List (Nat × Nat)} (hle : n0 ≤ n1) (hl : n1 ≤ lim) (hf : Fresh β0 n0 lim) : Ext β0 (rebase β0 β2 n0 n1 r) n0 n1 := by
  refine ⟨fun j b hb => ?_, fun j hj => ?_, hle⟩
  · unfold rebase
    split
    · rename_i h
      rw [hf j h.1 (by omega)] at hb; cases hb
    · exact hb
  · unfold rebase
    rw [if_neg (by omega)]
theorem rebase_fresh {β0 β2 : Pl} {n0 n1 lim : Nat} {r : List (Nat × Nat)} (hle : n0 ≤ n1) (hf : Fresh β0 n0 lim) : Fresh (rebase β0 β2 n0 n1 r) n1 lim := by
  intro j h1 h2
  unfold rebase
  rw [if_neg (by omega)]
  exact hf j (by omega) h2

theorem dead_ok {S : LoopSpec} {fs : List Tm} {σ : St} (hp : PcOk E σ.pc) (hc : (S.cond.den (envV S.b E (fs.map (Tm.den E)))).toB = S.pol) (h : dead S fs σ = true) : False := by
  have := prove_ok 60 hp h
  rw [substT_den, hc] at this
  cases hp : S.pol <;> simp [hp] at this
theorem pruneO_none {d : St → Bool} : ∀ {o : Out (Ex × St)}, pruneO d o = none → ∃ σ, o.sel E = some (.normal, σ) ∧ d σ = true
  | .ret r, h => by
    simp only [pruneO] at h
    split at h
    · split at h
      · rename_i hd; exact ⟨_, rfl, hd⟩
      · cases h
    · cases h
  | .bad _, h => by cases h
  | .br c x y, h => by
    simp only [pruneO] at h
    split at h
    · split at h <;> cases h
    · rename_i hx
      obtain ⟨σ1, g1, g2⟩ := pruneO_none hx
      obtain ⟨σ2, g3, g4⟩ := pruneO_none h
      cases hc : (c.den E).toB with
      | true => exact ⟨σ1, by simp [Out.sel, hc, g1], g2⟩
      | false => exact ⟨σ2, by simp [Out.sel, hc, g3], g4⟩
theorem pruneO_sel {d : St → Bool} : ∀ {o o' : Out (Ex × St)}, (∀ τ, o.sel E = some (.normal, τ) → d τ = true → False) → pruneO d o = some o' → ∀ {res : Ex × St}, o'.sel E = some res → o.sel E = some res
  | .ret r, o', hd, h, res, hs => by
    simp only [pruneO] at h
    split at h
    · split at h
      · cases h
      · cases h; cases hs
    · cases h; exact hs
  | .bad _, o', hd, h, res, hs => by cases h; cases hs
  | .br c x y, o', hd, h, res, hs => by
    have hdx : (c.den E).toB = true → ∀ τ, x.sel E = some (.normal, τ) → d τ = true → False := fun hc τ h1 h2 => hd τ (by simp [Out.sel, hc, h1]) h2
    have hdy : (c.den E).toB = false → ∀ τ, y.sel E = some (.normal, τ) → d τ = true → False := fun hc τ h1 h2 => hd τ (by simp [Out.sel, hc, h1]) h2
    simp only [pruneO] at h
    split at h
    · rename_i a ha
      split at h
      · rename_i b hb
        cases h
        simp only [Out.sel] at hs ⊢
        split at hs
        · rename_i hc; rw [if_pos hc]; exact pruneO_sel (hdx hc) ha hs
        · rename_i hc; rw [if_neg hc]; exact pruneO_sel (hdy (by simpa using hc)) hb hs
      · rename_i hb
        cases h
        cases hc : (c.den E).toB with
        | true => simp only [Out.sel, hc, if_true]; exact pruneO_sel (hdx hc) ha hs
        | false =>
          obtain ⟨σ, g1, g2⟩ := pruneO_none (E := E) hb
          exact (hdy hc σ g1 g2).elim
    · rename_i hx
      cases hc : (c.den E).toB with
      | true =>
        obtain ⟨σ, g1, g2⟩ := pruneO_none (E := E) hx
        exact (hdx hc σ g1 g2).elim
      | false => simp only [Out.sel, hc, Bool.false_eq_true, if_false]; exact pruneO_sel (hdy hc) h hs
theorem pruneO_ends {d : St → Bool} : ∀ {o o' : Out (Ex × St)}, pruneO d o = some o' → ∀ {τ : St}, o'.sel E = some (.normal, τ) → False
  | .ret r, o', h, τ, hs => by
    simp only [pruneO] at h
    split at h
    · split at h
      · cases h
      · cases h; cases hs
    · rename_i hn
      cases h
      simp only [Out.sel, Option.some.injEq] at hs
      exact hn τ hs
  | .bad _, o', h, τ, hs => by cases h; cases hs
  | .br c x y, o', h, τ, hs => by
    simp only [pruneO] at h
    split at h
    · rename_i a ha
      split at h
      · rename_i b hb
        cases h
        simp only [Out.sel] at hs
        split at hs
        · exact pruneO_ends ha hs
        · exact pruneO_ends hb hs
      · cases h; exact pruneO_ends ha hs
    · exact pruneO_ends h hs
theorem loopE_ends {d : St → Bool} {o : Out (Ex × St)} {τ : St} (hs : (loopE d o).sel E = some (.normal, τ)) : False := by
  unfold loopE at hs
  split at hs
  · rename_i o' ho; exact pruneO_ends ho hs
  · cases hs
theorem loopE_sel {d : St → Bool} {o : Out (Ex × St)} (hd : ∀ τ, o.sel E = some (.normal, τ) → d τ = true → False) {res : Ex × St} (hs : (loopE d o).sel E = some res) : o.sel E = some res := by
  unfold loopE at hs
  split at hs
  · rename_i o' ho; exact pruneO_sel hd ho hs
  · cases hs
theorem loopM_ok {run : Code → St → Out (Ex × St)} {c : Code} {S : LoopSpec} (hrun : ∀ E' : Env, E'.fn = E.fn → CodeOk P E' c (run c)) (hrunp : ∀ σ, PcOk E σ.pc → Pcs E (fun x => x.2.pc) (run c σ)) (hL : LoopLaw S E) {n0 : Nat} {σ : St} {ts : List Tm} {g : St} {β0 : Pl} {res : Ex × St}
    (hM : RepM E β w0 σ a w) (hpc0 : PcOk E σ.pc) (he0 : Ext β0 β n0 σ.nxt) (hf0 : Fresh β0 n0 σ.lim) (hro0 : Reads E β0 σ.ro w0) (hgro : g.ro = outM S.b σ.ro)
    (hs : (loopM run c S n0 σ ts g).sel E = some res) (Q : Exit → Act → World → Prop) (hQ : ∀ β' a' w', Ext β0 β' n0 res.2.nxt → RepS E β' w0 res.2 a' w' → Q (exOf res.1) a' w') :
    ∃ n, Code.rounds P c Q n a w := by
  unfold loopM at hs
  split at hs
  · rename_i f1 f2 f3
    split at hs
    · rename_i f4 f5 f6 f7 f8 f9
      have e4 := Nat.eq_of_beq_eq_true f4
      have e5 := Nat.eq_of_beq_eq_true f5
      have e6 := Nat.le_of_ble_eq_true f6
      have e8 := Nat.eq_of_beq_eq_true f8
      have e9 := Nat.eq_of_beq_eq_true f9
      have hle0 : n0 ≤ σ.nxt := by omega
      split at hs
      · rename_i σ' hround
        split at hs
        · rename_i k1 k2 k3
          have hpcu : PcOk E (unlock σ.pc σ.pc ++ σ.pc) := fun p hm => (List.mem_append.1 hm).elim (unlock_ok hpc0 hpc0 p) (hpc0 p)
          have hpre := proveAll_ok hpcu f7
          obtain ⟨hrounds, hpost⟩ := hL (ts.map (Tm.den E)) (by simpa using e9) hpre
          have hfin := lpFin_den e8 hrounds
          rw [← hfin] at hpost
          generalize hfs : endT S ts = fs at *
          -- what a template says once more
          have again : ∀ {E1 : Env} {β2 : Pl} {τ : St} {us : List Tm} {a : Act} {w : World}, fitL (namJ (listsAt τ.tm S.lists n0) n0) S.b us g.tm τ.tm = true → fitM (listsAt τ.tm S.lists n0) n0 S.b us τ.own g.own = true → apartR (listsAt τ.tm S.lists n0) g.own g.own = true →
              (∀ j, j < n0 → β2 j = β0 j) → RepM E1 β2 w0 τ a w → ∃ βr, Ext β0 βr n0 σ.nxt ∧ RepM (envV S.b E1 (us.map (Tm.den E1))) βr w0 g a w := by
            intro E1 β2 τ us a w q1 q2 q3 hold hr
            refine ⟨rebase β0 β2 n0 σ.nxt (listsAt τ.tm S.lists n0), rebase_ext hle0 hM.le hf0, fit_rep q1 q2 q3 (rebase_named e6 hold) ?_ ?_ hr⟩
            · rw [e4, e5]; exact rebase_fresh hle0 hf0
            · rw [e4, e5]; exact hM.le
          have key : ∀ {v z : List Sc}, Rounds S E v z → z = fs.map (Tm.den E) → ∃ n, ∀ (βr : Pl) (a : Act) (w : World), Ext β0 βr n0 σ.nxt → RepM (envV S.b E v) βr w0 g a w → Code.rounds P c Q n a w := by
            intro v z hr
            induction hr with
            | stop hi hc =>
              rename_i v
              intro hz
              subst hz
              refine ⟨1, fun βr a w her hrep => ?_⟩
              rw [rounds_succ]
              unfold loopF at hs
              have hpc : PcOk E (finPc S fs ts σ.pc) := finPc_ok hpc0 hi hc hpost
              have hr1 := loopE_sel (d := dead S fs) (fun τ h1 h2 => dead_ok (hrunp _ hpc _ h1) hc h2) hs
              have hrep' := inst_rep (ro := σ.ro) (pc := finPc S fs ts σ.pc) (hro0.below her.mono (Below.refl _ _)) hpc hrep
              refine hrun E rfl hrep' hr1 _ fun β' a' w' he hrep2 => ?_
              have he' : Ext β0 β' n0 res.2.nxt := her.trans (by rw [← e4]; exact he)
              obtain ⟨x, σ2⟩ := res
              cases x with
              | normal => exact (loopE_ends hs).elim
              | exit id => exact hQ β' a' w' he' hrep2
              | ret => exact hQ β' a' w' he' hrep2
            | more hi hc _ ih =>
              rename_i v z _
              intro hz
              obtain ⟨n, ih⟩ := ih hz
              refine ⟨n + 1, fun βr a w her hrep => ?_⟩
              have hrep1 : RepS (envV S.b E v) βr w0 { g with pc := addF (S.inv ++ outP S.b σ.pc) S.cond (!S.pol) } a w :=
                { tm := hrep.tm, df := hrep.df, own := hrep.own, fresh := hrep.fresh, le := hrep.le, below := hrep.below, ro := by
                    show Reads _ _ g.ro _
                    rw [hgro]
                    exact outM_reads her.mono hro0, pc := addF_ok _ (fun p hp => by
                    rcases List.mem_append.1 hp with hp | hp
                    · exact hi p hp
                    · exact outP_ok hpc0 p hp) hc }
              rw [rounds_succ]
              unfold roundL at hround
              obtain ⟨s, g1, g2⟩ := oneN_rep (E := envV S.b E v) (w0 := w0) hround
              refine hrun (envV S.b E v) rfl hrep1 (res := (.normal, s)) g1 _ fun β1 a' w' he hrep2 => ?_
              obtain ⟨β2, he2, hrep3⟩ := g2 hrep2.toRepM
              have hold : ∀ j, j < n0 → β2 j = β0 j := fun j hj => by
                have h1 : j < g.nxt := by rw [e4]; omega
                have h2 : j < s.nxt := Nat.lt_of_lt_of_le h1 he.le
                rw [he2.dom j (.inl h2), he.dom j (.inl h1), her.dom j (.inl hj)]
              obtain ⟨β3, he3, hrep4⟩ := again (E1 := envV S.b E v) k1 k2 k3 hold hrep3
              rw [envV_envV] at hrep4
              exact ih β3 a' w' he3 hrep4
          obtain ⟨n, hn⟩ := key hrounds hfin.symm
          obtain ⟨β3, he3, hrep3⟩ := again (E1 := E) f1 f2 f3 (fun j hj => he0.dom j (.inl hj)) hM
          exact ⟨n, hn β3 a w he3 hrep3⟩
        · cases hs
      · cases hs
    · cases hs
  · cases hs
theorem setPl_ro {g : St} {p : Place} {s : SV} : (setPl g p s).ro = g.ro := by
  unfold setPl
  repeat' split
  all_goals rfl
theorem setAll_ro {b : Nat} : ∀ {l : List Place} {ks : List (SK × Tm)} {j : Nat} {g : St}, (setAll b l ks j g).ro = g.ro
  | [], _, _, _ => by unfold setAll; rfl
  | p :: r, [], _, _ => by unfold setAll; rfl
  | p :: r, (k, t) :: x, j, g => by
    unfold setAll
    rw [setAll_ro, setPl_ro]
theorem keepAll_ro {σ : St} : ∀ {l : List Place} {g : St}, (keepAll σ l g).ro = g.ro
  | [], _ => rfl
  | p :: r, g => by
    unfold keepAll
    rw [keepAll_ro, setPl_ro]
theorem openParts_ro {σ : St} : ∀ {l : List Place} {g : St}, (openParts σ l g).ro = g.ro
  | [], _ => rfl
  | p :: r, g => by
    unfold openParts
    split
    · split
      · rw [openParts_ro]
      · rw [openParts_ro]
    · rw [openParts_ro]
theorem setLists_ro {b : Nat} : ∀ {l : List (Nat × List SK)} {j i : Nat} {g : St}, (setLists b l j i g).ro = g.ro
  | [], _, _, _ => rfl
  | (t, ks) :: r, j, i, g => by
    unfold setLists
    rw [setLists_ro]
theorem genSt_ro {c : Code} {S : LoopSpec} {ks : List (SK × Tm)} {m0 : Nat} {σ : St} : (genSt c S ks m0 σ).ro = outM S.b σ.ro := by
  unfold genSt
  rw [setLists_ro, setAll_ro, openParts_ro, keepAll_ro]
theorem startL_rep {c : Code} {S : LoopSpec} {σ σ0 g : St} {ts : List Tm} (h : RepS E β w0 σ a w) (hs : startL c S σ = some (σ0, ts, g)) :
    ∃ β', Ext β β' σ.nxt σ0.nxt ∧ RepM E β' w0 σ0 a w ∧ σ0.pc = σ.pc ∧ σ0.ro = σ.ro ∧ σ0.lim = σ.lim ∧ g.ro = outM S.b σ0.ro := by
  unfold startL at hs
  split at hs
  · cases hs
  · rename_i σ1 l hopen
    split at hs
    · cases hs
    · cases hs
      obtain ⟨β', he, hr⟩ := openAll_rep h.toRepM hopen
      obtain ⟨k1, k2, k3⟩ := openAll_keeps hopen
      exact ⟨β', he, hr, k1, k2, k3, genSt_ro⟩
theorem wp_monoX {c : Code} {Q Q' : Exit → Act → World → Prop} (h : c.wp P Q a w) (hq : ∀ e a w, Q e a w → Q' e a w) : c.wp P Q' a w := by
  intro b k cs
  obtain ⟨e, a', w', hq', harr⟩ := h b k cs
  exact ⟨e, a', w', hq _ _ _ hq', harr⟩
theorem roundsX_of {c : Code} {Q : Exit → Act → World → Prop} : ∀ (k : Nat) {a : Act} {w : World}, (∃ n, Code.rounds P c Q n a w) → roundsX P c Q k a w
  | 0, _, _, h => h
  | k + 1, a, w, ⟨n, hn⟩ => by
    cases n with
    | zero => exact hn.elim
    | succ n =>
      rw [rounds_succ] at hn
      refine wp_monoX hn fun e a w h => ?_
      cases e with
      | normal => exact roundsX_of k ⟨n, h⟩
      | _ => exact h
theorem loopL_rounds {run : Code → St → Out (Ex × St)} {c : Code} {S : LoopSpec} (hrun : ∀ E' : Env, E'.fn = E.fn → CodeOk P E' c (run c)) (hrunp : ∀ σ, PcOk E σ.pc → Pcs E (fun x => x.2.pc) (run c σ)) (hL : LoopLaw S E) : ∀ (k : Nat) {σ : St} {res : Ex × St} {β : Pl} {a : Act} {w : World}, RepS E β w0 σ a w → (loopL run c S k σ).sel E = some res →
    ∀ Q : Exit → Act → World → Prop, (∀ β' a' w', Ext β β' σ.nxt res.2.nxt → RepS E β' w0 res.2 a' w' → Q (exOf res.1) a' w') → roundsX P c Q k a w := by
  intro k
  induction k with
  | zero =>
    intro σ res β a w h hs Q hQ
    simp only [loopL] at hs
    split at hs
    · rename_i σ0 ts g hst
      obtain ⟨β', he, hr, k1, k2, k3, k4⟩ := startL_rep h hst
      exact loopM_ok hrun hrunp hL hr (by rw [k1]; exact h.pc) he (by rw [k3]; exact h.fresh) (by rw [k2]; exact h.ro) k4 hs Q hQ
    · cases hs
  | succ k ih =>
    intro σ res β a w h hs Q hQ
    simp only [loopL] at hs
    split at hs
    · rename_i σ0 ts g hst
      obtain ⟨β', he, hr, k1, k2, k3, k4⟩ := startL_rep h hst
      exact roundsX_of _ (loopM_ok hrun hrunp hL hr (by rw [k1]; exact h.pc) he (by rw [k3]; exact h.fresh) (by rw [k2]; exact h.ro) k4 hs Q hQ)
    · obtain ⟨r, h1, h2⟩ := Out.sel_bind_some hs
      refine hrun E rfl h h1 _ fun β' a' w' he hrep => ?_
      obtain ⟨x, σ1⟩ := r
      cases x with
      | normal => exact ih hrep h2 Q fun β2 a2 w2 he2 hrep2 => hQ β2 a2 w2 (he.trans he2) hrep2
      | exit id => simp only [Out.sel, Option.some.injEq] at h2; subst h2; exact hQ β' a' w' he hrep
      | ret => simp only [Out.sel, Option.some.injEq] at h2; subst h2; exact hQ β' a' w' he hrep
/-- WHAT THE EXECUTOR RECKONS OF A LOOP IS WHAT THE LOOP DOES. -/
theorem loopL_ok {run : Code → St → Out (Ex × St)} {c : Code} {S : LoopSpec} (k : Nat) (hrun : ∀ E' : Env, E'.fn = E.fn → CodeOk P E' c (run c)) (hrunp : ∀ σ, PcOk E σ.pc → Pcs E (fun x => x.2.pc) (run c σ)) (hL : LoopLaw S E) : CodeOk P E (.loop c) (loopL run c S k) := by
  intro σ res β w0 a w h hs Q hQ
  exact wp_loop_X k (loopL_rounds hrun hrunp hL k h hs Q hQ)
theorem loopM_pc {run : Code → St → Out (Ex × St)} {c : Code} {S : LoopSpec} (hrun : ∀ σ, PcOk E σ.pc → Pcs E (fun x => x.2.pc) (run c σ)) (hL : LoopLaw S E) {n0 : Nat} {σ : St} {ts : List Tm} {g : St} (hp : PcOk E σ.pc) : Pcs E (fun x => x.2.pc) (loopM run c S n0 σ ts g) := by
  intro res hs
  unfold loopM at hs
  split at hs
  · split at hs
    · rename_i f4 f5 f6 f7 f8 f9
      split at hs
      · split at hs
        · have hpcu : PcOk E (unlock σ.pc σ.pc ++ σ.pc) := fun p hm => (List.mem_append.1 hm).elim (unlock_ok hp hp p) (hp p)
          have hpre := proveAll_ok hpcu f7
          obtain ⟨hrounds, hpost⟩ := hL (ts.map (Tm.den E)) (by simpa using Nat.eq_of_beq_eq_true f9) hpre
          have hfin := lpFin_den (Nat.eq_of_beq_eq_true f8) hrounds
          obtain ⟨g1, g2⟩ := hrounds.end_
          rw [← hfin] at g1 g2 hpost
          unfold loopF at hs
          have hpc := finPc_ok (ts := ts) hp g1 g2 hpost
          have hr1 := loopE_sel (d := dead S (endT S ts)) (fun τ h1 h2 => dead_ok (hrun _ hpc _ h1) g2 h2) hs
          exact hrun _ hpc _ hr1
        · cases hs
      · cases hs
    · cases hs
  · cases hs
theorem startL_pc {c : Code} {S : LoopSpec} {σ σ0 g : St} {ts : List Tm} (hs : startL c S σ = some (σ0, ts, g)) : σ0.pc = σ.pc := by
  unfold startL at hs
  split at hs
  · cases hs
  · rename_i σ1 l hopen
    split at hs
    · cases hs
    · cases hs
      exact (openAll_keeps hopen).1
theorem loopL_pc {run : Code → St → Out (Ex × St)} {c : Code} {S : LoopSpec} (hrun : ∀ σ, PcOk E σ.pc → Pcs E (fun x => x.2.pc) (run c σ)) (hL : LoopLaw S E) : ∀ (k : Nat) (σ : St), PcOk E σ.pc → Pcs E (fun x => x.2.pc) (loopL run c S k σ)
  | 0, σ, hp => by
    unfold loopL
    split
    · rename_i hst
      exact loopM_pc hrun hL (by rw [startL_pc hst]; exact hp)
    · exact .bad
  | k + 1, σ, hp => by
    unfold loopL
    split
    · rename_i hst
      exact loopM_pc hrun hL (by rw [startL_pc hst]; exact hp)
    · refine .bind (hrun σ hp) fun r hr => ?_
      obtain ⟨x, σ1⟩ := r
      cases x with
      | normal => exact loopL_pc hrun hL k σ1 hr
      | exit id => exact .ret hr
      | ret => exact .ret hr

/-- The first region of a piece of code. -/
def keyOf : Code → Option Nat
  | .region id _ _ => some id
  | .seq x y => match keyOf x with
    | some k => some k
    | none => keyOf y
  | .block _ c => keyOf c
  | .loop c => keyOf c
  | .cond _ x y => match keyOf x with
    | some k => some k
    | none => keyOf y
  | _ => none
/-- The loops of a list, each by its first region. -/
def findL : List (Nat × LoopSpec) → Nat → Option LoopSpec
  | [], _ => none
  | (k, S) :: r, i => match Nat.beq k i with
    | true => some S
    | false => findL r i
theorem findL_mem : ∀ {l : List (Nat × LoopSpec)} {i : Nat} {S : LoopSpec}, findL l i = some S → ∃ k, (k, S) ∈ l
  | [], _, _, h => by cases h
  | (k, S0) :: r, i, S, h => by
    simp only [findL] at h
    split at h
    · cases h; exact ⟨k, List.mem_cons_self ..⟩
    · obtain ⟨k', hk⟩ := findL_mem h; exact ⟨k', List.mem_cons_of_mem _ hk⟩
def loopsCc (run : Code → St → Out (Ex × St)) (Ls : List (Nat × LoopSpec)) (c : Code) : Option (St → Out (Ex × St)) :=
  match keyOf c with
  | none => none
  | some k => match findL Ls k with
    | none => none
    | some S => some (loopL run c S 2)
/-- A context with loops. -/
def orC (a b : Option (St → Out (Ex × St))) : Option (St → Out (Ex × St)) := match a with | some x => some x | none => b
def withLoops (ctx : Ctx) (P : Program) (n : Nat) (Ls : List (Nat × LoopSpec)) : Ctx := { ctx with cc := fun c => orC (loopsCc (exec ctx P n) Ls c) (ctx.cc c) }
theorem withLoops_ok {ctx : Ctx} {n : Nat} {Ls : List (Nat × LoopSpec)} (hC : ∀ E' : Env, E'.fn = E.fn → CtxOk P E' ctx ∧ CtxPc E' ctx) (hN : Named P) (hmix : P.follows .mixedOrders = true) (hL : ∀ k S, (k, S) ∈ Ls → LoopLaw S E) :
    CtxOk P E (withLoops ctx P n Ls) ∧ CtxPc E (withLoops ctx P n Ls) := by
  have key : ∀ c L, loopsCc (exec ctx P n) Ls c = some L → ∃ S, LoopLaw S E ∧ L = loopL (exec ctx P n) c S 2 := by
    intro c L h
    unfold loopsCc at h
    split at h
    · cases h
    · split at h
      · cases h
      · rename_i S hS
        cases h
        obtain ⟨k, hk⟩ := findL_mem hS
        exact ⟨S, hL k S hk, rfl⟩
  have or2 : ∀ c L, orC (loopsCc (exec ctx P n) Ls c) (ctx.cc c) = some L → (∃ S, LoopLaw S E ∧ L = loopL (exec ctx P n) c S 2) ∨ ctx.cc c = some L := by
    intro c L h
    unfold orC at h
    split at h
    · rename_i x hx
      cases h
      exact .inl (key c _ hx)
    · exact .inr h
  refine ⟨⟨(hC E rfl).1.sum, fun c L h => ?_, (hC E rfl).1.fxs⟩, ⟨(hC E rfl).2.sum, fun c L h => ?_, (hC E rfl).2.fxs⟩⟩
  · rcases or2 c L h with ⟨S, h1, rfl⟩ | h
    · exact loopL_ok 2 (fun E' he => (exec_ok (hC E' he).1 (hC E' he).2 hN hmix n).1 c) (fun σ hp => exec_pc (hC E rfl).2 n c σ hp) h1
    · exact (hC E rfl).1.cc c L h
  · rcases or2 c L h with ⟨S, h1, rfl⟩ | h
    · exact loopL_pc (fun σ hp => exec_pc (hC E rfl).2 n c σ hp) h1 2
    · exact (hC E rfl).2.cc c L h
end
end Go.Sx
