/- Loops whose number of rounds is open: the executor reckons one round, a law in plain Lean says where the rounds end. No condition. -/
import Derived.Test.YtamljpeicecbjaaSxSound
set_option linter.unusedVariables false
set_option linter.unusedSimpArgs false
noncomputable section
namespace Go.Sx
open Go Go.RowKit

/-- A place that a loop changes: a slot, or a cell behind the address in a slot. -/
inductive Place where
  | slot (t : Nat) | cell (t o : Nat) | part (t i : Nat)

/-- A loop: the places, whose values at the beginning of a round are the variables from b on; the name of what they are at the end; what must be known at first; what is known in each round, and at the end; the test by which it ends and its answer there; the places behind a round. -/
structure LoopSpec where
  b : Nat
  places : List Place
  keep : List Place := []
  N : Nat
  pre : PC
  inv : PC
  post : PC := []
  cond : Tm
  pol : Bool
  next : List Tm
  /-- How many of the places the name reads and changes. -/
  ar : Option Nat := none

def envV (b : Nat) (fn : Nat → Sc → Sc) (v : List Sc) : Env := ⟨fun i => if b ≤ i then (v[i - b]?).getD .nil else .nil, fn⟩

/-- The rounds from values v on end with z. -/
inductive Rounds (S : LoopSpec) (fn : Nat → Sc → Sc) : List Sc → List Sc → Prop
  | stop {v : List Sc} : PcOk (envV S.b fn v) S.inv → (S.cond.den (envV S.b fn v)).toB = S.pol → Rounds S fn v v
  | more {v z : List Sc} : PcOk (envV S.b fn v) S.inv → (S.cond.den (envV S.b fn v)).toB = (!S.pol) → Rounds S fn (S.next.map (Tm.den (envV S.b fn v))) z → Rounds S fn v z
def finOf (fn : Nat → Sc → Sc) (N : Nat) (v : List Sc) : List Sc := (List.range v.length).map fun j => (fn N (Sc.ofList v)).at_ j
/-- The same, where the name reads and changes the first k alone. -/
def finK (fn : Nat → Sc → Sc) (N k : Nat) (v : List Sc) : List Sc := (List.range v.length).map fun j => if j < k then (fn N (Sc.ofList (v.take k))).at_ j else (v[j]?).getD .nil
def finS (S : LoopSpec) (fn : Nat → Sc → Sc) (v : List Sc) : List Sc := match S.ar with
  | none => finOf fn S.N v
  | some k => finK fn S.N k v
/-- What is to be shown of a loop, in plain Lean. -/
def LoopLaw (S : LoopSpec) (fn : Nat → Sc → Sc) : Prop := ∀ v : List Sc, v.length = S.places.length → PcOk (envV S.b fn v) S.pre → Rounds S fn v (finS S fn v) ∧ PcOk (envV S.b fn (finS S fn v ++ v)) S.post

theorem Rounds.end_ {S : LoopSpec} {fn : Nat → Sc → Sc} {v z : List Sc} (h : Rounds S fn v z) : PcOk (envV S.b fn z) S.inv ∧ (S.cond.den (envV S.b fn z)).toB = S.pol := by
  induction h with
  | stop h1 h2 => exact ⟨h1, h2⟩
  | more _ _ _ ih => exact ih
theorem Rounds.const {S : LoopSpec} {fn : Nat → Sc → Sc} {v z : List Sc} (h : Rounds S fn v z) {j : Nat} (hj : S.next[j]? = some (.var (S.b + j))) (hl : v.length = S.next.length) : z[j]? = v[j]? := by
  induction h with
  | stop _ _ => rfl
  | more _ _ _ ih =>
    rename_i v z _ _ _
    rw [ih (by simp)]
    have hlt : j < v.length := by rw [hl]; exact (List.getElem?_eq_some_iff.1 hj).1
    simp [hj, Tm.den, envV, hlt]

/-! Terms with others in the place of variables -/
def substT (b : Nat) (ts : List Tm) : Tm → Tm
  | .var i => match Nat.ble b i with
    | true => match nth? ts (i - b) with
      | some t => t
      | none => .nil
    | false => .nil
  | .cons h t => .cons (substT b ts h) (substT b ts t)
  | .op o x y => mkOp o (substT b ts x) (substT b ts y)
  | .ite c x y => .ite (substT b ts c) (substT b ts x) (substT b ts y)
  | .app f x => .app f (substT b ts x)
  | .nth n x => .nth n (substT b ts x)
  | t => t
theorem ble_iff {a b : Nat} : Nat.ble a b = true ↔ a ≤ b := ⟨Nat.le_of_ble_eq_true, Nat.ble_eq_true_of_le⟩
theorem substT_den {E : Env} {b : Nat} {ts : List Tm} : ∀ (t : Tm), (substT b ts t).den E = t.den (envV b E.fn (ts.map (Tm.den E)))
  | .var i => by
    simp only [substT, Tm.den, envV]
    split
    · rename_i h
      rw [if_pos (ble_iff.1 h)]
      rw [nth?_get]
      cases ht : ts[i - b]? <;> simp [ht, Tm.den]
    · rename_i h
      rw [if_neg (fun e => by rw [ble_iff.2 e] at h; cases h)]
      rfl
  | .bl _ => rfl | .il _ => rfl | .fl _ => rfl | .sl _ => rfl | .nil => rfl
  | .cons h t => by simp only [substT, Tm.den, substT_den h, substT_den t]
  | .op o x y => by simp only [substT, Tm.den, mkOp_den, substT_den x, substT_den y]
  | .ite c x y => by simp only [substT, Tm.den, substT_den c, substT_den x, substT_den y]
  | .app f x => by simp only [substT, Tm.den, substT_den x]; rfl
  | .nth n x => by simp only [substT, Tm.den, substT_den x]
/-- What a choice says, once the choice is known. -/
def unlock (pc : PC) : PC → PC
  | [] => []
  | (t, v) :: r => match t, v with
    | .ite c a x, true => match a with
      | .bl true => match decB pc c with
        | some false => (x, true) :: unlock pc r
        | _ => unlock pc r
      | _ => unlock pc r
    | _, _ => unlock pc r
theorem unlock_ok {E : Env} {pc : PC} (hp : PcOk E pc) : ∀ {l : PC}, PcOk E l → PcOk E (unlock pc l)
  | [], _ => fun p h => by cases h
  | (t, v) :: r, h => by
    have hr : PcOk E (unlock pc r) := unlock_ok hp (fun p hm => h p (List.mem_cons_of_mem _ hm))
    unfold unlock
    split
    · rename_i c a x
      split
      · split
        · rename_i hd
          have hc := decB_ok hp c hd
          have h0 := h _ (List.mem_cons_self ..)
          simp only [Tm.den, hc, Bool.false_eq_true, if_false] at h0
          intro p hm
          rcases List.mem_cons.1 hm with rfl | hm
          · exact h0
          · exact hr p hm
        · exact hr
      · exact hr
    · exact hr
def proveAll (pc : PC) (b : Nat) (ts : List Tm) : PC → Bool
  | [] => true
  | (t, v) :: r => match prove v 60 pc (substT b ts t) with
    | true => proveAll pc b ts r
    | false => false
theorem proveAll_ok {E : Env} {pc : PC} {b : Nat} {ts : List Tm} (hp : PcOk E pc) : ∀ {l : PC}, proveAll pc b ts l = true → PcOk (envV b E.fn (ts.map (Tm.den E))) l
  | [], _ => fun p hp => by cases hp
  | (t, v) :: r, h => by
    simp only [proveAll] at h
    split at h
    · rename_i h1
      intro p hm
      rcases List.mem_cons.1 hm with rfl | hm
      · have := prove_ok 60 hp h1
        rw [substT_den] at this
        exact this
      · exact proveAll_ok hp h p hm
    · cases h
def substPc (b : Nat) (ts : List Tm) : PC → PC
  | [] => []
  | (t, v) :: r => (substT b ts t, v) :: substPc b ts r
theorem substPc_ok {E : Env} {b : Nat} {ts : List Tm} : ∀ {l : PC}, PcOk (envV b E.fn (ts.map (Tm.den E))) l → PcOk E (substPc b ts l)
  | [], _ => fun p hp => by cases hp
  | (t, v) :: r, h => by
    intro p hm
    simp only [substPc] at hm
    rcases List.mem_cons.1 hm with rfl | hm
    · simp only
      rw [substT_den]
      exact h (t, v) (List.mem_cons_self ..)
    · exact substPc_ok (fun p hp => h p (List.mem_cons_of_mem _ hp)) p hm
def consT : List Tm → Tm
  | [] => .nil
  | t :: r => .cons t (consT r)
theorem consT_den {E : Env} : ∀ (ts : List Tm), (consT ts).den E = Sc.ofList (ts.map (Tm.den E))
  | [] => rfl
  | t :: r => by simp only [consT, Tm.den, List.map_cons, Sc.ofList, consT_den r]
/-- The terms of the places at the end. -/
def lpFin (S : LoopSpec) (A : Tm) : List Tm → List Tm → Nat → List Tm
  | [], _, _ => []
  | t :: r, nx, j => (match nx with
    | [] => .nth j A
    | u :: _ => match u with
      | .var i => match Nat.beq i (S.b + j) with
        | true => t
        | false => .nth j A
      | _ => .nth j A) :: lpFin S A r (nx.drop 1) (j + 1)
theorem lpFin_get {S : LoopSpec} {A : Tm} : ∀ {ts nx : List Tm} {j i : Nat} {t : Tm}, ts[i]? = some t → (lpFin S A ts nx j)[i]? = some (.nth (j + i) A) ∨ ((lpFin S A ts nx j)[i]? = some t ∧ nx[i]? = some (.var (S.b + (j + i))))
  | [], _, _, _, _, h => by simp at h
  | t0 :: r, nx, j, 0, t, h => by
    simp at h
    subst h
    simp only [lpFin, List.getElem?_cons_zero, Nat.add_zero]
    split
    · exact .inl rfl
    · rename_i u x
      split
      · rename_i i
        split
        · rename_i hb
          exact .inr ⟨rfl, by simp [Nat.eq_of_beq_eq_true hb]⟩
        · exact .inl rfl
      · exact .inl rfl
  | t0 :: r, nx, j, i + 1, t, h => by
    have := lpFin_get (S := S) (A := A) (ts := r) (nx := nx.drop 1) (j := j + 1) (i := i) (t := t) (by simpa using h)
    simp only [lpFin, List.getElem?_cons_succ]
    rw [show j + 1 + i = j + (i + 1) by omega] at this
    rcases this with h1 | ⟨h1, h2⟩
    · exact .inl h1
    · refine .inr ⟨h1, ?_⟩
      rw [← h2, List.getElem?_drop]
      congr 1
      omega
theorem lpFin_length {S : LoopSpec} {A : Tm} : ∀ {ts nx : List Tm} {j : Nat}, (lpFin S A ts nx j).length = ts.length
  | [], _, _ => rfl
  | _ :: r, nx, j => by simp only [lpFin, List.length_cons, lpFin_length (ts := r)]
/-- The terms of the places at the end, by the name of all or of the first k. -/
def takeT : Nat → List Tm → List Tm
  | 0, _ => []
  | _ + 1, [] => []
  | k + 1, t :: r => t :: takeT k r
def dropT : Nat → List Tm → List Tm
  | 0, l => l
  | _ + 1, [] => []
  | k + 1, _ :: r => dropT k r
theorem takeT_eq : ∀ (k : Nat) (l : List Tm), takeT k l = l.take k
  | 0, _ => by simp [takeT]
  | k + 1, [] => by simp [takeT]
  | k + 1, t :: r => by simp [takeT, takeT_eq k r]
theorem dropT_eq : ∀ (k : Nat) (l : List Tm), dropT k l = l.drop k
  | 0, _ => by simp [dropT]
  | k + 1, [] => by simp [dropT]
  | k + 1, t :: r => by simp [dropT, dropT_eq k r]
def endT (S : LoopSpec) (ts : List Tm) : List Tm := match S.ar with
  | none => lpFin S (.app S.N (consT ts)) ts S.next 0
  | some k => lpFin S (.app S.N (consT (takeT k ts))) (takeT k ts) S.next 0 ++ dropT k ts

theorem lpFin_den {S : LoopSpec} {E : Env} {ts : List Tm} (hl : ts.length = S.next.length) (hr : Rounds S E.fn (ts.map (Tm.den E)) (finS S E.fn (ts.map (Tm.den E)))) :
    (endT S ts).map (Tm.den E) = finS S E.fn (ts.map (Tm.den E)) := by
  unfold endT
  cases ha : S.ar with
  | none =>
    have e0 : finS S E.fn (ts.map (Tm.den E)) = finOf E.fn S.N (ts.map (Tm.den E)) := by unfold finS; rw [ha]
    rw [e0] at hr ⊢
    simp only
    refine List.ext_getElem? fun i => ?_
    rcases Nat.lt_or_ge i ts.length with hi | hi
    · have ht : ts[i]? = some ts[i] := List.getElem?_eq_getElem hi
      have hfin : (finOf E.fn S.N (ts.map (Tm.den E)))[i]? = some ((E.fn S.N (Sc.ofList (ts.map (Tm.den E)))).at_ i) := by
        simp [finOf, hi]
      rw [List.getElem?_map]
      rcases lpFin_get (S := S) (A := .app S.N (consT ts)) (nx := S.next) (j := 0) ht with h | ⟨h, hv⟩
      · rw [h, hfin]
        simp only [Option.map_some, Nat.zero_add, Tm.den, consT_den]
      · rw [h]
        rw [Nat.zero_add] at hv
        have := hr.const hv (by simpa using hl)
        rw [this]
        simp [ht]
    · rw [List.getElem?_eq_none, List.getElem?_eq_none]
      · simp [finOf]; omega
      · simp [lpFin_length]; omega
  | some k =>
    have e0 : finS S E.fn (ts.map (Tm.den E)) = finK E.fn S.N k (ts.map (Tm.den E)) := by unfold finS; rw [ha]
    rw [e0] at hr ⊢
    simp only [takeT_eq, dropT_eq]
    refine List.ext_getElem? fun i => ?_
    rcases Nat.lt_or_ge i ts.length with hi | hi
    · have ht : ts[i]? = some ts[i] := List.getElem?_eq_getElem hi
      have hfin : (finK E.fn S.N k (ts.map (Tm.den E)))[i]? = some (if i < k then (E.fn S.N (Sc.ofList ((ts.map (Tm.den E)).take k))).at_ i else ts[i].den E) := by
        simp [finK, hi]
      rw [List.getElem?_map]
      rcases Nat.lt_or_ge i k with hk | hk
      · have ht' : (ts.take k)[i]? = some ts[i] := by rw [List.getElem?_take, if_pos hk]; exact ht
        rw [List.getElem?_append_left (by simp [lpFin_length]; omega), hfin, if_pos hk]
        rcases lpFin_get (S := S) (A := .app S.N (consT (ts.take k))) (nx := S.next) (j := 0) ht' with h | ⟨h, hv⟩
        · rw [h]
          simp only [Option.map_some, Nat.zero_add, Tm.den, consT_den, List.map_take]
        · rw [h]
          rw [Nat.zero_add] at hv
          have := hr.const hv (by simpa using hl)
          rw [hfin, if_pos hk] at this
          simp only [Option.map_some]
          rw [this]
          simp [ht]
      · have hmin : (lpFin S (.app S.N (consT (ts.take k))) (ts.take k) S.next 0).length = k := by rw [lpFin_length, List.length_take]; omega
        rw [List.getElem?_append_right (by omega), hmin, List.getElem?_drop, show k + (i - k) = i by omega, ht, hfin, if_neg (by omega)]
        rfl
    · rw [List.getElem?_eq_none, List.getElem?_eq_none]
      · simp [finK]; omega
      · simp [lpFin_length]; omega

/-! Templates of states -/
def isLitT (t : Tm) : Bool := match t.lit with | some _ => true | none => false
theorem isLitT_den {t : Tm} (h : isLitT t = true) (E E' : Env) : t.den E = t.den E' := by
  unfold isLitT at h
  split at h
  · rename_i c hc; rw [Tm.lit_den E hc, Tm.lit_den E' hc]
  · cases h
/-- Does a symbolic value fit into a template, the variables from b on being these terms? -/
def fitV0 (b : Nat) (ts : List Tm) (s s' : SV) : Bool :=
  match s, s' with
  | .un, _ => true
  | .sc k t, .sc k' u => match beqK k k' with
    | true => match isLitT t with
      | true => t.beq u
      | false => match t with
        | .var i => match Nat.ble b i with
          | true => match nth? ts (i - b) with
            | some x => x.beq u
            | none => false
          | false => false
        | _ => false
    | false => false
  | .ptr j o, .ptr j' o' => match Nat.beq j j' with | true => Nat.beq o o' | false => false
  | .sl j o n, .sl j' o' n' => match Nat.beq j j', Nat.beq o o' with | true, true => Nat.beq n n' | _, _ => false
  | .gs j n, .gs j' n' => match Nat.beq j j' with | true => Nat.beq n n' | false => false
  | .nilp, .nilp => true
  | .nils, .nils => true
  | .nilf, .nilf => true
  | .nili, .nili => true
  | .fn (.func g) [] [], .fn (.func g') [] [] => Nat.beq g g'
  | _, _ => false
def knownV (β : Pl) : SV → Prop
  | .ptr j _ => ∃ b, β j = some b
  | .sl j _ _ => ∃ b, β j = some b
  | .gs j _ => ∃ b, β j = some b
  | _ => True
theorem known_of_rep {E : Env} {β : Pl} {s : SV} {v : Value} (h : SV.rep E β s v) : knownV β s := by
  cases s <;> simp only [knownV, SV.rep] at h ⊢
  · obtain ⟨b, hb, _⟩ := h; exact ⟨b, hb⟩
  · obtain ⟨b, _, hb, _⟩ := h; exact ⟨b, hb⟩
  · obtain ⟨b, hb, _⟩ := h; exact ⟨b, hb⟩

theorem fitV0_rep {b : Nat} {ts : List Tm} {s s' : SV} {E : Env} {β β' : Pl} {v : Value} (hf : fitV0 b ts s s' = true) (hm : Pl.le β β') (hk : knownV β s) (h : SV.rep E β' s' v) :
    SV.rep (envV b E.fn (ts.map (Tm.den E))) β s v := by
  unfold fitV0 at hf
  split at hf
  · simp [SV.rep]
  · rename_i k t k' u
    split at hf
    · rename_i hkk
      have := beqK_eq hkk
      subst this
      simp only [SV.rep] at h ⊢
      split at hf
      · rename_i hlit
        rw [isLitT_den hlit _ E, Tm.beq_eq hf]; exact h
      · split at hf
        · rename_i i
          split at hf
          · rename_i hbi
            split at hf
            · rename_i x hx
              rw [← Tm.beq_eq hf] at h
              rw [nth?_get] at hx
              simp only [Tm.den, envV, if_pos (ble_iff.1 hbi), List.getElem?_map, hx, Option.map_some, Option.getD_some]
              exact h
            · cases hf
          · cases hf
        · cases hf
    · cases hf
  · split at hf
    · rename_i h1
      have e1 := Nat.eq_of_beq_eq_true h1
      have e2 := Nat.eq_of_beq_eq_true hf
      subst e1; subst e2
      simp only [SV.rep, knownV] at h hk ⊢
      obtain ⟨x, hx⟩ := hk
      obtain ⟨y, hy, hv⟩ := h
      have := hm _ _ hx
      rw [hy] at this; cases this
      exact ⟨_, hx, hv⟩
    · cases hf
  · split at hf
    · rename_i h1 h2
      have e1 := Nat.eq_of_beq_eq_true h1
      have e2 := Nat.eq_of_beq_eq_true h2
      have e3 := Nat.eq_of_beq_eq_true hf
      subst e1; subst e2; subst e3
      simp only [SV.rep, knownV] at h hk ⊢
      obtain ⟨x, hx⟩ := hk
      obtain ⟨y, c, hy, hv⟩ := h
      have := hm _ _ hx
      rw [hy] at this; cases this
      exact ⟨_, c, hx, hv⟩
    · cases hf
  · split at hf
    · rename_i h1
      have e1 := Nat.eq_of_beq_eq_true h1
      have e2 := Nat.eq_of_beq_eq_true hf
      subst e1; subst e2
      simp only [SV.rep, knownV] at h hk ⊢
      obtain ⟨x, hx⟩ := hk
      obtain ⟨y, hy, hv⟩ := h
      have := hm _ _ hx
      rw [hy] at this; cases this
      exact ⟨_, hx, hv⟩
    · cases hf
  · simpa [SV.rep] using h
  · simpa [SV.rep] using h
  · simpa [SV.rep] using h
  · simpa [SV.rep] using h
  · have e1 := Nat.eq_of_beq_eq_true hf
    subst e1
    simpa [SV.rep] using h
  · cases hf
theorem fitV0_known {b : Nat} {ts : List Tm} {s s' : SV} {β : Pl} (hf : fitV0 b ts s s' = true) (hk : knownV β s') : knownV β s := by
  unfold fitV0 at hf
  split at hf
  · trivial
  · trivial
  · split at hf
    · rename_i h1; simp only [knownV] at hk ⊢; rw [Nat.eq_of_beq_eq_true h1]; exact hk
    · cases hf
  · split at hf
    · rename_i h1 _; simp only [knownV] at hk ⊢; rw [Nat.eq_of_beq_eq_true h1]; exact hk
    · cases hf
  · split at hf
    · rename_i h1; simp only [knownV] at hk ⊢; rw [Nat.eq_of_beq_eq_true h1]; exact hk
    · cases hf
  · trivial
  · trivial
  · trivial
  · trivial
  · trivial
  · cases hf
/-- Aggregates of single cells, cell by cell. -/
def fitA (b : Nat) (ts : List Tm) : List SV → List SV → Bool
  | [], l => match l with
    | [] => true
    | _ => false
  | s :: r, l => match s, l with
    | .sc k t, s' :: r' => match fitV0 b ts (.sc k t) s' with
      | true => fitA b ts r r'
      | false => false
    | _, _ => false
def fitV (b : Nat) (ts : List Tm) (s s' : SV) : Bool :=
  match s with
  | .agg cs => match s' with
    | .agg cs' => fitA b ts cs cs'
    | _ => false
  | s => fitV0 b ts s s'
theorem fitA_rep {b : Nat} {ts : List Tm} {E : Env} {β β' : Pl} (hm : Pl.le β β') : ∀ {l l' : List SV} {vs : List Value}, fitA b ts l l' = true → SV.reps E β' l' vs → SV.reps (envV b E.fn (ts.map (Tm.den E))) β l vs
  | [], l', vs, hf, h => by
    simp only [fitA] at hf
    split at hf
    · simpa using h
    · cases hf
  | s :: r, l', vs, hf, h => by
    simp only [fitA] at hf
    split at hf
    · split at hf
      · rename_i k t s' r' h1
        simp only [SV.reps] at h
        obtain ⟨v, rest, rfl, h2, h3⟩ := h
        rw [reps_cons]
        exact ⟨fitV0_rep h1 hm trivial h2, fitA_rep hm hf h3⟩
      · cases hf
    · cases hf
theorem fitV_rep {b : Nat} {ts : List Tm} {s s' : SV} {E : Env} {β β' : Pl} {v : Value} (hf : fitV b ts s s' = true) (hm : Pl.le β β') (hk : knownV β s) (h : SV.rep E β' s' v) :
    SV.rep (envV b E.fn (ts.map (Tm.den E))) β s v := by
  unfold fitV at hf
  split at hf
  · split at hf
    · simp only [SV.rep] at h ⊢
      obtain ⟨vs, rfl, h⟩ := h
      exact ⟨vs, rfl, fitA_rep hm hf h⟩
    · cases hf
  · exact fitV0_rep hf hm hk h
theorem fitV_known {b : Nat} {ts : List Tm} {s s' : SV} {β : Pl} (hf : fitV b ts s s' = true) (hk : knownV β s') : knownV β s := by
  unfold fitV at hf
  split at hf
  · trivial
  · exact fitV0_known hf hk
def fitL (b : Nat) (ts : List Tm) : List SV → List SV → Bool
  | [], [] => true
  | s :: r, s' :: r' => match fitV b ts s s' with
    | true => fitL b ts r r'
    | false => false
  | _, _ => false
theorem fitL_get {b : Nat} {ts : List Tm} : ∀ {l l' : List SV}, fitL b ts l l' = true → l.length = l'.length ∧ ∀ (i : Nat) (s : SV), l[i]? = some s → ∃ s', l'[i]? = some s' ∧ fitV b ts s s' = true
  | [], [], _ => ⟨rfl, fun i s h => by simp at h⟩
  | s :: r, s' :: r', h => by
    simp only [fitL] at h
    split at h
    · rename_i h1
      obtain ⟨g1, g2⟩ := fitL_get h
      refine ⟨by simp [g1], fun i x hi => ?_⟩
      cases i with
      | zero => simp at hi; subst hi; exact ⟨s', by simp, h1⟩
      | succ i => simpa using g2 i x (by simpa using hi)
    · cases h
  | [], _ :: _, h => by cases h
  | _ :: _, [], h => by cases h
def fitM (b : Nat) (ts : List Tm) (own' : Mem) : Mem → Bool
  | [] => true
  | (j, sb) :: r => match find own' j with
    | some sb' => match beqRow sb.row sb'.row, fitL b ts sb.cs sb'.cs with
      | true, true => fitM b ts own' r
      | _, _ => false
    | none => false
theorem fitM_get {b : Nat} {ts : List Tm} {own' : Mem} : ∀ {own : Mem}, fitM b ts own' own = true → ∀ j sb, (j, sb) ∈ own → ∃ sb', (j, sb') ∈ own' ∧ sb.row = sb'.row ∧ fitL b ts sb.cs sb'.cs = true
  | [], _, j, sb, h => by cases h
  | (j0, sb0) :: r, h, j, sb, hj => by
    simp only [fitM] at h
    split at h
    · rename_i sb' hf
      split at h
      · rename_i h1 h2
        rcases List.mem_cons.1 hj with hj | hj
        · cases hj; exact ⟨sb', find_mem hf, beqRow_eq h1, h2⟩
        · exact fitM_get h j sb hj
      · cases h
    · cases h
/-- What a template's pointers name is known. -/
def KnownS (β : Pl) (g : St) : Prop := (∀ s, s ∈ g.tm → knownV β s) ∧ ∀ j sb, (j, sb) ∈ g.own → (∃ b, β j = some b) ∧ ∀ s, s ∈ sb.cs → knownV β s
theorem KnownS.of {E : Env} {β : Pl} {w0 w : World} {g : St} {a : Act} (h : RepS E β w0 g a w) : KnownS β g := by
  refine ⟨fun s hs => ?_, fun j sb hj => ?_⟩
  · obtain ⟨i, hi⟩ := List.getElem?_of_mem hs
    obtain ⟨v, _, hr⟩ := reps_get h.tm hi
    exact known_of_rep hr
  · obtain ⟨b, hb, hr, _⟩ := h.own.ent j sb hj
    refine ⟨⟨b, hb⟩, fun s hs => ?_⟩
    obtain ⟨i, hi⟩ := List.getElem?_of_mem hs
    obtain ⟨v, _, _, hv⟩ := hr.2 i s hi
    exact known_of_rep hv

section
variable {P : Program} {E : Env} {β β' : Pl} {w0 w : World} {a : Act}

theorem fit_rep {b : Nat} {ts : List Tm} {g σ : St} {pc : PC} (htm : fitL b ts g.tm σ.tm = true) (hown : fitM b ts σ.own g.own = true) (hm : Pl.le β β') (hk : KnownS β g) (hfresh : Fresh β g.nxt g.lim) (hle : g.nxt ≤ g.lim) (hro : g.ro = [])
    (hpc : PcOk (envV b E.fn (ts.map (Tm.den E))) g.pc) (h : RepS E β' w0 σ a w) : RepS (envV b E.fn (ts.map (Tm.den E))) β w0 g a w := by
  obtain ⟨hl, hg⟩ := fitL_get htm
  refine { tm := ?_, df := h.df, own := ⟨fun j sb hj => ?_, fun j sb j' sb' x x' hj hj' hne hx hx' => ?_⟩, fresh := hfresh, le := hle, below := h.below, ro := (by rw [hro]; intro j sb hj; cases hj), pc := hpc }
  · refine reps_iff.2 ⟨by rw [reps_length h.tm, hl], fun i s hs => ?_⟩
    obtain ⟨s', hs', hf⟩ := hg i s hs
    obtain ⟨v, hv, hr⟩ := reps_get h.tm hs'
    exact ⟨v, hv, fitV_rep hf hm (hk.1 s (List.mem_of_getElem? hs)) hr⟩
  · obtain ⟨sb', hj', hrow, hcs⟩ := fitM_get hown j sb hj
    obtain ⟨hl2, hg2⟩ := fitL_get hcs
    obtain ⟨⟨b0, hb0⟩, hkc⟩ := hk.2 j sb hj
    obtain ⟨b1, hb1, hr, hB, h0, arr, e, hh, hrw⟩ := h.own.ent j sb' hj'
    have := hm _ _ hb0
    rw [hb1] at this; cases this
    refine ⟨b0, hb0, ⟨hr.1, fun i s hi => ?_, hr.3.imp id fun ⟨g1, g2⟩ => ⟨List.eq_nil_of_length_eq_zero (by rw [hl2, g1]; rfl), g2⟩, fun e s he => hr.4 e s (hrow.symm.trans he)⟩, hB, h0, arr, e, hh, ?_⟩
    · obtain ⟨s', hs', hf⟩ := hg2 i s hi
      obtain ⟨v, hv1, hv2, hv3⟩ := hr.2 i s' hs'
      exact ⟨v, hv1, hv2, fitV_rep hf hm (hkc s (List.mem_of_getElem? hi)) hv3⟩
    · rw [hrow, hl2]; exact hrw
  · obtain ⟨s1, h1, _⟩ := fitM_get hown j sb hj
    obtain ⟨s2, h2, _⟩ := fitM_get hown j' sb' hj'
    exact h.own.apart j s1 j' s2 x x' h1 h2 hne (hm _ _ hx) (hm _ _ hx')

/-! The template with terms in the place of its variables -/
def instA (b : Nat) (fs : List Tm) : List SV → List SV
  | [] => []
  | s :: r => (match s with
    | .sc k t => .sc k (match isLitT t with | true => t | false => substT b fs t)
    | _ => .un) :: instA b fs r
theorem instA_rep {b : Nat} {fs : List Tm} : ∀ {l : List SV} {vs : List Value}, SV.reps (envV b E.fn (fs.map (Tm.den E))) β l vs → SV.reps E β (instA b fs l) vs
  | [], _, h => by simpa [instA] using h
  | s :: r, vs, h => by
    simp only [SV.reps] at h
    obtain ⟨v, rest, rfl, h1, h2⟩ := h
    simp only [instA]
    rw [reps_cons]
    refine ⟨?_, instA_rep h2⟩
    split
    · rename_i k t
      simp only [SV.rep] at h1 ⊢
      cases hl : isLitT t with
      | true => simp only; rw [isLitT_den hl E (envV b E.fn (fs.map (Tm.den E)))]; exact h1
      | false => simp only; rw [substT_den]; exact h1
    · simp [SV.rep]
def instV (b : Nat) (fs : List Tm) : SV → SV
  | .agg cs => .agg (instA b fs cs)
  | .sc k t => .sc k (match isLitT t with | true => t | false => substT b fs t)
  | .ptr j o => .ptr j o
  | .sl j o n => .sl j o n
  | .gs j n => .gs j n
  | .nilp => .nilp | .nils => .nils | .nilf => .nilf | .nili => .nili
  | .fn f a c => match f, a, c with
    | .func g, [], [] => .fn (.func g) [] []
    | _, _, _ => .un
  | _ => .un
theorem instV_rep {b : Nat} {fs : List Tm} {s : SV} {v : Value} (h : SV.rep (envV b E.fn (fs.map (Tm.den E))) β s v) : SV.rep E β (instV b fs s) v := by
  cases s with
  | sc k t =>
    simp only [instV, SV.rep] at h ⊢
    cases hl : isLitT t with
    | true => simp only; rw [isLitT_den hl E (envV b E.fn (fs.map (Tm.den E)))]; exact h
    | false => simp only; rw [substT_den]; exact h
  | fn f a c =>
    simp only [instV]
    split
    · simpa [SV.rep] using h
    · simp [SV.rep]
  | un => simp [instV, SV.rep]
  | agg cs =>
    simp only [instV, SV.rep] at h ⊢
    obtain ⟨vs, rfl, h⟩ := h
    exact ⟨vs, rfl, instA_rep h⟩
  | tup vs => simp [instV, SV.rep]
  | os j n t => simp [instV, SV.rep]
  | ptr j o => simpa [instV, SV.rep] using h
  | sl j o n => simpa [instV, SV.rep] using h
  | gs j n => simpa [instV, SV.rep] using h
  | nilp => simpa [instV, SV.rep] using h
  | nils => simpa [instV, SV.rep] using h
  | nilf => simpa [instV, SV.rep] using h
  | nili => simpa [instV, SV.rep] using h
def instB (b : Nat) (fs : List Tm) : Mem → Mem
  | [] => []
  | (j, sb) :: r => (j, ⟨sb.cs.map (instV b fs), sb.row⟩) :: instB b fs r
theorem instB_mem {b : Nat} {fs : List Tm} : ∀ {x : Mem} {j : Nat} {sb : SB}, (j, sb) ∈ instB b fs x → ∃ s, (j, s) ∈ x ∧ sb = ⟨s.cs.map (instV b fs), s.row⟩
  | [], _, _, h => by cases h
  | (i, y) :: r, j, sb, h => by
    simp only [instB] at h
    rcases List.mem_cons.1 h with h | h
    · cases h; exact ⟨y, List.mem_cons_self .., rfl⟩
    · obtain ⟨s, h1, h2⟩ := instB_mem h; exact ⟨s, List.mem_cons_of_mem _ h1, h2⟩
theorem inst_rep {b : Nat} {fs : List Tm} {g : St} {ro : Mem} {pc : PC} (hro : Reads E β ro w0) (hpc : PcOk E pc) (h : RepS (envV b E.fn (fs.map (Tm.den E))) β w0 g a w) :
    RepS E β w0 { g with tm := g.tm.map (instV b fs), own := instB b fs g.own, ro := ro, pc := pc } a w := by
  refine { tm := ?_, df := h.df, own := ⟨fun j sb hj => ?_, fun j sb j' sb' x x' hj hj' hne hx hx' => ?_⟩, fresh := h.fresh, le := h.le, below := h.below, ro := hro, pc := hpc }
  · refine reps_iff.2 ⟨by simp [reps_length h.tm], fun i s hs => ?_⟩
    simp only [List.getElem?_map, Option.map_eq_some_iff] at hs
    obtain ⟨u, hu, rfl⟩ := hs
    obtain ⟨v, hv, hr⟩ := reps_get h.tm hu
    exact ⟨v, hv, instV_rep hr⟩
  · obtain ⟨s, hs, rfl⟩ := instB_mem hj
    obtain ⟨b1, hb1, hr, hB, h0, arr, e, hh, hrw⟩ := h.own.ent j s hs
    refine ⟨b1, hb1, ⟨hr.1, fun i t hi => ?_, hr.3.imp id fun ⟨g1, g2⟩ => ⟨by rw [g1]; rfl, g2⟩, hr.4⟩, hB, h0, arr, e, hh, ?_⟩
    · simp only [List.getElem?_map, Option.map_eq_some_iff] at hi
      obtain ⟨u, hu, rfl⟩ := hi
      obtain ⟨v, hv1, hv2, hv3⟩ := hr.2 i u hu
      exact ⟨v, hv1, hv2, instV_rep hv3⟩
    · simp only [List.length_map]; exact hrw
  · obtain ⟨s1, h1, _⟩ := instB_mem hj
    obtain ⟨s2, h2, _⟩ := instB_mem hj'
    exact h.own.apart j s1 j' s2 x x' h1 h2 hne hx hx'

/-! The loop -/
def blankV : SV → SV
  | .ptr j o => .ptr j o
  | .sl j o n => .sl j o n
  | .gs j n => .gs j n
  | .nilp => .nilp | .nils => .nils | .nilf => .nilf | .nili => .nili
  | .fn f a c => match f, a, c with
    | .func g, [], [] => .fn (.func g) [] []
    | _, _, _ => .un
  | _ => .un
def blankB : Mem → Mem
  | [] => []
  | (j, sb) :: r => (j, ⟨sb.cs.map blankV, sb.row⟩) :: blankB r
def getPl (σ : St) (p : Place) : SV :=
  match p with
  | .part t i => match nth? σ.tm t with
    | some (.agg cs) => match nth? cs i with
      | some s => s
      | none => .un
    | _ => .un
  | .slot t => match nth? σ.tm t with
    | some s => s
    | none => .un
  | .cell t o => match nth? σ.tm t with
    | some (.ptr j q) => match find σ.own j with
      | some sb => match nth? sb.cs (q + o) with
        | some s => s
        | none => .un
      | none => .un
    | _ => .un
def setPl (σ : St) (p : Place) (s : SV) : St :=
  match p with
  | .part t i => match nth? σ.tm t with
    | some (.agg cs) => { σ with tm := σ.tm.set t (.agg (cs.set i s)) }
    | _ => σ
  | .slot t => { σ with tm := σ.tm.set t s }
  | .cell t o => match nth? σ.tm t with
    | some (.ptr j q) => match find σ.own j with
      | some sb => { σ with own := setB σ.own j ⟨sb.cs.set (q + o) s, sb.row⟩ }
      | none => σ
    | _ => σ
def initsOf (σ : St) : List Place → Option (List (SK × Tm))
  | [] => some []
  | p :: r => match getPl σ p, initsOf σ r with
    | .sc k t, some x => some ((k, t) :: x)
    | _, _ => none
def setAll (b : Nat) : List Place → List (SK × Tm) → Nat → St → St
  | p :: r, (k, _) :: x, j, g => setAll b r x (j + 1) (setPl g p (.sc k (.var (b + j))))
  | _, _, _, g => g
def keepAll (σ : St) : List Place → St → St
  | [], g => g
  | p :: r, g => keepAll σ r (setPl g p (getPl σ p))
def genSt (S : LoopSpec) (ks : List (SK × Tm)) (σ : St) : St :=
  setAll S.b S.places ks 0 (keepAll σ S.keep { σ with tm := σ.tm.map blankV, own := blankB σ.own, ro := [], pc := (S.cond, !S.pol) :: S.inv })
def loopE (o : Out (Ex × St)) : Out (Ex × St) := o.bind fun r => match r with
  | (.normal, _) => .bad 205
  | r => .ret r
def finPcB (S : LoopSpec) (fs ts : List Tm) (base : PC) : PC := unlock base (substPc S.b (fs ++ ts) S.post) ++ base
/-- What is known behind the loop. -/
def finPc (S : LoopSpec) (fs ts : List Tm) (pc : PC) : PC := finPcB S fs ts (substPc S.b (fs ++ ts) S.post ++ (substPc S.b fs ((S.cond, S.pol) :: S.inv) ++ pc))
theorem finPc_ok {E : Env} {S : LoopSpec} {fs ts : List Tm} {pc : PC} (hp : PcOk E pc) (hi : PcOk (envV S.b E.fn (fs.map (Tm.den E))) S.inv) (hc : (S.cond.den (envV S.b E.fn (fs.map (Tm.den E)))).toB = S.pol)
    (hpost : PcOk (envV S.b E.fn (fs.map (Tm.den E) ++ ts.map (Tm.den E))) S.post) : PcOk E (finPc S fs ts pc) := by
  have h1 : PcOk E (substPc S.b (fs ++ ts) S.post) := substPc_ok (by rw [List.map_append]; exact hpost)
  have h2 : PcOk E (substPc S.b fs ((S.cond, S.pol) :: S.inv)) := substPc_ok (fun p hp => by
    rcases List.mem_cons.1 hp with rfl | hp
    · exact hc
    · exact hi p hp)
  have hb : PcOk E (substPc S.b (fs ++ ts) S.post ++ (substPc S.b fs ((S.cond, S.pol) :: S.inv) ++ pc)) := fun p hm => by
    rcases List.mem_append.1 hm with hm | hm
    · exact h1 p hm
    · rcases List.mem_append.1 hm with hm | hm
      · exact h2 p hm
      · exact hp p hm
  unfold finPc finPcB
  exact fun p hm => (List.mem_append.1 hm).elim (unlock_ok hb h1 p) (hb p)
def loopF (run : Code → St → Out (Ex × St)) (c : Code) (S : LoopSpec) (σ : St) (g : St) (ts fs : List Tm) : Out (Ex × St) :=
  loopE (run c { g with tm := g.tm.map (instV S.b fs), own := instB S.b fs g.own, ro := σ.ro, pc := finPc S fs ts σ.pc })
def loopM (run : Code → St → Out (Ex × St)) (c : Code) (S : LoopSpec) (σ : St) (ts : List Tm) (g : St) : Out (Ex × St) :=
  match fitL S.b ts g.tm σ.tm, fitM S.b ts σ.own g.own, Nat.beq g.nxt σ.nxt, Nat.beq g.lim σ.lim, proveAll (unlock σ.pc σ.pc ++ σ.pc) S.b ts S.pre, Nat.beq ts.length S.next.length with
  | true, true, true, true, true, true => match run c { g with ro := [], pc := (S.cond, !S.pol) :: S.inv } with
    | .ret (.normal, σ') => match fitL S.b S.next g.tm σ'.tm, fitM S.b S.next σ'.own g.own with
      | true, true => loopF run c S σ g ts (endT S ts)
      | _, _ => .bad 203
    | _ => .bad 204
  | _, _, _, _, _, _ => .bad 202
def loopL (run : Code → St → Out (Ex × St)) (c : Code) (S : LoopSpec) (σ : St) : Out (Ex × St) :=
  match initsOf σ S.places with
  | none => .bad 200
  | some ks => match Nat.beq ks.length S.places.length with
    | true => loopM run c S σ (ks.map (·.2)) (genSt S ks σ)
    | false => .bad 201

theorem loopM_ok {run : Code → St → Out (Ex × St)} {c : Code} {S : LoopSpec} (hrun : ∀ E' : Env, E'.fn = E.fn → CodeOk P E' c (run c)) (hL : LoopLaw S E.fn) {σ : St} {ts : List Tm} {g : St} (hlen : ts.length = S.places.length)
    {res : Ex × St} (h : RepS E β w0 σ a w) (hs : (loopM run c S σ ts g).sel E = some res) (Q : Exit → Act → World → Prop) (hQ : ∀ β' a' w', Ext β β' σ.nxt res.2.nxt → RepS E β' w0 res.2 a' w' → Q (exOf res.1) a' w') :
    (Code.loop c).wp P Q a w := by
  unfold loopM at hs
  split at hs
  · rename_i f1 f2 f3 f4 f5 f6
    have e3 := Nat.eq_of_beq_eq_true f3
    have e4 := Nat.eq_of_beq_eq_true f4
    have e6 := Nat.eq_of_beq_eq_true f6
    split at hs
    · rename_i σ' hrun'
      split at hs
      · rename_i n1 n2
        have hpc0 : PcOk E (unlock σ.pc σ.pc ++ σ.pc) := fun p hm => (List.mem_append.1 hm).elim (unlock_ok h.pc h.pc p) (h.pc p)
        have hpre := proveAll_ok hpc0 f5
        obtain ⟨hrounds, hpost⟩ := hL (ts.map (Tm.den E)) (by simpa using hlen) hpre
        have hfin := lpFin_den e6 hrounds
        rw [← hfin] at hpost
        generalize hfs : endT S ts = fs at *
        -- the first template
        have start : ∀ pc', PcOk (envV S.b E.fn (ts.map (Tm.den E))) pc' → RepS (envV S.b E.fn (ts.map (Tm.den E))) β w0 { g with ro := [], pc := pc' } a w := fun pc' hpc' =>
          fit_rep (g := { g with ro := [], pc := pc' }) (pc := []) f1 f2 (Pl.le_refl β) ⟨fun s hs => by
              obtain ⟨_, g2⟩ := fitL_get f1
              obtain ⟨i, hi⟩ := List.getElem?_of_mem hs
              obtain ⟨s', hs', hf⟩ := g2 i s hi
              obtain ⟨v, _, hr⟩ := reps_get h.tm hs'
              exact fitV_known hf (known_of_rep hr), fun j sb hj => by
              obtain ⟨sb', hj', hrow, hcs⟩ := fitM_get f2 j sb hj
              obtain ⟨b0, hb0, hr, _⟩ := h.own.ent j sb' hj'
              refine ⟨⟨b0, hb0⟩, fun s hs => ?_⟩
              obtain ⟨_, g2⟩ := fitL_get hcs
              obtain ⟨i, hi⟩ := List.getElem?_of_mem hs
              obtain ⟨s', hs', hf⟩ := g2 i s hi
              obtain ⟨v, _, _, hv⟩ := hr.2 i s' hs'
              exact fitV_known hf (known_of_rep hv)⟩ (by rw [e3, e4]; exact h.fresh) (by rw [e3, e4]; exact h.le) rfl hpc' h
        -- the rounds
        have key : ∀ {v z : List Sc}, Rounds S E.fn v z → z = fs.map (Tm.den E) → ∃ n, ∀ (a : Act) (w : World), (∀ pc', PcOk (envV S.b E.fn v) pc' → RepS (envV S.b E.fn v) β w0 { g with ro := [], pc := pc' } a w) → Code.rounds P c Q n a w := by
          intro v z hr
          induction hr with
          | stop hi hc =>
            rename_i v
            intro hz
            subst hz
            refine ⟨1, fun a w hrep => ?_⟩
            rw [rounds_succ]
            unfold loopF at hs
            obtain ⟨r, hr1, hr2⟩ := Out.sel_bind_some hs
            have hpc : PcOk E (finPc S fs ts σ.pc) := finPc_ok h.pc hi hc hpost
            have hrep' := inst_rep (ro := σ.ro) (pc := finPc S fs ts σ.pc) h.ro hpc (hrep [] (fun p hp => by cases hp))
            refine hrun E rfl hrep' hr1 _ fun β' a' w' he hrep2 => ?_
            obtain ⟨x, σ2⟩ := r
            have he' : Ext β β' σ.nxt σ2.nxt := by rw [← e3]; exact he
            cases x with
            | normal => cases hr2
            | exit id => simp only [Out.sel, Option.some.injEq] at hr2; subst hr2; exact hQ β' a' w' he' hrep2
            | ret => simp only [Out.sel, Option.some.injEq] at hr2; subst hr2; exact hQ β' a' w' he' hrep2
          | more hi hc _ ih =>
            rename_i v z _
            intro hz
            obtain ⟨n, ih⟩ := ih hz
            refine ⟨n + 1, fun a w hrep => ?_⟩
            have hrep1 := hrep ((S.cond, !S.pol) :: S.inv) (fun p hp => by
              rcases List.mem_cons.1 hp with rfl | hp
              · exact hc
              · exact hi p hp)
            rw [rounds_succ]
            refine hrun (envV S.b E.fn v) rfl hrep1 (res := (.normal, σ')) (by rw [hrun']; rfl) _ fun β' a' w' he hrep2 => ?_
            refine ih a' w' fun pc' hpc' => ?_
            exact fit_rep (E := envV S.b E.fn v) (g := { g with ro := [], pc := pc' }) (pc := []) n1 n2 he.mono ⟨(KnownS.of hrep1).1, (KnownS.of hrep1).2⟩ hrep1.fresh hrep1.le rfl hpc' hrep2
        obtain ⟨n, hn⟩ := key hrounds hfin.symm
        exact wp_loop_rounds n (hn a w start)
      · cases hs
    · cases hs
  · cases hs
theorem initsOf_length {σ : St} : ∀ {l : List Place} {ks : List (SK × Tm)}, initsOf σ l = some ks → ks.length = l.length
  | [], ks, h => by cases h; rfl
  | p :: r, ks, h => by
    simp only [initsOf] at h
    split at h
    · rename_i x _ hx
      cases h
      simp [initsOf_length hx]
    · cases h
/-- WHAT THE EXECUTOR RECKONS OF A LOOP IS WHAT THE LOOP DOES. -/
theorem loopL_ok {run : Code → St → Out (Ex × St)} {c : Code} {S : LoopSpec} (hrun : ∀ E' : Env, E'.fn = E.fn → CodeOk P E' c (run c)) (hL : LoopLaw S E.fn) : CodeOk P E (.loop c) (loopL run c S) := by
  intro σ res β w0 a w h hs Q hQ
  unfold loopL at hs
  split at hs
  · cases hs
  · rename_i ks hks
    split at hs
    · exact loopM_ok hrun hL (by simp [initsOf_length hks]) h hs Q hQ
    · cases hs
theorem loopL_pc {run : Code → St → Out (Ex × St)} {c : Code} {S : LoopSpec} (hrun : ∀ σ, PcOk E σ.pc → Pcs E (fun x => x.2.pc) (run c σ)) (hL : LoopLaw S E.fn) : ∀ σ, PcOk E σ.pc → Pcs E (fun x => x.2.pc) (loopL run c S σ) := by
  intro σ hp res hs
  unfold loopL at hs
  split at hs
  · cases hs
  · rename_i ks hks
    split at hs
    · unfold loopM at hs
      split at hs
      · rename_i f1 f2 f3 f4 f5 f6
        split at hs
        · split at hs
          · have hpc0 : PcOk E (unlock σ.pc σ.pc ++ σ.pc) := fun p hm => (List.mem_append.1 hm).elim (unlock_ok hp hp p) (hp p)
            have hpre := proveAll_ok hpc0 f5
            obtain ⟨hrounds, hpost⟩ := hL ((ks.map (·.2)).map (Tm.den E)) (by simp [initsOf_length hks]) hpre
            have hfin := lpFin_den (Nat.eq_of_beq_eq_true f6) hrounds
            obtain ⟨g1, g2⟩ := hrounds.end_
            rw [← hfin] at g1 g2 hpost
            unfold loopF loopE at hs
            obtain ⟨r, hr1, hr2⟩ := Out.sel_bind_some hs
            have hpc := finPc_ok (ts := ks.map (·.2)) hp g1 g2 hpost
            have := hrun _ hpc r hr1
            obtain ⟨x, σ2⟩ := r
            cases x with
            | normal => cases hr2
            | exit id => simp only [Out.sel, Option.some.injEq] at hr2; subst hr2; exact this
            | ret => simp only [Out.sel, Option.some.injEq] at hr2; subst hr2; exact this
          · cases hs
        · cases hs
      · cases hs
    · cases hs

/-- The first region of a piece of code. -/
def keyOf : Code → Option Nat
  | .region id _ _ => some id
  | .seq x y => match keyOf x with
    | some k => some k
    | none => keyOf y
  | .block _ c => keyOf c
  | .loop c => keyOf c
  | .cond _ x y => match keyOf x with
    | some k => some k
    | none => keyOf y
  | _ => none
/-- The loops of a list, each by its first region. -/
def findL : List (Nat × LoopSpec) → Nat → Option LoopSpec
  | [], _ => none
  | (k, S) :: r, i => match Nat.beq k i with
    | true => some S
    | false => findL r i
theorem findL_mem : ∀ {l : List (Nat × LoopSpec)} {i : Nat} {S : LoopSpec}, findL l i = some S → ∃ k, (k, S) ∈ l
  | [], _, _, h => by cases h
  | (k, S0) :: r, i, S, h => by
    simp only [findL] at h
    split at h
    · cases h; exact ⟨k, List.mem_cons_self ..⟩
    · obtain ⟨k', hk⟩ := findL_mem h; exact ⟨k', List.mem_cons_of_mem _ hk⟩
def loopsCc (run : Code → St → Out (Ex × St)) (Ls : List (Nat × LoopSpec)) (c : Code) : Option (St → Out (Ex × St)) :=
  match keyOf c with
  | none => none
  | some k => match findL Ls k with
    | none => none
    | some S => some (loopL run c S)
/-- A context with loops. -/
def withLoops (ctx : Ctx) (P : Program) (n : Nat) (Ls : List (Nat × LoopSpec)) : Ctx := { ctx with cc := loopsCc (exec ctx P n) Ls }
theorem withLoops_ok {ctx : Ctx} {n : Nat} {Ls : List (Nat × LoopSpec)} (hC : ∀ E' : Env, E'.fn = E.fn → CtxOk P E' ctx ∧ CtxPc E' ctx) (hN : Named P) (hmix : P.follows .mixedOrders = true) (hL : ∀ k S, (k, S) ∈ Ls → LoopLaw S E.fn) :
    CtxOk P E (withLoops ctx P n Ls) ∧ CtxPc E (withLoops ctx P n Ls) := by
  have key : ∀ c L, loopsCc (exec ctx P n) Ls c = some L → ∃ S, LoopLaw S E.fn ∧ L = loopL (exec ctx P n) c S := by
    intro c L h
    unfold loopsCc at h
    split at h
    · cases h
    · split at h
      · cases h
      · rename_i S hS
        cases h
        obtain ⟨k, hk⟩ := findL_mem hS
        exact ⟨S, hL k S hk, rfl⟩
  refine ⟨⟨(hC E rfl).1.sum, fun c L h => ?_, (hC E rfl).1.fxs⟩, ⟨(hC E rfl).2.sum, fun c L h => ?_, (hC E rfl).2.fxs⟩⟩
  · obtain ⟨S, h1, rfl⟩ := key c L h
    exact loopL_ok (fun E' he => (exec_ok (hC E' he).1 (hC E' he).2 hN hmix n).1 c) h1
  · obtain ⟨S, h1, rfl⟩ := key c L h
    exact loopL_pc (fun σ hp => exec_pc (hC E rfl).2 n c σ hp) h1
end
end Go.Sx
