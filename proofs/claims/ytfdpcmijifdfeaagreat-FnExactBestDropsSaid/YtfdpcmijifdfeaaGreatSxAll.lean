/- All drops with a total: the loops of the program and of the model, one for each level; their laws; where they end alike. No condition. -/
import Derived.Test.YtfdpcmijifdfeaaGreatSxIter
set_option linter.unusedVariables false
set_option linter.unusedSimpArgs false
noncomputable section
namespace Go.Sx.All
open Go Go.Sx
def d6 : List SK := times [.int .i16] 6
def B (l : Nat) : Nat := 100000 + 1000 * l
def xV (l i : Nat) : Tm := .var (B l + i)
def nV (l : Nat) : Tm := xV l 0
def tV (l : Nat) : Tm := xV l 1
def dV (l i : Nat) : Tm := xV l (2 + i)
def lenV (l : Nat) : Tm := xV l (3 + l)
def rowV (l : Nat) : Tm := xV l (4 + l)
def rng (t : Tm) (h : Int) : PC := [(.op .lei (.il 0) t, true), (.op .lei t (.il h), true)]
def inD (l : Nat) : Nat → PC
  | 0 => []
  | m + 1 => rng (dV l m) 1001 ++ inD l m
def invA (l : Nat) : PC := rng (nV l) 1001 ++ (rng (tV l) 1000 ++ (rng (lenV l) 501 ++ inD l (l + 1)))
def plA (l sn st sd : Nat) : List Place := .slot sn :: .slot st :: (List.range (l + 1)).map fun i => .cell sd i
def frame (a b : Tm) (l : Nat) (f : Nat → Tm) (x y : Tm) : List Tm := a :: b :: ((List.range (l + 1)).map f ++ [x, y])
def subA (l : Nat) : Tm := .op (.subi .i64) (tV l) (nV l)
def dsW (l : Nat) (dl : Tm) (i : Nat) : Tm := match Nat.beq i l with | true => dl | false => dV l i
def inTs (l : Nat) : List Tm := frame (.il 0) (subA l) (l + 1) (fun i => match Nat.beq i (l + 1) with | true => .il 0 | false => dsW l (nV l) i) (lenV l) (rowV l)
def inA (N l : Nat) : Tm := .app N (consT (inTs l))
def rowD (l i : Nat) : Tm := match Nat.blt i l with
  | true => dV l i
  | false => match Nat.beq i l with
    | true => nV l
    | false => match Nat.beq i (l + 1) with
      | true => subA l
      | false => .il 0
def rowA (l : Nat) : Tm := consT ((List.range 6).map fun i => .cons (.il 3) (rowD l i))
def lenN (N c l : Nat) : Tm := match Nat.beq (l + 2) c with
  | true => .op (.addi .i64) (lenV l) (.il 1)
  | false => .nth (4 + l) (inA N l)
def rowN (N c l : Nat) : Tm := match Nat.beq (l + 2) c with
  | true => .op .snoc (rowV l) (rowA l)
  | false => .nth (5 + l) (inA N l)
def nextA (N c l : Nat) (dl : Tm) : List Tm := frame (.op (.addi .i64) (nV l) (.il 1)) (tV l) l (dsW l dl) (lenN N c l) (rowN N c l)
def NI (c l : Nat) : Nat := 3000 + 10 * c + (5 - l)
def NS (c l : Nat) : Nat := 4000 + 10 * c + (5 - l)
def condI (l : Nat) : Tm := .ite (.op .lei (nV l) (tV l)) (.op .lei (lenV l) (.il 500)) (.bl false)
def okA (c l : Nat) : Tm := match Nat.beq (l + 2) c with
  | true => .op .lti (lenV l) (.il 500)
  | false => .ite (.op .lei (.nth 0 (inA (NS c (l + 1)) l)) (subA l)) (.bl false) (.bl true)
def condS (c l : Nat) : Tm := .ite (.op .lei (nV l) (tV l)) (okA c l) (.bl false)
def SI (c l : Nat) : LoopSpec := { b := B l, places := plA l 11 4 6, lists := [(0, d6)], N := NI c l, pre := invA l, inv := invA l, cond := condI l, pol := false, next := nextA (NI c (l + 1)) c l (nV l) }
def SS (c l : Nat) : LoopSpec := { b := B l, places := plA l 12 4 6, lists := [(0, d6)], N := NS c l, pre := invA l, inv := invA l, cond := condS c l, pol := false, next := nextA (NS c (l + 1)) c l (dV l l) }
section
variable {E : Env}
theorem env_at {l i : Nat} {v : List Sc} : (xV l i).den (envV (B l) E v) = v.getD i .nil := by
  show (envV (B l) E v).v (B l + i) = _
  simp [envV, List.getD]
theorem frame_get {e : Env} {l : Nat} {a b x y : Tm} {f : Nat → Tm} : ((frame a b l f x y).map (Tm.den e)).length = l + 5 ∧ ((frame a b l f x y).map (Tm.den e)).getD 0 .nil = a.den e ∧ ((frame a b l f x y).map (Tm.den e)).getD 1 .nil = b.den e ∧
    (∀ i, i ≤ l → ((frame a b l f x y).map (Tm.den e)).getD (2 + i) .nil = (f i).den e) ∧ ((frame a b l f x y).map (Tm.den e)).getD (3 + l) .nil = x.den e ∧ ((frame a b l f x y).map (Tm.den e)).getD (4 + l) .nil = y.den e := by
  refine ⟨by simp [frame], rfl, rfl, fun i hi => ?_, ?_, ?_⟩
  · rw [show 2 + i = i + 1 + 1 by omega]
    simp only [frame, List.map_cons, List.getD, List.getElem?_cons_succ, List.map_append, List.map_map]
    rw [List.getElem?_append_left (by simp; omega)]
    simp [List.getElem?_range (show i < l + 1 by omega)]
  · rw [show 3 + l = (l + 1) + 1 + 1 by omega]
    simp only [frame, List.map_cons, List.getD, List.getElem?_cons_succ, List.map_append, List.map_map]
    rw [List.getElem?_append_right (by simp)]
    simp
  · rw [show 4 + l = (l + 2) + 1 + 1 by omega]
    simp only [frame, List.map_cons, List.getD, List.getElem?_cons_succ, List.map_append, List.map_map]
    rw [List.getElem?_append_right (by simp)]
    simp
/-- What is known of the values of level l. -/
structure OkV (l : Nat) (v : List Sc) : Prop where
  len : v.length = l + 5
  n0 : 0 ≤ (v.getD 0 .nil).toI
  n1 : (v.getD 0 .nil).toI ≤ 1001
  t0 : 0 ≤ (v.getD 1 .nil).toI
  t1 : (v.getD 1 .nil).toI ≤ 1000
  d0 : ∀ i, i ≤ l → 0 ≤ (v.getD (2 + i) .nil).toI
  d1 : ∀ i, i ≤ l → (v.getD (2 + i) .nil).toI ≤ 1001
  l0 : 0 ≤ (v.getD (3 + l) .nil).toI
  l1 : (v.getD (3 + l) .nil).toI ≤ 501
theorem rng_ok {e : Env} {t : Tm} {h : Int} : PcOk e (rng t h) ↔ 0 ≤ (t.den e).toI ∧ (t.den e).toI ≤ h := by
  constructor
  · intro hp
    exact ⟨of_decide_eq_true (hp _ (List.mem_cons_self ..)), of_decide_eq_true (hp _ (List.mem_cons_of_mem _ (List.mem_cons_self ..)))⟩
  · intro ⟨h1, h2⟩ p hp
    simp only [rng, List.mem_cons, List.not_mem_nil, or_false] at hp
    rcases hp with rfl | rfl
    · exact decide_eq_true h1
    · exact decide_eq_true h2
theorem app_ok {e : Env} {a b : PC} : PcOk e (a ++ b) ↔ PcOk e a ∧ PcOk e b :=
  ⟨fun h => ⟨fun p hp => h p (List.mem_append.2 (.inl hp)), fun p hp => h p (List.mem_append.2 (.inr hp))⟩, fun ⟨h1, h2⟩ p hp => (List.mem_append.1 hp).elim (h1 p) (h2 p)⟩
theorem inD_ok {l : Nat} {v : List Sc} : ∀ {m : Nat}, PcOk (envV (B l) E v) (inD l m) ↔ ∀ i, i < m → 0 ≤ (v.getD (2 + i) .nil).toI ∧ (v.getD (2 + i) .nil).toI ≤ 1001
  | 0 => ⟨fun _ i hi => absurd hi (by omega), fun _ p hp => by cases hp⟩
  | m + 1 => by
    simp only [inD, app_ok, rng_ok, dV, env_at, inD_ok (m := m)]
    constructor
    · intro ⟨h1, h2⟩ i hi
      rcases Nat.lt_or_ge i m with h | h
      · exact h2 i h
      · have : i = m := by omega
        subst this
        exact h1
    · intro h
      exact ⟨h m (by omega), fun i hi => h i (by omega)⟩
theorem inv_ok {l : Nat} {v : List Sc} (hv : v.length = l + 5) : PcOk (envV (B l) E v) (invA l) ↔ OkV l v := by
  simp only [invA, app_ok, rng_ok, nV, tV, lenV, env_at, inD_ok]
  constructor
  · intro ⟨⟨a, b⟩, ⟨c, d⟩, ⟨e, f⟩, g⟩
    exact ⟨hv, a, b, c, d, fun i hi => (g i (by omega)).1, fun i hi => (g i (by omega)).2, e, f⟩
  · intro h
    exact ⟨⟨h.n0, h.n1⟩, ⟨h.t0, h.t1⟩, ⟨h.l0, h.l1⟩, fun i hi => ⟨h.d0 i (by omega), h.d1 i (by omega)⟩⟩
theorem wi (n : Int) (h1 : -9000000000000000000 ≤ n) (h2 : n ≤ 9000000000000000000) : IntKind.i64.wrap n = n :=
  wrap_in .i64 (by rw [← kmin_eq]; show (-9223372036854775808 : Int) ≤ _; omega) (by rw [← kmax_eq]; show _ ≤ (9223372036854775807 : Int); omega)
/-- What the inner loop begins with. -/
def inV (E : Env) (l : Nat) (v : List Sc) : List Sc := (inTs l).map (Tm.den (envV (B l) E v))
theorem inV_ok {l : Nat} {v : List Sc} (h : OkV l v) (hn : (v.getD 0 .nil).toI ≤ (v.getD 1 .nil).toI) : OkV (l + 1) (inV E l v) ∧ ((inV E l v).getD 0 .nil).toI = 0 ∧ ((inV E l v).getD 1 .nil).toI = (v.getD 1 .nil).toI - (v.getD 0 .nil).toI ∧
    (inV E l v).getD (3 + (l + 1)) .nil = v.getD (3 + l) .nil ∧ (inV E l v).getD (4 + (l + 1)) .nil = v.getD (4 + l) .nil := by
  obtain ⟨f1, f2, f3, f4, f5, f6⟩ := frame_get (e := envV (B l) E v) (l := l + 1) (a := .il 0) (b := subA l) (f := fun i => match Nat.beq i (l + 1) with | true => .il 0 | false => dsW l (nV l) i) (x := lenV l) (y := rowV l)
  have e0 : ((inV E l v).getD 0 .nil).toI = 0 := by rw [show (inV E l v).getD 0 Sc.nil = _ from f2]; rfl
  have e1 : ((inV E l v).getD 1 .nil).toI = (v.getD 1 .nil).toI - (v.getD 0 .nil).toI := by
    rw [show (inV E l v).getD 1 Sc.nil = _ from f3]
    show IntKind.i64.wrap (((xV l 1).den (envV (B l) E v)).toI - ((xV l 0).den (envV (B l) E v)).toI) = _
    rw [env_at, env_at]
    have := h.n0; have := h.t1; have := h.n1; have := h.t0
    exact wi _ (by omega) (by omega)
  have e5 : (inV E l v).getD (3 + (l + 1)) .nil = v.getD (3 + l) .nil := by
    rw [show (inV E l v).getD (3 + (l + 1)) Sc.nil = _ from f5]; exact env_at
  have e6 : (inV E l v).getD (4 + (l + 1)) .nil = v.getD (4 + l) .nil := by
    rw [show (inV E l v).getD (4 + (l + 1)) Sc.nil = _ from f6]; exact env_at
  have ed : ∀ i, i ≤ l + 1 → 0 ≤ ((inV E l v).getD (2 + i) .nil).toI ∧ ((inV E l v).getD (2 + i) .nil).toI ≤ 1001 := fun i hi => by
    have := f4 i hi
    rw [show (inV E l v).getD (2 + i) .nil = _ from this]
    cases hb : Nat.beq i (l + 1) with
    | true => exact ⟨Int.le_refl _, (by show (0 : Int) ≤ 1001; decide)⟩
    | false =>
      have hne : i ≠ l + 1 := fun e => by subst e; simp at hb
      simp only
      unfold dsW
      cases hb2 : Nat.beq i l with
      | true =>
        show 0 ≤ ((xV l 0).den _).toI ∧ ((xV l 0).den _).toI ≤ 1001
        rw [env_at]; exact ⟨h.n0, h.n1⟩
      | false =>
        show 0 ≤ ((xV l (2 + i)).den _).toI ∧ ((xV l (2 + i)).den _).toI ≤ 1001
        rw [env_at]; exact ⟨h.d0 i (by omega), h.d1 i (by omega)⟩
  refine ⟨⟨f1, by omega, by omega, ?_, ?_, fun i hi => (ed i hi).1, fun i hi => (ed i hi).2, ?_, ?_⟩, e0, e1, e5, e6⟩
  · rw [e1]; omega
  · rw [e1]; have := h.t1; have := h.n0; omega
  · rw [e5]; exact h.l0
  · rw [e5]; exact h.l1
/-- What a name of the inner loop gives. -/
theorem in_at {S : LoopSpec} {l i : Nat} {v : List Sc} (har : S.ar = none) (hargs : S.args = []) (hi : i < l + 6) : (Tm.nth i (inA S.N l)).den (envV (B l) E v) = (finS S E (inV E l v)).getD i .nil := by
  have hl : (inV E l v).length = l + 6 := by
    show ((frame _ _ _ _ _ _).map _).length = _
    exact frame_get.1
  unfold finS
  rw [har]
  simp only [hargs, List.map_nil, finOf, List.nil_append]
  simp only [List.getD, List.getElem?_map]
  rw [List.getElem?_range (by omega)]
  show (E.fn S.N ((consT (inTs l)).den (envV (B l) E v))).at_ i = _
  rw [consT_den]
  rfl
/-- The inner loop's law, where there is one. -/
def InLaw (E : Env) (S' : LoopSpec) (c l : Nat) : Prop := l + 2 ≠ c → LoopLaw S' E ∧ S'.b = B (l + 1) ∧ S'.pre = invA (l + 1) ∧ S'.inv = invA (l + 1) ∧ S'.width = l + 6
/-- A round keeps what is known. -/
theorem next_ok {S' : LoopSpec} {c l : Nat} {dl : Tm} {v : List Sc} (hin : InLaw E S' c l) (har : S'.ar = none) (hargs : S'.args = []) (h : OkV l v) (hn : (v.getD 0 .nil).toI ≤ (v.getD 1 .nil).toI) (hl : l + 2 = c → (v.getD (3 + l) .nil).toI ≤ 500) (hd : dl = nV l ∨ dl = dV l l) :
    OkV l ((nextA S'.N c l dl).map (Tm.den (envV (B l) E v))) ∧ (((nextA S'.N c l dl).map (Tm.den (envV (B l) E v))).getD 0 .nil).toI = (v.getD 0 .nil).toI + 1 ∧ ((nextA S'.N c l dl).map (Tm.den (envV (B l) E v))).getD 1 .nil = v.getD 1 .nil := by
  obtain ⟨f1, f2, f3, f4, f5, f6⟩ := frame_get (e := envV (B l) E v) (l := l) (a := .op (.addi .i64) (nV l) (.il 1)) (b := tV l) (f := dsW l dl) (x := lenN S'.N c l) (y := rowN S'.N c l)
  have e0 : (((nextA S'.N c l dl).map (Tm.den (envV (B l) E v))).getD 0 .nil).toI = (v.getD 0 .nil).toI + 1 := by
    rw [show ((nextA S'.N c l dl).map (Tm.den (envV (B l) E v))).getD 0 Sc.nil = _ from f2]
    show IntKind.i64.wrap (((xV l 0).den (envV (B l) E v)).toI + 1) = _
    rw [env_at]
    have := h.n0; have := h.n1
    exact wi _ (by omega) (by omega)
  have e1 : ((nextA S'.N c l dl).map (Tm.den (envV (B l) E v))).getD 1 .nil = v.getD 1 .nil := by
    rw [show ((nextA S'.N c l dl).map (Tm.den (envV (B l) E v))).getD 1 Sc.nil = _ from f3]
    exact env_at
  have ed : ∀ i, i ≤ l → 0 ≤ (((nextA S'.N c l dl).map (Tm.den (envV (B l) E v))).getD (2 + i) .nil).toI ∧ (((nextA S'.N c l dl).map (Tm.den (envV (B l) E v))).getD (2 + i) .nil).toI ≤ 1001 := fun i hi => by
    rw [show ((nextA S'.N c l dl).map (Tm.den (envV (B l) E v))).getD (2 + i) Sc.nil = _ from f4 i hi]
    unfold dsW
    cases hb : Nat.beq i l with
    | true =>
      rcases hd with rfl | rfl
      · show 0 ≤ ((xV l 0).den _).toI ∧ ((xV l 0).den _).toI ≤ 1001
        rw [env_at]; exact ⟨h.n0, h.n1⟩
      · show 0 ≤ ((xV l (2 + l)).den _).toI ∧ ((xV l (2 + l)).den _).toI ≤ 1001
        rw [env_at]; exact ⟨h.d0 l (by omega), h.d1 l (by omega)⟩
    | false =>
      show 0 ≤ ((xV l (2 + i)).den _).toI ∧ ((xV l (2 + i)).den _).toI ≤ 1001
      rw [env_at]; exact ⟨h.d0 i hi, h.d1 i hi⟩
  have el : 0 ≤ (((nextA S'.N c l dl).map (Tm.den (envV (B l) E v))).getD (3 + l) .nil).toI ∧ (((nextA S'.N c l dl).map (Tm.den (envV (B l) E v))).getD (3 + l) .nil).toI ≤ 501 := by
    rw [show ((nextA S'.N c l dl).map (Tm.den (envV (B l) E v))).getD (3 + l) Sc.nil = _ from f5]
    unfold lenN
    cases hb : Nat.beq (l + 2) c with
    | true =>
      show 0 ≤ IntKind.i64.wrap (((xV l (3 + l)).den (envV (B l) E v)).toI + 1) ∧ IntKind.i64.wrap (((xV l (3 + l)).den (envV (B l) E v)).toI + 1) ≤ 501
      rw [env_at]
      have := h.l0
      have := hl (by simpa using hb)
      rw [wi _ (by omega) (by omega)]
      omega
    | false =>
      have hne : l + 2 ≠ c := fun e => by subst e; simp at hb
      obtain ⟨g1, g2, g3, g4, g5⟩ := hin hne
      obtain ⟨k1, _⟩ := inV_ok (E := E) h hn
      have hlaw := g1 (inV E l v) (by rw [g5]; exact k1.len) (by rw [g2, g3]; exact (inv_ok k1.len).2 k1)
      have hz : (finS S' E (inV E l v)).length = l + 6 := by
        unfold finS
        rw [har]
        simp only [finOf, List.length_map, List.length_range]
        exact k1.len
      have hinv := hlaw.1.end_.1
      rw [g2, g4] at hinv
      have hok := (inv_ok (E := E) (l := l + 1) hz).1 hinv
      show 0 ≤ ((Tm.nth (4 + l) (inA S'.N l)).den _).toI ∧ ((Tm.nth (4 + l) (inA S'.N l)).den _).toI ≤ 501
      rw [in_at har hargs (by omega)]
      have a := hok.l0; have b := hok.l1
      rw [show 3 + (l + 1) = 4 + l by omega] at a b
      exact ⟨a, b⟩
  refine ⟨⟨f1, ?_, ?_, ?_, ?_, fun i hi => (ed i hi).1, fun i hi => (ed i hi).2, el.1, el.2⟩, e0, e1⟩
  · rw [e0]; have := h.n0; omega
  · rw [e0]; have := h.t1; omega
  · rw [e1]; exact h.t0
  · rw [e1]; exact h.t1
theorem ite_t {c : Bool} {x : Sc} (h : (if c = true then x else Sc.b false).toB = true) : c = true ∧ x.toB = true := by
  cases c
  · simp at h
  · exact ⟨rfl, by simpa using h⟩
theorem cond_le {l : Nat} {v : List Sc} {x : Tm} (h : ((Tm.ite (.op .lei (nV l) (tV l)) x (.bl false)).den (envV (B l) E v)).toB = true) : (v.getD 0 .nil).toI ≤ (v.getD 1 .nil).toI ∧ (x.den (envV (B l) E v)).toB = true := by
  obtain ⟨h1, h2⟩ := ite_t (c := ((Tm.op .lei (nV l) (tV l)).den (envV (B l) E v)).toB) h
  have h3 : ((xV l 0).den (envV (B l) E v)).toI ≤ ((xV l 1).den (envV (B l) E v)).toI := of_decide_eq_true h1
  rw [env_at, env_at] at h3
  exact ⟨h3, h2⟩
/-- The law of a loop whose rounds keep what is known. -/
theorem law_of {S S' : LoopSpec} {c l : Nat} {dl : Tm} {F : Nat → Sc → Sc} (hb : S.b = B l) (hpre : S.pre = invA l) (hinv : S.inv = invA l) (hpost : S.post = []) (hpol : S.pol = false) (hnext : S.next = nextA S'.N c l dl) (hw : S.width = l + 5) (ha : S.args = varsL 0 0) (hr : S.ar = none)
    (hc : S.closed 0 = true) (hF : ∀ x, E.fn S.N x = loopN S 0 F x) (hE : ∀ k, k < S.N → E.fn k = F k)
    (hin : InLaw E S' c l) (har : S'.ar = none) (hargs : S'.args = []) (hd : dl = nV l ∨ dl = dV l l)
    (hcond : ∀ v, OkV l v → (S.cond.den (envV (B l) E v)).toB = true → (v.getD 0 .nil).toI ≤ (v.getD 1 .nil).toI ∧ (l + 2 = c → (v.getD (3 + l) .nil).toI ≤ 500)) : LoopLaw S E := by
  refine loopN_law (m := 0) (F := F) hc ha hr (by rw [hnext, hw]; simp [nextA, frame]) hF hE fun v hv hp => ?_
  rw [hb, hpre] at hp
  rw [hw] at hv
  have h0 := (inv_ok hv).1 hp
  obtain ⟨z, hz, _⟩ := rounds_fall (S := S) (E := E) (OkV l) (fun v => (1002 - (v.getD 0 .nil).toI).toNat)
    (fun v hI => by rw [hb, hinv]; exact (inv_ok hI.len).2 hI)
    (fun v hI hcd => by
      rw [hb, hpol] at hcd
      obtain ⟨c1, c2⟩ := hcond v hI hcd
      rw [hb, hnext]
      obtain ⟨n1, n2, n3⟩ := next_ok hin har hargs hI c1 c2 hd
      refine ⟨n1, ?_⟩
      rw [n2]
      have := hI.n1
      omega) _ v (Nat.le_refl _) h0
  exact ⟨z, hz, by rw [hpost]; intro p hp; cases hp⟩
theorem SI_law {c l : Nat} {F : Nat → Sc → Sc} (hc : (SI c l).closed 0 = true) (hF : ∀ x, E.fn (NI c l) x = loopN (SI c l) 0 F x) (hE : ∀ k, k < NI c l → E.fn k = F k) (hin : l + 2 ≠ c → LoopLaw (SI c (l + 1)) E) : LoopLaw (SI c l) E :=
  law_of (S' := SI c (l + 1)) (c := c) (dl := nV l) rfl rfl rfl rfl rfl rfl (by simp [SI, LoopSpec.width, plA]) rfl rfl hc hF hE (fun h => ⟨hin h, rfl, rfl, rfl, by simp [SI, LoopSpec.width, plA]⟩) rfl rfl (.inl rfl) fun v hv h => by
    obtain ⟨h1, h2⟩ := cond_le h
    have h3 : ((xV l (3 + l)).den (envV (B l) E v)).toI ≤ 500 := of_decide_eq_true h2
    rw [env_at] at h3
    exact ⟨h1, fun _ => h3⟩
theorem SS_law {c l : Nat} {F : Nat → Sc → Sc} (hc : (SS c l).closed 0 = true) (hF : ∀ x, E.fn (NS c l) x = loopN (SS c l) 0 F x) (hE : ∀ k, k < NS c l → E.fn k = F k) (hin : l + 2 ≠ c → LoopLaw (SS c (l + 1)) E) : LoopLaw (SS c l) E :=
  law_of (S' := SS c (l + 1)) (c := c) (dl := dV l l) rfl rfl rfl rfl rfl rfl (by simp [SS, LoopSpec.width, plA]) rfl rfl hc hF hE (fun h => ⟨hin h, rfl, rfl, rfl, by simp [SS, LoopSpec.width, plA]⟩) rfl rfl (.inr rfl) fun v hv h => by
    obtain ⟨h1, h2⟩ := cond_le h
    refine ⟨h1, fun hlc => ?_⟩
    unfold okA at h2
    rw [show Nat.beq (l + 2) c = true by simp [hlc]] at h2
    have h3 : ((xV l (3 + l)).den (envV (B l) E v)).toI < 500 := of_decide_eq_true h2
    rw [env_at] at h3
    omega
/-! Where they end alike -/
structure Rel (l : Nat) (v v' : List Sc) : Prop where
  a : OkV l v
  b : OkV l v'
  e : ∀ i, i ≠ 2 + l → v.getD i .nil = v'.getD i .nil
theorem x_rel {l : Nat} {v v' : List Sc} (h : ∀ i, i ≠ 2 + l → v.getD i Sc.nil = v'.getD i .nil) (i : Nat) (hi : i ≠ 2 + l) : (xV l i).den (envV (B l) E v) = (xV l i).den (envV (B l) E v') := by rw [env_at, env_at, h i hi]
theorem sub_rel {l : Nat} {v v' : List Sc} (h : ∀ i, i ≠ 2 + l → v.getD i Sc.nil = v'.getD i .nil) : (subA l).den (envV (B l) E v) = (subA l).den (envV (B l) E v') := by
  show (Opc.subi .i64).den ((xV l 1).den _) ((xV l 0).den _) = (Opc.subi .i64).den ((xV l 1).den _) ((xV l 0).den _)
  rw [x_rel h 1 (by omega), x_rel h 0 (by omega)]
theorem inV_rel {l : Nat} {v v' : List Sc} (h : ∀ i, i ≠ 2 + l → v.getD i Sc.nil = v'.getD i .nil) : inV E l v = inV E l v' := by
  unfold inV
  apply List.map_congr_left
  intro t ht
  simp only [inTs, frame, List.mem_cons, List.mem_append, List.mem_map, List.mem_range, List.not_mem_nil, or_false] at ht
  rcases ht with rfl | rfl | ⟨i, hi, rfl⟩ | rfl | rfl
  · rfl
  · exact sub_rel h
  · cases hb : Nat.beq i (l + 1) with
    | true => rfl
    | false =>
      simp only
      unfold dsW
      cases hb2 : Nat.beq i l with
      | true => exact x_rel h 0 (by omega)
      | false =>
        have : i ≠ l := fun e => by subst e; simp at hb2
        exact x_rel h (2 + i) (by omega)
  · exact x_rel h (3 + l) (by omega)
  · exact x_rel h (4 + l) (by omega)
theorem row_rel {l : Nat} {v v' : List Sc} (h : ∀ i, i ≠ 2 + l → v.getD i Sc.nil = v'.getD i .nil) : (rowA l).den (envV (B l) E v) = (rowA l).den (envV (B l) E v') := by
  unfold rowA
  rw [consT_den, consT_den]
  congr 1
  apply List.map_congr_left
  intro t ht
  simp only [List.mem_map, List.mem_range] at ht
  obtain ⟨i, hi, rfl⟩ := ht
  have : (rowD l i).den (envV (B l) E v) = (rowD l i).den (envV (B l) E v') := by
    unfold rowD
    cases h1 : Nat.blt i l with
    | true =>
      have : i < l := by simpa [Nat.blt_eq] using h1
      exact x_rel h (2 + i) (by omega)
    | false => cases h2 : Nat.beq i l with
      | true => exact x_rel h 0 (by omega)
      | false => cases h3 : Nat.beq i (l + 1) with
        | true => exact sub_rel h
        | false => rfl
  simp only [Tm.den, this]
/-- The two loops of level l, from alike beginnings. -/
def Agree (E : Env) (c l : Nat) : Prop := ∀ v v', Rel l v v' → (v.getD (3 + l) .nil).toI ≤ 500 → ∀ zI zS, Rounds (SI c l) E v zI → Rounds (SS c l) E v' zS →
  ((zS.getD 1 .nil).toI < (zS.getD 0 .nil).toI → zI.getD (3 + l) .nil = zS.getD (3 + l) .nil ∧ zI.getD (4 + l) .nil = zS.getD (4 + l) .nil ∧ (zI.getD (3 + l) .nil).toI ≤ 500) ∧
  ((zS.getD 0 .nil).toI ≤ (zS.getD 1 .nil).toI → 500 < (zI.getD (3 + l) .nil).toI)
/-- What is known of the inner loops. -/
structure InOk (E : Env) (c l : Nat) : Prop where
  i : LoopLaw (SI c (l + 1)) E
  s : LoopLaw (SS c (l + 1)) E
  a : Agree E c (l + 1)
theorem fin_len {S : LoopSpec} {v : List Sc} (har : S.ar = none) : (finS S E v).length = v.length := by
  unfold finS
  rw [har]
  simp [finOf]
theorem tot_const {c l : Nat} {v z : List Sc} (h : Rounds (SS c l) E v z) (hl : v.length = l + 5) : z.getD 1 .nil = v.getD 1 .nil := by
  have := h.const (j := 1) (by rfl) (by rw [hl]; simp [SS, nextA, frame])
  simp only [List.getD, this]
/-- The inner loops' ends, from a round of the outer ones. -/
theorem in_agree {c l : Nat} {v v' : List Sc} (hin : InOk E c l) (hr : Rel l v v') (hn : (v'.getD 0 .nil).toI ≤ (v'.getD 1 .nil).toI) (hl : (v.getD (3 + l) .nil).toI ≤ 500) :
    ((okA c l).den (envV (B l) E v')).toB = (match Nat.beq (l + 2) c with | true => ((Tm.op .lti (lenV l) (.il 500)).den (envV (B l) E v')).toB | false => decide ((v'.getD 1 .nil).toI - (v'.getD 0 .nil).toI < ((finS (SS c (l + 1)) E (inV E l v')).getD 0 .nil).toI)) ∧
    (((v'.getD 1 .nil).toI - (v'.getD 0 .nil).toI < ((finS (SS c (l + 1)) E (inV E l v')).getD 0 .nil).toI) → (finS (SI c (l + 1)) E (inV E l v)).getD (4 + l) .nil = (finS (SS c (l + 1)) E (inV E l v')).getD (4 + l) .nil ∧ (finS (SI c (l + 1)) E (inV E l v)).getD (5 + l) .nil = (finS (SS c (l + 1)) E (inV E l v')).getD (5 + l) .nil ∧ ((finS (SI c (l + 1)) E (inV E l v)).getD (4 + l) .nil).toI ≤ 500) ∧
    (((finS (SS c (l + 1)) E (inV E l v')).getD 0 .nil).toI ≤ (v'.getD 1 .nil).toI - (v'.getD 0 .nil).toI → 500 < ((finS (SI c (l + 1)) E (inV E l v)).getD (4 + l) .nil).toI) := by
  have hev : inV E l v = inV E l v' := inV_rel hr.e
  obtain ⟨k1, k2, k3, k4, k5⟩ := inV_ok (E := E) hr.b hn
  have lI := hin.i (inV E l v') (by rw [k1.len]; simp [SI, LoopSpec.width, plA]) ((inv_ok k1.len).2 k1)
  have lS := hin.s (inV E l v') (by rw [k1.len]; simp [SS, LoopSpec.width, plA]) ((inv_ok k1.len).2 k1)
  have hag := hin.a (inV E l v') (inV E l v') ⟨k1, k1, fun _ _ => rfl⟩ (by rw [k4, ← hr.e (3 + l) (by omega)]; exact hl) _ _ lI.1 lS.1
  have ht := tot_const lS.1 k1.len
  rw [ht, k3] at hag
  rw [show 3 + (l + 1) = 4 + l by omega, show 4 + (l + 1) = 5 + l by omega] at hag
  refine ⟨?_, ?_, ?_⟩
  · unfold okA
    cases hb : Nat.beq (l + 2) c with
    | true => rfl
    | false =>
      have e1 : (Tm.nth 0 (inA (NS c (l + 1)) l)).den (envV (B l) E v') = (finS (SS c (l + 1)) E (inV E l v')).getD 0 .nil := in_at (S := SS c (l + 1)) rfl rfl (by omega)
      have e2 : ((subA l).den (envV (B l) E v')).toI = (v'.getD 1 .nil).toI - (v'.getD 0 .nil).toI := by
        show IntKind.i64.wrap (((xV l 1).den (envV (B l) E v')).toI - ((xV l 0).den (envV (B l) E v')).toI) = _
        rw [env_at, env_at]
        have := hr.b.n0; have := hr.b.t1; have := hr.b.n1; have := hr.b.t0
        exact wi _ (by omega) (by omega)
      show (if ((Opc.lei).den ((Tm.nth 0 (inA (NS c (l + 1)) l)).den (envV (B l) E v')) ((subA l).den (envV (B l) E v'))).toB = true then Sc.b false else Sc.b true).toB = _
      have e3 : ((Opc.lei).den ((Tm.nth 0 (inA (NS c (l + 1)) l)).den (envV (B l) E v')) ((subA l).den (envV (B l) E v'))).toB = decide (((finS (SS c (l + 1)) E (inV E l v')).getD 0 .nil).toI ≤ (v'.getD 1 .nil).toI - (v'.getD 0 .nil).toI) := by
        rw [e1]
        show decide (_ ≤ ((subA l).den (envV (B l) E v')).toI) = _
        rw [e2]
      rw [e3]
      by_cases hd : ((finS (SS c (l + 1)) E (inV E l v')).getD 0 .nil).toI ≤ (v'.getD 1 .nil).toI - (v'.getD 0 .nil).toI
      · rw [decide_eq_true hd, if_pos rfl, decide_eq_false (by omega)]; rfl
      · rw [decide_eq_false hd, if_neg (by decide), decide_eq_true (by omega)]; rfl
  · rw [hev]; exact hag.1
  · rw [hev]; exact hag.2
theorem condI_den {l : Nat} {v : List Sc} : ((condI l).den (envV (B l) E v)).toB = (decide ((v.getD 0 .nil).toI ≤ (v.getD 1 .nil).toI) && decide ((v.getD (3 + l) .nil).toI ≤ 500)) := by
  have e1 : ((Tm.op .lei (nV l) (tV l)).den (envV (B l) E v)).toB = decide ((v.getD 0 .nil).toI ≤ (v.getD 1 .nil).toI) := by
    show decide (((xV l 0).den _).toI ≤ ((xV l 1).den _).toI) = _
    rw [env_at, env_at]
  have e2 : ((Tm.op .lei (lenV l) (.il 500)).den (envV (B l) E v)).toB = decide ((v.getD (3 + l) .nil).toI ≤ 500) := by
    show decide (((xV l (3 + l)).den _).toI ≤ 500) = _
    rw [env_at]
  show (if ((Tm.op .lei (nV l) (tV l)).den (envV (B l) E v)).toB = true then (Tm.op .lei (lenV l) (.il 500)).den (envV (B l) E v) else Sc.b false).toB = _
  rw [e1]
  cases decide ((v.getD 0 .nil).toI ≤ (v.getD 1 .nil).toI) with
  | true => rw [if_pos rfl, e2]; rfl
  | false => rw [if_neg (by decide)]; rfl
theorem condS_den {c l : Nat} {v : List Sc} : ((condS c l).den (envV (B l) E v)).toB = (decide ((v.getD 0 .nil).toI ≤ (v.getD 1 .nil).toI) && ((okA c l).den (envV (B l) E v)).toB) := by
  have e1 : ((Tm.op .lei (nV l) (tV l)).den (envV (B l) E v)).toB = decide ((v.getD 0 .nil).toI ≤ (v.getD 1 .nil).toI) := by
    show decide (((xV l 0).den _).toI ≤ ((xV l 1).den _).toI) = _
    rw [env_at, env_at]
  show (if ((Tm.op .lei (nV l) (tV l)).den (envV (B l) E v)).toB = true then (okA c l).den (envV (B l) E v) else Sc.b false).toB = _
  rw [e1]
  cases decide ((v.getD 0 .nil).toI ≤ (v.getD 1 .nil).toI) with
  | true => rw [if_pos rfl]; rfl
  | false => rw [if_neg (by decide)]; rfl
theorem I_more {c l : Nat} {v z : List Sc} (h : Rounds (SI c l) E v z) (hc : ((condI l).den (envV (B l) E v)).toB = true) : Rounds (SI c l) E ((nextA (NI c (l + 1)) c l (nV l)).map (Tm.den (envV (B l) E v))) z := by
  cases h with
  | stop _ h2 =>
    have h3 : ((condI l).den (envV (B l) E v)).toB = false := h2
    rw [hc] at h3
    cases h3
  | more _ _ h3 => exact h3
theorem I_stop {c l : Nat} {v z : List Sc} (h : Rounds (SI c l) E v z) (hc : ((condI l).den (envV (B l) E v)).toB = false) : z = v := by
  cases h with
  | stop _ _ => rfl
  | more _ h2 _ =>
    have h3 : ((condI l).den (envV (B l) E v)).toB = true := h2
    rw [hc] at h3
    cases h3
theorem lenI {c l : Nat} {v : List Sc} : ((nextA (NI c (l + 1)) c l (nV l)).map (Tm.den (envV (B l) E v))).getD (3 + l) .nil = (lenN (NI c (l + 1)) c l).den (envV (B l) E v) := frame_get.2.2.2.2.1
theorem next_bad {c l : Nat} {v v' : List Sc} (hin : l + 2 ≠ c → InOk E c l) (hr : Rel l v v') (hn : (v'.getD 0 .nil).toI ≤ (v'.getD 1 .nil).toI) (hl : (v.getD (3 + l) .nil).toI ≤ 500) (hok : ((okA c l).den (envV (B l) E v')).toB = false) :
    500 < (((nextA (NI c (l + 1)) c l (nV l)).map (Tm.den (envV (B l) E v))).getD (3 + l) .nil).toI := by
  rw [lenI]
  unfold lenN
  cases hb : Nat.beq (l + 2) c with
  | true =>
    have hlc : l + 2 = c := by simpa using hb
    have h1 : ((Tm.op .lti (lenV l) (.il 500)).den (envV (B l) E v')).toB = false := by
      unfold okA at hok
      rw [hb] at hok
      exact hok
    have h2 : ¬ ((xV l (3 + l)).den (envV (B l) E v')).toI < 500 := of_decide_eq_false h1
    rw [env_at, ← hr.e (3 + l) (by omega)] at h2
    show 500 < IntKind.i64.wrap (((xV l (3 + l)).den (envV (B l) E v)).toI + 1)
    rw [env_at, wi _ (by omega) (by omega)]
    omega
  | false =>
    have hne : l + 2 ≠ c := fun e => by subst e; simp at hb
    obtain ⟨g1, g2, g3⟩ := in_agree (hin hne) hr hn hl
    rw [g1, hb] at hok
    have hok' := of_decide_eq_false hok
    have := g3 (by omega)
    show 500 < ((Tm.nth (4 + l) (inA (NI c (l + 1)) l)).den (envV (B l) E v)).toI
    rw [show (Tm.nth (4 + l) (inA (NI c (l + 1)) l)).den (envV (B l) E v) = _ from in_at (S := SI c (l + 1)) rfl rfl (by omega)]
    exact this
theorem getD_none {L : List Sc} {i : Nat} (h : L.length ≤ i) : L.getD i .nil = .nil := by
  rw [List.getD, List.getElem?_eq_none h]; rfl
theorem next_rel {c l : Nat} {v v' : List Sc} (hin : l + 2 ≠ c → InOk E c l) (hr : Rel l v v') (hn : (v'.getD 0 .nil).toI ≤ (v'.getD 1 .nil).toI) (hl : (v.getD (3 + l) .nil).toI ≤ 500) (hok : ((okA c l).den (envV (B l) E v')).toB = true) :
    Rel l ((nextA (NI c (l + 1)) c l (nV l)).map (Tm.den (envV (B l) E v))) ((nextA (NS c (l + 1)) c l (dV l l)).map (Tm.den (envV (B l) E v'))) ∧ (((nextA (NI c (l + 1)) c l (nV l)).map (Tm.den (envV (B l) E v))).getD (3 + l) .nil).toI ≤ 500 := by
  have hn0 : (v.getD 0 .nil).toI ≤ (v.getD 1 .nil).toI := by rw [hr.e 0 (by omega), hr.e 1 (by omega)]; exact hn
  have hl' : (v'.getD (3 + l) .nil).toI ≤ 500 := by rw [← hr.e (3 + l) (by omega)]; exact hl
  obtain ⟨oI, _, _⟩ := next_ok (S' := SI c (l + 1)) (c := c) (dl := nV l) (fun h => ⟨(hin h).i, rfl, rfl, rfl, by simp [SI, LoopSpec.width, plA]⟩) rfl rfl hr.a hn0 (fun _ => hl) (.inl rfl)
  obtain ⟨oS, _, _⟩ := next_ok (S' := SS c (l + 1)) (c := c) (dl := dV l l) (fun h => ⟨(hin h).s, rfl, rfl, rfl, by simp [SS, LoopSpec.width, plA]⟩) rfl rfl hr.b hn (fun _ => hl') (.inr rfl)
  obtain ⟨f1, f2, f3, f4, f5, f6⟩ := frame_get (e := envV (B l) E v) (l := l) (a := .op (.addi .i64) (nV l) (.il 1)) (b := tV l) (f := dsW l (nV l)) (x := lenN (NI c (l + 1)) c l) (y := rowN (NI c (l + 1)) c l)
  obtain ⟨g1, g2, g3, g4, g5, g6⟩ := frame_get (e := envV (B l) E v') (l := l) (a := .op (.addi .i64) (nV l) (.il 1)) (b := tV l) (f := dsW l (dV l l)) (x := lenN (NS c (l + 1)) c l) (y := rowN (NS c (l + 1)) c l)
  have hlr : (lenN (NI c (l + 1)) c l).den (envV (B l) E v) = (lenN (NS c (l + 1)) c l).den (envV (B l) E v') ∧ (rowN (NI c (l + 1)) c l).den (envV (B l) E v) = (rowN (NS c (l + 1)) c l).den (envV (B l) E v') ∧ ((lenN (NI c (l + 1)) c l).den (envV (B l) E v)).toI ≤ 500 := by
    unfold lenN rowN
    cases hb : Nat.beq (l + 2) c with
    | true =>
      have h1 : ((Tm.op .lti (lenV l) (.il 500)).den (envV (B l) E v')).toB = true := by
        unfold okA at hok
        rw [hb] at hok
        exact hok
      have h2 : ((xV l (3 + l)).den (envV (B l) E v')).toI < 500 := of_decide_eq_true h1
      have hx := x_rel (E := E) hr.e (3 + l) (by omega)
      refine ⟨?_, ?_, ?_⟩
      · show (Opc.addi .i64).den ((xV l (3 + l)).den _) _ = (Opc.addi .i64).den ((xV l (3 + l)).den _) _
        rw [hx]; rfl
      · show Opc.snoc.den ((xV l (4 + l)).den _) ((rowA l).den _) = Opc.snoc.den ((xV l (4 + l)).den _) ((rowA l).den _)
        rw [x_rel hr.e (4 + l) (by omega), row_rel hr.e]
      · show IntKind.i64.wrap (((xV l (3 + l)).den (envV (B l) E v)).toI + 1) ≤ 500
        rw [hx]
        rw [env_at] at h2 ⊢
        have := hr.b.l0
        rw [wi _ (by omega) (by omega)]
        omega
    | false =>
      have hne : l + 2 ≠ c := fun e => by subst e; simp at hb
      obtain ⟨k1, k2, _⟩ := in_agree (hin hne) hr hn hl
      rw [k1, hb] at hok
      obtain ⟨q1, q2, q3⟩ := k2 (of_decide_eq_true hok)
      have a1 : (Tm.nth (4 + l) (inA (NI c (l + 1)) l)).den (envV (B l) E v) = _ := in_at (S := SI c (l + 1)) rfl rfl (by omega)
      have a2 : (Tm.nth (4 + l) (inA (NS c (l + 1)) l)).den (envV (B l) E v') = _ := in_at (S := SS c (l + 1)) rfl rfl (by omega)
      have a3 : (Tm.nth (5 + l) (inA (NI c (l + 1)) l)).den (envV (B l) E v) = _ := in_at (S := SI c (l + 1)) rfl rfl (by omega)
      have a4 : (Tm.nth (5 + l) (inA (NS c (l + 1)) l)).den (envV (B l) E v') = _ := in_at (S := SS c (l + 1)) rfl rfl (by omega)
      refine ⟨?_, ?_, ?_⟩
      · show (Tm.nth (4 + l) (inA (NI c (l + 1)) l)).den (envV (B l) E v) = (Tm.nth (4 + l) (inA (NS c (l + 1)) l)).den (envV (B l) E v')
        rw [a1, a2]; exact q1
      · show (Tm.nth (5 + l) (inA (NI c (l + 1)) l)).den (envV (B l) E v) = (Tm.nth (5 + l) (inA (NS c (l + 1)) l)).den (envV (B l) E v')
        rw [a3, a4]; exact q2
      · show ((Tm.nth (4 + l) (inA (NI c (l + 1)) l)).den (envV (B l) E v)).toI ≤ 500
        rw [a1]; exact q3
  refine ⟨⟨oI, oS, fun i hi => ?_⟩, by rw [lenI]; exact hlr.2.2⟩
  rcases Nat.lt_or_ge i (l + 5) with hlt | hge
  · rcases Nat.eq_zero_or_pos i with rfl | h0
    · refine Eq.trans f2 (Eq.trans ?_ g2.symm)
      show (Opc.addi .i64).den ((xV l 0).den _) _ = (Opc.addi .i64).den ((xV l 0).den _) _
      rw [x_rel hr.e 0 (by omega)]; rfl
    · by_cases h1 : i = 1
      · subst h1
        exact Eq.trans f3 (Eq.trans (x_rel hr.e 1 (by omega)) g3.symm)
      · by_cases h3 : i = 3 + l
        · subst h3
          exact Eq.trans f5 (Eq.trans hlr.1 g5.symm)
        · by_cases h4 : i = 4 + l
          · subst h4
            exact Eq.trans f6 (Eq.trans hlr.2.1 g6.symm)
          · obtain ⟨q, rfl⟩ : ∃ q, i = 2 + q := ⟨i - 2, by omega⟩
            refine Eq.trans (f4 q (by omega)) (Eq.trans ?_ (g4 q (by omega)).symm)
            unfold dsW
            have hbq : Nat.beq q l = false := by
              cases hb : Nat.beq q l with
              | false => rfl
              | true => exact absurd (Nat.eq_of_beq_eq_true hb) (by omega)
            rw [hbq]
            exact x_rel hr.e (2 + q) (by omega)
  · exact Eq.trans (getD_none (Nat.le_trans (Nat.le_of_eq f1) hge)) (getD_none (Nat.le_trans (Nat.le_of_eq g1) hge)).symm
/-- THE TWO LOOPS END ALIKE. -/
theorem agree {c l : Nat} (hin : l + 2 ≠ c → InOk E c l) : Agree E c l := by
  intro v v' hr hlen zI zS hI hS
  induction hS generalizing v zI with
  | stop hinv hcd =>
    rename_i v'
    have hcd' : ((condS c l).den (envV (B l) E v')).toB = false := hcd
    rw [condS_den] at hcd'
    by_cases hn : (v'.getD 0 .nil).toI ≤ (v'.getD 1 .nil).toI
    · rw [decide_eq_true hn] at hcd'
      have hok : ((okA c l).den (envV (B l) E v')).toB = false := by simpa using hcd'
      refine ⟨fun h => absurd hn (by omega), fun _ => ?_⟩
      have hcI : ((condI l).den (envV (B l) E v)).toB = true := by
        rw [condI_den, hr.e 0 (by omega), hr.e 1 (by omega), decide_eq_true hn, decide_eq_true hlen]; rfl
      have h2 := I_more hI hcI
      have h3 := next_bad hin hr hn hlen hok
      have h4 := I_stop h2 (by rw [condI_den, decide_eq_false (Int.not_le.2 h3)]; simp)
      rw [h4]
      exact h3
    · refine ⟨fun _ => ?_, fun h => absurd h hn⟩
      have h4 := I_stop hI (by rw [condI_den, hr.e 0 (by omega), hr.e 1 (by omega), decide_eq_false hn]; rfl)
      rw [h4]
      exact ⟨hr.e _ (by omega), hr.e _ (by omega), hlen⟩
  | more hinv hcd hrest ih =>
    rename_i v' z'
    have hcd' : ((condS c l).den (envV (B l) E v')).toB = true := hcd
    rw [condS_den, Bool.and_eq_true] at hcd'
    have hn := of_decide_eq_true hcd'.1
    obtain ⟨k1, k2⟩ := next_rel hin hr hn hlen hcd'.2
    have hcI : ((condI l).den (envV (B l) E v)).toB = true := by
      rw [condI_den, hr.e 0 (by omega), hr.e 1 (by omega), decide_eq_true hn, decide_eq_true hlen]; rfl
    exact ih _ k1 k2 _ (I_more hI hcI)
/-! The list that is nil at first: the first round of each level is made beforehand -/
def totT : Nat → Tm
  | 0 => .var 1
  | l + 1 => .op (.subi .i64) (totT l) (.il 0)
def row0 (l : Nat) : Tm := consT ((List.range 6).map fun i => .cons (.il 3) (match Nat.beq i (l + 1) with | true => .op (.subi .i64) (totT l) (.il 0) | false => .il 0))
def v0T (l : Nat) : List Tm := frame (.il 0) (totT l) l (fun _ => .il 0) (.il 0) .nil
/-- r levels lie below. -/
def chT (c : Nat) : Nat → Nat → List Tm
  | 0, l => frame (.il 1) (totT l) l (fun _ => .il 0) (.il 1) (row0 l)
  | r + 1, l => frame (.il 1) (totT l) l (fun _ => .il 0) (.nth (4 + l) (.app (NI c (l + 1)) (consT (chT c r (l + 1))))) (.nth (5 + l) (.app (NI c (l + 1)) (consT (chT c r (l + 1)))))
theorem app_at {S : LoopSpec} {ts : List Tm} {i : Nat} (har : S.ar = none) (hargs : S.args = []) (hi : i < ts.length) : (Tm.nth i (.app S.N (consT ts))).den E = (finS S E (ts.map (Tm.den E))).getD i .nil := by
  unfold finS
  rw [har]
  simp only [hargs, List.map_nil, finOf, List.nil_append, List.getD, List.getElem?_map]
  rw [List.getElem?_range (by simpa using hi)]
  show (E.fn S.N ((consT ts).den E)).at_ i = _
  rw [consT_den]
  rfl
theorem frame_eq {e e' : Env} {l : Nat} {a b x y a' b' x' y' : Tm} {f f' : Nat → Tm} (ha : a.den e = a'.den e') (hb : b.den e = b'.den e') (hf : ∀ i, i ≤ l → (f i).den e = (f' i).den e') (hx : x.den e = x'.den e') (hy : y.den e = y'.den e') :
    (frame a b l f x y).map (Tm.den e) = (frame a' b' l f' x' y').map (Tm.den e') := by
  simp only [frame, List.map_cons, List.map_append, List.map_map, List.map_nil, ha, hb, hx, hy]
  congr 3
  apply List.map_congr_left
  intro i hi
  exact hf i (by have := List.mem_range.1 hi; omega)
/-- The total is a small number. -/
def TotOk (E : Env) : Prop := 0 ≤ (E.v 1).toI ∧ (E.v 1).toI ≤ 1000
theorem tot_ok (h : TotOk E) : ∀ l, ((totT l).den E).toI = (E.v 1).toI
  | 0 => rfl
  | l + 1 => by
    show IntKind.i64.wrap (((totT l).den E).toI - 0) = _
    rw [tot_ok h l]
    obtain ⟨h1, h2⟩ := h
    rw [wi _ (by omega) (by omega)]
    omega
theorem v0_ok (h : TotOk E) (l : Nat) : OkV l ((v0T l).map (Tm.den E)) := by
  obtain ⟨f1, f2, f3, f4, f5, f6⟩ := frame_get (e := E) (l := l) (a := .il 0) (b := totT l) (f := fun _ => .il 0) (x := .il 0) (y := .nil)
  have e1 := tot_ok h l
  obtain ⟨h1, h2⟩ := h
  refine ⟨f1, ?_, ?_, ?_, ?_, fun i hi => ?_, fun i hi => ?_, ?_, ?_⟩
  · rw [show ((v0T l).map (Tm.den E)).getD 0 Sc.nil = _ from f2]; exact Int.le_refl _
  · rw [show ((v0T l).map (Tm.den E)).getD 0 Sc.nil = _ from f2]; show (0 : Int) ≤ 1001; decide
  · rw [show ((v0T l).map (Tm.den E)).getD 1 Sc.nil = _ from f3, e1]; exact h1
  · rw [show ((v0T l).map (Tm.den E)).getD 1 Sc.nil = _ from f3, e1]; exact h2
  · rw [show ((v0T l).map (Tm.den E)).getD (2 + i) Sc.nil = _ from f4 i hi]; exact Int.le_refl _
  · rw [show ((v0T l).map (Tm.den E)).getD (2 + i) Sc.nil = _ from f4 i hi]; show (0 : Int) ≤ 1001; decide
  · rw [show ((v0T l).map (Tm.den E)).getD (3 + l) Sc.nil = _ from f5]; exact Int.le_refl _
  · rw [show ((v0T l).map (Tm.den E)).getD (3 + l) Sc.nil = _ from f5]; show (0 : Int) ≤ 501; decide
theorem v0_at {l i : Nat} : (xV l i).den (envV (B l) E ((v0T l).map (Tm.den E))) = ((v0T l).map (Tm.den E)).getD i .nil := env_at
theorem inV_v0 {l : Nat} : inV E l ((v0T l).map (Tm.den E)) = (v0T (l + 1)).map (Tm.den E) := by
  obtain ⟨f1, f2, f3, f4, f5, f6⟩ := frame_get (e := E) (l := l) (a := .il 0) (b := totT l) (f := fun _ => .il 0) (x := .il 0) (y := .nil)
  unfold inV inTs v0T
  refine frame_eq rfl ?_ (fun i hi => ?_) ?_ ?_
  · show (Opc.subi .i64).den ((xV l 1).den _) ((xV l 0).den _) = (Opc.subi .i64).den ((totT l).den E) ((Tm.il 0).den E)
    rw [env_at, env_at]
    rw [f2, f3]
  · cases hb : Nat.beq i (l + 1) with
    | true => rfl
    | false =>
      simp only
      unfold dsW
      have hne : i ≠ l + 1 := fun e => by subst e; simp at hb
      cases hb2 : Nat.beq i l with
      | true => exact Eq.trans env_at f2
      | false => exact Eq.trans env_at (f4 i (by omega))
  · exact Eq.trans env_at f5
  · exact Eq.trans env_at f6
theorem rowD_v0 {l i : Nat} : (rowD l i).den (envV (B l) E ((v0T l).map (Tm.den E))) = (match Nat.beq i (l + 1) with | true => Tm.op (.subi .i64) (totT l) (.il 0) | false => .il 0).den E := by
  obtain ⟨f1, f2, f3, f4, f5, f6⟩ := frame_get (e := E) (l := l) (a := .il 0) (b := totT l) (f := fun _ => .il 0) (x := .il 0) (y := .nil)
  unfold rowD
  cases h1 : Nat.blt i l with
  | true =>
    have hlt : i < l := by simpa [Nat.blt_eq] using h1
    have hb : Nat.beq i (l + 1) = false := by
      cases hb : Nat.beq i (l + 1) with
      | false => rfl
      | true => exact absurd (Nat.eq_of_beq_eq_true hb) (by omega)
    rw [hb]
    exact Eq.trans env_at (f4 i (by omega))
  | false => cases h2 : Nat.beq i l with
    | true =>
      have e := Nat.eq_of_beq_eq_true h2
      have hb : Nat.beq i (l + 1) = false := by
        cases hb : Nat.beq i (l + 1) with
        | false => rfl
        | true => exact absurd (Nat.eq_of_beq_eq_true hb) (by omega)
      rw [hb]
      exact Eq.trans env_at f2
    | false => cases h3 : Nat.beq i (l + 1) with
      | true =>
        show (Opc.subi .i64).den ((xV l 1).den _) ((xV l 0).den _) = (Opc.subi .i64).den ((totT l).den E) ((Tm.il 0).den E)
        rw [env_at, env_at, show ((v0T l).map (Tm.den E)).getD 1 Sc.nil = _ from f3, show ((v0T l).map (Tm.den E)).getD 0 Sc.nil = _ from f2]
      | false => rfl
/-- A first round from nought. -/
theorem next_v0 {c r l : Nat} (hc : c = r + l + 2) (hin : ∀ r', r = r' + 1 → finS (SI c (l + 1)) E ((chT c r' (l + 1)).map (Tm.den E)) = finS (SI c (l + 1)) E ((v0T (l + 1)).map (Tm.den E))) :
    (nextA (NI c (l + 1)) c l (nV l)).map (Tm.den (envV (B l) E ((v0T l).map (Tm.den E)))) = (chT c r l).map (Tm.den E) := by
  obtain ⟨f1, f2, f3, f4, f5, f6⟩ := frame_get (e := E) (l := l) (a := .il 0) (b := totT l) (f := fun _ => .il 0) (x := .il 0) (y := .nil)
  have ea : (Tm.op (.addi .i64) (nV l) (.il 1)).den (envV (B l) E ((v0T l).map (Tm.den E))) = (Tm.il 1).den E := by
    show (Opc.addi .i64).den ((xV l 0).den _) (Sc.i 1) = Sc.i 1
    rw [show (xV l 0).den (envV (B l) E ((v0T l).map (Tm.den E))) = Sc.i 0 from Eq.trans env_at f2]
    rfl
  have ef : ∀ i, i ≤ l → (dsW l (nV l) i).den (envV (B l) E ((v0T l).map (Tm.den E))) = (Tm.il 0).den E := fun i hi => by
    unfold dsW
    cases hb : Nat.beq i l with
    | true => exact Eq.trans env_at f2
    | false => exact Eq.trans env_at (f4 i hi)
  cases r with
  | zero =>
    have hb : Nat.beq (l + 2) c = true := by subst hc; simp
    unfold nextA chT
    refine frame_eq ea (Eq.trans env_at f3) ef ?_ ?_
    · unfold lenN
      rw [hb]
      show (Opc.addi .i64).den ((xV l (3 + l)).den _) (Sc.i 1) = Sc.i 1
      rw [show (xV l (3 + l)).den (envV (B l) E ((v0T l).map (Tm.den E))) = Sc.i 0 from Eq.trans env_at f5]
      rfl
    · unfold rowN
      rw [hb]
      show Opc.snoc.den ((xV l (4 + l)).den _) ((rowA l).den _) = (row0 l).den E
      rw [show (xV l (4 + l)).den (envV (B l) E ((v0T l).map (Tm.den E))) = Sc.nil from Eq.trans env_at f6]
      have er : (rowA l).den (envV (B l) E ((v0T l).map (Tm.den E))) = (row0 l).den E := by
        unfold rowA row0
        rw [consT_den, consT_den]
        congr 1
        simp only [List.map_map]
        apply List.map_congr_left
        intro i _
        show Sc.cons (Sc.i 3) ((rowD l i).den _) = Sc.cons (Sc.i 3) (Tm.den E _)
        rw [rowD_v0]
      rw [er]
      unfold row0
      rw [consT_den]
      show Sc.ofList ([] ++ (Sc.ofList _).list) = _
      rw [ofList_list, List.nil_append]
  | succ r =>
    have hb : Nat.beq (l + 2) c = false := by
      cases hb : Nat.beq (l + 2) c with
      | false => rfl
      | true => exact absurd (Nat.eq_of_beq_eq_true hb) (by omega)
    have hI := hin r rfl
    have hlen : (chT c r (l + 1)).length = l + 6 := by cases r <;> simp [chT, frame]
    unfold nextA
    rw [chT]
    refine frame_eq ea (Eq.trans env_at f3) ef ?_ ?_
    · unfold lenN
      rw [hb]
      show (Tm.nth (4 + l) (inA (SI c (l + 1)).N l)).den _ = (Tm.nth (4 + l) (.app (SI c (l + 1)).N (consT (chT c r (l + 1))))).den E
      rw [in_at rfl rfl (by omega), app_at rfl rfl (by omega), inV_v0, hI]
    · unfold rowN
      rw [hb]
      show (Tm.nth (5 + l) (inA (SI c (l + 1)).N l)).den _ = (Tm.nth (5 + l) (.app (SI c (l + 1)).N (consT (chT c r (l + 1))))).den E
      rw [in_at rfl rfl (by omega), app_at rfl rfl (by omega), inV_v0, hI]
theorem ch_go (h : TotOk E) {c : Nat} (hlaw : ∀ l, l + 2 ≤ c → LoopLaw (SI c l) E) (r l : Nat) (hc : c = r + l + 2) (hin : ∀ r', r = r' + 1 → finS (SI c (l + 1)) E ((chT c r' (l + 1)).map (Tm.den E)) = finS (SI c (l + 1)) E ((v0T (l + 1)).map (Tm.den E))) : finS (SI c l) E ((chT c r l).map (Tm.den E)) = finS (SI c l) E ((v0T l).map (Tm.den E)) := by
  have hV := v0_ok h l
  obtain ⟨f1, f2, f3, f4, f5, f6⟩ := frame_get (e := E) (l := l) (a := .il 0) (b := totT l) (f := fun _ => .il 0) (x := .il 0) (y := .nil)
  have g0 : (((v0T l).map (Tm.den E)).getD 0 .nil).toI = 0 := by rw [show ((v0T l).map (Tm.den E)).getD 0 Sc.nil = _ from f2]; rfl
  have g3 : (((v0T l).map (Tm.den E)).getD (3 + l) .nil).toI = 0 := by rw [show ((v0T l).map (Tm.den E)).getD (3 + l) Sc.nil = _ from f5]; rfl
  have h1 := (hlaw l (by omega) _ (by rw [hV.len]; simp [SI, LoopSpec.width, plA]) ((inv_ok hV.len).2 hV)).1
  have h2 := I_more h1 (by rw [condI_den, g0, g3, decide_eq_true hV.t0]; rfl)
  obtain ⟨n1, _, _⟩ := next_ok (S' := SI c (l + 1)) (c := c) (dl := nV l) (fun hne => ⟨hlaw (l + 1) (by omega), rfl, rfl, rfl, by simp [SI, LoopSpec.width, plA]⟩) rfl rfl hV (by rw [g0]; exact hV.t0) (fun _ => by rw [g3]; decide) (.inl rfl)
  rw [show (nextA (SI c (l + 1)).N c l (nV l)).map (Tm.den (envV (B l) E ((v0T l).map (Tm.den E)))) = (chT c r l).map (Tm.den E) from next_v0 hc hin] at n1
  rw [next_v0 hc hin] at h2
  have h3 := (hlaw l (by omega) _ (by rw [n1.len]; simp [SI, LoopSpec.width, plA]) ((inv_ok n1.len).2 n1)).1
  exact h3.unique h2
/-- The chain of first rounds ends where the loop from nought does. -/
theorem ch_eq (h : TotOk E) {c : Nat} (hlaw : ∀ l, l + 2 ≤ c → LoopLaw (SI c l) E) : ∀ r l, c = r + l + 2 → finS (SI c l) E ((chT c r l).map (Tm.den E)) = finS (SI c l) E ((v0T l).map (Tm.den E)) := by
  intro r
  induction r with
  | zero =>
    intro l hc
    exact ch_go h hlaw 0 l hc fun r' e => absurd e (by omega)
  | succ r ih =>
    intro l hc
    exact ch_go h hlaw (r + 1) l hc fun r' e => by
      have : r' = r := by omega
      subst this
      exact ih (l + 1) (by omega)
end
end Go.Sx.All
set_option linter.unusedVariables false
set_option linter.unusedSimpArgs false
noncomputable section
namespace Go.Sx.All
open Go Go.Sx
def sumTo (d : Nat → Int) : Nat → Int
  | 0 => 0
  | m + 1 => sumTo d m + d m
theorem sumTo_congr {d e : Nat → Int} : ∀ {m : Nat}, (∀ i, i < m → d i = e i) → sumTo d m = sumTo e m
  | 0, _ => rfl
  | m + 1, h => by simp only [sumTo]; rw [sumTo_congr fun i hi => h i (by omega), h m (by omega)]
theorem sumTo_nn {d : Nat → Int} : ∀ {m : Nat}, (∀ i, i < m → 0 ≤ d i) → 0 ≤ sumTo d m ∧ ∀ i, i < m → d i ≤ sumTo d m
  | 0, _ => ⟨Int.le_refl _, fun i hi => absurd hi (by omega)⟩
  | m + 1, h => by
    obtain ⟨h1, h2⟩ := sumTo_nn (d := d) (m := m) fun i hi => h i (by omega)
    have h3 := h m (by omega)
    refine ⟨by simp only [sumTo]; omega, fun i hi => ?_⟩
    simp only [sumTo]
    rcases Nat.lt_or_ge i m with hlt | hge
    · have := h2 i hlt; omega
    · have : i = m := by omega
      subst this; omega
theorem sumTo_zero {d : Nat → Int} {m : Nat} : ∀ {k : Nat}, (∀ i, m ≤ i → i < m + k → d i = 0) → sumTo d (m + k) = sumTo d m
  | 0, _ => rfl
  | k + 1, h => by
    rw [show m + (k + 1) = m + k + 1 by omega]
    simp only [sumTo]
    rw [sumTo_zero (k := k) fun i h1 h2 => h i h1 (by omega), h (m + k) (by omega) (by omega)]
    omega
/-- A row of drops of c pigments with the total T. -/
def GoodRow (c : Nat) (T : Int) (L : List Sc) (k : Nat) : Prop := ∃ x : Nat → Int, (∀ j, j < 6 → L[6 * k + j]? = some (.cons (.i 3) (.i (x j)))) ∧ (∀ j, j < 6 → 0 ≤ x j) ∧ (∀ j, c ≤ j → j < 6 → x j = 0) ∧ sumTo x 6 = T
structure Good (c : Nat) (T : Int) (L : List Sc) (n : Int) : Prop where
  n0 : 0 ≤ n
  len : L.length = 6 * n.toNat
  row : ∀ k, k < n.toNat → GoodRow c T L k
theorem Good.nil {c : Nat} {T : Int} : Good c T [] 0 := ⟨Int.le_refl _, rfl, fun k hk => absurd hk (by simp)⟩
theorem Good.snoc {c : Nat} {T n : Int} {L : List Sc} (h : Good c T L n) {x : Nat → Int} (h1 : ∀ j, j < 6 → 0 ≤ x j) (h2 : ∀ j, c ≤ j → j < 6 → x j = 0) (h3 : sumTo x 6 = T) : Good c T (L ++ (List.range 6).map fun j => Sc.cons (.i 3) (.i (x j))) (n + 1) := by
  have hn := h.n0
  have e : (n + 1).toNat = n.toNat + 1 := by omega
  refine ⟨by omega, by rw [List.length_append, h.len, e]; simp; omega, fun k hk => ?_⟩
  rw [e] at hk
  rcases Nat.lt_or_ge k n.toNat with hlt | hge
  · obtain ⟨y, g1, g2⟩ := h.row k hlt
    refine ⟨y, fun j hj => ?_, g2⟩
    rw [List.getElem?_append_left (by rw [h.len]; omega)]
    exact g1 j hj
  · have hk' : k = n.toNat := by omega
    subst hk'
    refine ⟨x, fun j hj => ?_, h1, h2, h3⟩
    rw [List.getElem?_append_right (by rw [h.len]; omega), h.len, Nat.add_sub_cancel_left]
    simp [List.getElem?_range hj]
section
variable {E : Env}
/-- What is known of the model's values of level l. -/
structure InvR (c : Nat) (T : Int) (l : Nat) (v : List Sc) : Prop where
  ok : OkV l v
  vals : ∃ (n t : Int) (d : Nat → Int), v.getD 0 .nil = .i n ∧ (v.getD 1 .nil).toI = t ∧ (∀ i, i < l → v.getD (2 + i) .nil = .i (d i) ∧ 0 ≤ d i) ∧ sumTo d l + t = T
  good : Good c T (v.getD (4 + l) .nil).list (v.getD (3 + l) .nil).toI
def Keep (E : Env) (c l : Nat) : Prop := ∀ T v z, Rounds (SS c l) E v z → InvR c T l v → InvR c T l z
theorem inV_vals {c l : Nat} {T : Int} {v : List Sc} (h : InvR c T l v) (hn : (v.getD 0 .nil).toI ≤ (v.getD 1 .nil).toI) : InvR c T (l + 1) (inV E l v) := by
  obtain ⟨k1, k2, k3, k4, k5⟩ := inV_ok (E := E) h.ok hn
  obtain ⟨n, t, d, e0, e1, ed, es⟩ := h.vals
  obtain ⟨f1, f2, f3, f4, f5, f6⟩ := frame_get (e := envV (B l) E v) (l := l + 1) (a := .il 0) (b := subA l) (f := fun i => match Nat.beq i (l + 1) with | true => .il 0 | false => dsW l (nV l) i) (x := lenV l) (y := rowV l)
  have hn0 := h.ok.n0
  have hn1 := h.ok.n1
  have ht0 := h.ok.t0
  have ht1 := h.ok.t1
  rw [e0] at hn0 hn1 hn
  rw [e1] at ht0 ht1 hn
  simp only [Sc.toI_i] at hn0 hn1 hn
  refine ⟨k1, ⟨0, t - n, fun i => if i < l then d i else n, ?_, ?_, fun i hi => ?_, ?_⟩, by rw [k4, k5]; exact h.good⟩
  · exact f2
  · refine Eq.trans (congrArg Sc.toI f3) ?_
    show IntKind.i64.wrap (((xV l 1).den (envV (B l) E v)).toI - ((xV l 0).den (envV (B l) E v)).toI) = _
    rw [env_at, env_at, e0, e1]
    simp only [Sc.toI_i]
    rw [wi _ (by omega) (by omega)]
  · have hb : Nat.beq i (l + 1) = false := by
      cases hb : Nat.beq i (l + 1) with
      | false => rfl
      | true => exact absurd (Nat.eq_of_beq_eq_true hb) (by omega)
    have e := f4 i (by omega)
    simp only [hb] at e
    rw [show (inV E l v).getD (2 + i) Sc.nil = _ from e]
    unfold dsW
    cases hb2 : Nat.beq i l with
    | true =>
      have := Nat.eq_of_beq_eq_true hb2
      subst this
      simp only [Nat.lt_irrefl, if_false]
      refine ⟨?_, hn0⟩
      show (xV i 0).den _ = _
      rw [env_at, e0]
    | false =>
      have hne : i ≠ l := fun e => by subst e; simp at hb2
      have hlt : i < l := by omega
      simp only [if_pos hlt]
      refine ⟨?_, (ed i hlt).2⟩
      show (xV l (2 + i)).den _ = _
      rw [env_at, (ed i hlt).1]
  · show sumTo (fun i => if i < l then d i else n) l + (if l < l then d l else n) + (t - n) = T
    rw [if_neg (Nat.lt_irrefl l), sumTo_congr (e := d) fun i hi => by simp only [if_pos hi]]
    omega
theorem next_keep {c l : Nat} {T : Int} {v : List Sc} (hc : c ≤ 6) (hlc : l + 2 ≤ c) (hin : l + 2 ≠ c → LoopLaw (SS c (l + 1)) E ∧ Keep E c (l + 1)) (h : InvR c T l v) (hcd : ((condS c l).den (envV (B l) E v)).toB = true) :
    InvR c T l ((nextA (NS c (l + 1)) c l (dV l l)).map (Tm.den (envV (B l) E v))) := by
  rw [condS_den, Bool.and_eq_true] at hcd
  have hn := of_decide_eq_true hcd.1
  have hlen : l + 2 = c → (v.getD (3 + l) .nil).toI < 500 := fun hl => by
    have h2 := hcd.2
    unfold okA at h2
    rw [show Nat.beq (l + 2) c = true by simp [hl]] at h2
    have h3 : ((xV l (3 + l)).den (envV (B l) E v)).toI < 500 := of_decide_eq_true h2
    rwa [env_at] at h3
  obtain ⟨oS, n1, n2⟩ := next_ok (S' := SS c (l + 1)) (c := c) (dl := dV l l) (fun hne => ⟨(hin hne).1, rfl, rfl, rfl, by simp [SS, LoopSpec.width, plA]⟩) rfl rfl h.ok hn (fun hl => Int.le_of_lt (hlen hl)) (.inr rfl)
  obtain ⟨n, t, d, e0, e1, ed, es⟩ := h.vals
  obtain ⟨g1, g2, g3, g4, g5, g6⟩ := frame_get (e := envV (B l) E v) (l := l) (a := .op (.addi .i64) (nV l) (.il 1)) (b := tV l) (f := dsW l (dV l l)) (x := lenN (NS c (l + 1)) c l) (y := rowN (NS c (l + 1)) c l)
  have hn0 := h.ok.n0
  have hn1 := h.ok.n1
  have ht0 := h.ok.t0
  have ht1 := h.ok.t1
  rw [e0] at hn0 hn1 hn
  rw [e1] at ht0 ht1 hn
  simp only [Sc.toI_i] at hn0 hn1 hn
  refine ⟨oS, ⟨n + 1, t, d, ?_, ?_, fun i hi => ?_, es⟩, ?_⟩
  · refine Eq.trans g2 ?_
    show Sc.i (IntKind.i64.wrap (((xV l 0).den (envV (B l) E v)).toI + 1)) = _
    rw [env_at, e0]
    simp only [Sc.toI_i]
    rw [wi _ (by omega) (by omega)]
  · refine Eq.trans (congrArg Sc.toI g3) ?_
    show ((xV l 1).den _).toI = _
    rw [env_at, e1]
  · refine ⟨Eq.trans (g4 i (by omega)) ?_, (ed i hi).2⟩
    unfold dsW
    have hb2 : Nat.beq i l = false := by
      cases hb : Nat.beq i l with
      | false => rfl
      | true => exact absurd (Nat.eq_of_beq_eq_true hb) (by omega)
    rw [hb2]
    show (xV l (2 + i)).den _ = _
    rw [env_at, (ed i hi).1]
  · rw [show ((nextA (NS c (l + 1)) c l (dV l l)).map (Tm.den (envV (B l) E v))).getD (4 + l) Sc.nil = _ from g6, show ((nextA (NS c (l + 1)) c l (dV l l)).map (Tm.den (envV (B l) E v))).getD (3 + l) Sc.nil = _ from g5]
    unfold lenN rowN
    cases hb : Nat.beq (l + 2) c with
    | true =>
      have hl : l + 2 = c := by simpa using hb
      have h5 := hlen hl
      have hg := h.good
      have hg0 := hg.n0
      simp only
      have el : ((Tm.op (.addi .i64) (lenV l) (.il 1)).den (envV (B l) E v)).toI = (v.getD (3 + l) .nil).toI + 1 := by
        show IntKind.i64.wrap (((xV l (3 + l)).den (envV (B l) E v)).toI + 1) = _
        rw [env_at, wi _ (by omega) (by omega)]
      let x : Nat → Int := fun i => if i < l then d i else if i = l then n else if i = l + 1 then t - n else 0
      have er : (rowA l).den (envV (B l) E v) = Sc.ofList ((List.range 6).map fun j => Sc.cons (.i 3) (.i (x j))) := by
        unfold rowA
        rw [consT_den, List.map_map]
        congr 1
        apply List.map_congr_left
        intro i _
        show Sc.cons (Sc.i 3) ((rowD l i).den (envV (B l) E v)) = _
        congr 1
        unfold rowD
        simp only [x]
        cases h1 : Nat.blt i l with
        | true =>
          have hi : i < l := by simpa [Nat.blt_eq] using h1
          rw [if_pos hi]
          show (xV l (2 + i)).den _ = _
          rw [env_at, (ed i hi).1]
        | false =>
          have hi : ¬ i < l := fun h => by rw [show Nat.blt i l = true by simpa [Nat.blt_eq] using h] at h1; cases h1
          rw [if_neg hi]
          cases h2 : Nat.beq i l with
          | true =>
            rw [if_pos (Nat.eq_of_beq_eq_true h2)]
            show (xV l 0).den _ = _
            rw [env_at, e0]
          | false =>
            rw [if_neg (fun e => by subst e; simp at h2)]
            cases h3 : Nat.beq i (l + 1) with
            | true =>
              rw [if_pos (Nat.eq_of_beq_eq_true h3)]
              show Sc.i (IntKind.i64.wrap (((xV l 1).den (envV (B l) E v)).toI - ((xV l 0).den (envV (B l) E v)).toI)) = _
              rw [env_at, env_at, e0, e1]
              simp only [Sc.toI_i]
              rw [wi _ (by omega) (by omega)]
            | false =>
              rw [if_neg (fun e => by subst e; simp at h3)]
              rfl
      have es2 : ((Tm.op .snoc (rowV l) (rowA l)).den (envV (B l) E v)).list = (v.getD (4 + l) .nil).list ++ (List.range 6).map fun j => Sc.cons (.i 3) (.i (x j)) := by
        show (Sc.ofList (((xV l (4 + l)).den (envV (B l) E v)).list ++ ((rowA l).den (envV (B l) E v)).list)).list = _
        rw [ofList_list, env_at, er, ofList_list]
      rw [es2, el]
      refine hg.snoc (fun j hj => ?_) (fun j h1 h2 => ?_) ?_
      · simp only [x]
        split
        · rename_i hi; exact (ed j hi).2
        · split
          · exact hn0
          · split
            · omega
            · exact Int.le_refl _
      · simp only [x]
        rw [if_neg (by omega), if_neg (by omega), if_neg (by omega)]
      · obtain ⟨k, hk⟩ : ∃ k, 6 = (l + 2) + k := ⟨6 - (l + 2), by omega⟩
        rw [hk, sumTo_zero fun i h1 h2 => by simp only [x]; rw [if_neg (by omega), if_neg (by omega), if_neg (by omega)]]
        show sumTo x l + x l + x (l + 1) = T
        rw [sumTo_congr (e := d) fun i hi => by simp only [x, if_pos hi]]
        simp only [x]
        simp only [Nat.lt_irrefl, if_false, if_true, show ¬ l + 1 < l from by omega, show ¬ l + 1 = l from by omega]
        omega
    | false =>
      have hne : l + 2 ≠ c := fun e => by subst e; simp at hb
      obtain ⟨q1, q2⟩ := hin hne
      have hi := inV_vals (E := E) h (by rw [e0, e1]; exact hn)
      have lS := (q1 (inV E l v) (by rw [hi.ok.len]; simp [SS, LoopSpec.width, plA]) ((inv_ok hi.ok.len).2 hi.ok)).1
      have hz := q2 T _ _ lS hi
      simp only
      rw [show (Tm.nth (4 + l) (inA (NS c (l + 1)) l)).den (envV (B l) E v) = _ from in_at (S := SS c (l + 1)) rfl rfl (by omega), show (Tm.nth (5 + l) (inA (NS c (l + 1)) l)).den (envV (B l) E v) = _ from in_at (S := SS c (l + 1)) rfl rfl (by omega)]
      have := hz.good
      rwa [show 4 + (l + 1) = 5 + l by omega, show 3 + (l + 1) = 4 + l by omega] at this
theorem keep_of {c l : Nat} (hc : c ≤ 6) (hlc : l + 2 ≤ c) (hin : l + 2 ≠ c → LoopLaw (SS c (l + 1)) E ∧ Keep E c (l + 1)) : Keep E c l := by
  intro T v z hr
  induction hr with
  | stop _ _ => exact fun h => h
  | more _ h2 _ ih => exact fun h => ih (next_keep hc hlc hin h h2)
/-- THE ROWS OF THE MODEL'S LIST ARE DROPS WITH THE TOTAL. -/
theorem keep {c : Nat} (hc : c ≤ 6) (hlaw : ∀ l, l + 2 ≤ c → LoopLaw (SS c l) E) : ∀ r l, c = r + l + 2 → Keep E c l
  | 0, l, h => keep_of hc (by omega) fun hne => absurd h (by omega)
  | r + 1, l, h => keep_of hc (by omega) fun _ => ⟨hlaw (l + 1) (by omega), keep hc hlaw r (l + 1) (by omega)⟩
end
end Go.Sx.All
