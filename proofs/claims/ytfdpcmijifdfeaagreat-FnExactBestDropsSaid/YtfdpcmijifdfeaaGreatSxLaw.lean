/- Arguments with slices in them: nil, of each length up to N, or longer; and the law's call, one tree for each way. No condition. -/
import Derived.Test.YtfdpcmijifdfeaaGreatSxSum
import Derived.ChangeArms
set_option linter.unusedVariables false
set_option linter.unusedSimpArgs false
noncomputable section
namespace Go.Sx
open Go Go.RowKit Go.ChangeShapes

/-- What lies in a cell: a plain value, or a slice of rows of plain values. -/
inductive CK where
  | k (k : SK) | row (ks : List SK)

def plains : List CK → Option (List SK)
  | [] => some []
  | .k k :: r => match plains r with
    | some l => some (k :: l)
    | none => none
  | .row _ :: _ => none
def timesC (l : List CK) : Nat → List CK
  | 0 => []
  | m + 1 => l ++ timesC l m
def cksF (r : TypeId → Option (List CK)) (P : Program) : List Field → Nat → Option (List CK)
  | [], _ => some []
  | f :: fs, o => match r f.type with
    | some l => match Nat.beq f.offset o, Nat.beq (P.cellsOf f.type) l.length with
      | true, true => match cksF r P fs (o + l.length) with
        | some q => some (l ++ q)
        | none => none
      | _, _ => none
    | none => none
/-- The cells of a type. -/
def cks (P : Program) : Nat → TypeId → Option (List CK)
  | 0, _ => none
  | d + 1, t => match P.underlying t with
    | some (.struct fs) => match cksF (cks P d) P fs.toList 0 with
      | some l => match Nat.beq (P.cellsOf t) l.length with
        | true => some l
        | false => none
      | none => none
    | some (.array n e) => match cks P d e with
      | some l => match Nat.beq (P.cellsOf e) l.length, Nat.beq (P.cellsOf t) (n * l.length) with
        | true, true => some (timesC l n)
        | _, _ => none
      | none => none
    | some (.slice e) => match cks P d e with
      | some l => match plains l, Nat.beq (P.cellsOf e) l.length with
        | some ks, true => some [.row ks]
        | _, _ => none
      | none => none
    | _ => match skOf P t with
      | some k => some [.k k]
      | none => none

def Plain (k : SK) (v : Value) : Prop := k.rep (scOf v) v ∧ (∀ s, v = .string s → s.size ≤ maxLen) ∧ ∀ k n, v = .int k n → k.min ≤ n ∧ n ≤ k.max
def Plains (ks : List SK) (us : List Value) : Prop := ks.length = us.length ∧ ∀ (i : Nat) (k : SK) (u : Value), ks[i]? = some k → us[i]? = some u → Plain k u
def RowIs (w : World) (ks : List SK) (v : Value) : Prop :=
  v = .slice none 0 0 ∨ ∃ a len cap, v = .slice (some a) len cap ∧ len ≤ cap ∧ cap ≤ maxLen ∧ ∀ i, i < len → ∃ us, w.cells? 0 (a.add (i * ks.length)) ks.length = some us ∧ Plains ks us
def CkIs (w : World) : CK → Value → Prop
  | .k k, v => Plain k v
  | .row ks, v => RowIs w ks v
def CksIs (w : World) (l : List CK) (vs : List Value) : Prop := l.length = vs.length ∧ ∀ (i : Nat) (c : CK) (v : Value), l[i]? = some c → vs[i]? = some v → CkIs w c v

section
variable {H : Type} {enc : TypeId × Value → H} {P : Program} {w : World} {sp : Nat → Bool} {held : Bool}

theorem plains_is : ∀ {l : List CK} {ks : List SK} {us : List Value}, plains l = some ks → CksIs w l us → Plains ks us
  | [], ks, us, h, hc => by
    simp only [plains, Option.some.injEq] at h
    subst h
    exact ⟨hc.1, fun i k u hk => by simp at hk⟩
  | .k k :: r, ks, us, h, hc => by
    simp only [plains] at h
    split at h
    · rename_i l hl
      simp only [Option.some.injEq] at h
      subst h
      obtain ⟨hlen, hc⟩ := hc
      cases us with
      | nil => simp at hlen
      | cons u us =>
        obtain ⟨g1, g2⟩ := plains_is (us := us) hl ⟨by simpa using hlen, fun i c v h1 h2 => hc (i + 1) c v (by simpa using h1) (by simpa using h2)⟩
        refine ⟨by simp [g1], fun i kk uu hk hu => ?_⟩
        cases i with
        | zero =>
          simp only [List.getElem?_cons_zero, Option.some.injEq] at hk hu
          subst hk; subst hu
          exact hc 0 _ _ rfl rfl
        | succ i => exact g2 i kk uu (by simpa using hk) (by simpa using hu)
    · cases h
  | .row _ :: _, _, _, h, _ => by cases h

theorem CksIs.nil : CksIs w [] [] := ⟨rfl, fun i c v h => by simp at h⟩
theorem CksIs.append {a b : List CK} {x y : List Value} (h : CksIs w a x) (k : CksIs w b y) : CksIs w (a ++ b) (x ++ y) := by
  refine ⟨by simp [h.1, k.1], fun i c v h1 h2 => ?_⟩
  by_cases hi : i < a.length
  · rw [List.getElem?_append_left hi] at h1
    rw [List.getElem?_append_left (by rw [← h.1]; exact hi)] at h2
    exact h.2 i c v h1 h2
  · rw [List.getElem?_append_right (by omega)] at h1
    rw [List.getElem?_append_right (by rw [← h.1]; omega)] at h2
    rw [← h.1] at h2
    exact k.2 _ c v h1 h2

theorem plain_trod {t : TypeId} {k : SK} {fuel : Nat} {cs : List Value} {x : DataW H × List MemPlace} (hk : skOf P t = some k) (h : DataW.trod enc P w 0 sp held fuel t cs = some x) : ∃ v, cs = [v] ∧ Plain k v := by
  unfold skOf at hk
  split at hk
  all_goals (first | cases hk | skip)
  · rename_i hu
    obtain ⟨b, rfl, _⟩ := DataW.trod_bool hu h
    exact ⟨_, rfl, by simp [SK.rep, scOf], fun s hs => (by cases hs), fun k n hn => (by cases hn)⟩
  · rename_i k hu
    obtain ⟨n, rfl, _, hwf⟩ := DataW.trod_int hu h
    refine ⟨_, rfl, by simp [SK.rep, scOf], fun s hs => (by cases hs), fun k' n' hn => ?_⟩
    cases hn
    simp only [Lit.wf, Bool.and_eq_true, decide_eq_true_eq] at hwf
    exact hwf
  · rename_i k hu
    cases fuel with
    | zero => simp [DataW.trod] at h
    | succ n =>
      unfold DataW.trod at h
      rw [hu] at h
      split at h <;> simp_all
      refine ⟨⟨_, rfl, ?_⟩, ?_, ?_⟩
      · simp [scOf]
      · intro s hs; cases hs
      · intro k n hn; cases hn
  · rename_i hu
    obtain ⟨s, rfl, _, hs⟩ := DataW.trod_string hu h
    exact ⟨_, rfl, by simp [SK.rep, scOf], fun s' hs' => (by cases hs'; exact hs), fun k n hn => (by cases hn)⟩

theorem fields_is {r : TypeId → Option (List CK)} {n : Nat} {cs : List Value} (hr : ∀ t l cs x, r t = some l → DataW.trod enc P w 0 sp held n t cs = some x → CksIs w l cs) :
    ∀ {fs : List Field} {o : Nat} {l : List CK}, cksF r P fs o = some l →
      (∀ f, f ∈ fs → ∃ x, DataW.trod enc P w 0 sp held n f.type ((cs.drop f.offset).take (P.cellsOf f.type)) = some x) → CksIs w l ((cs.drop o).take l.length)
  | [], o, l, h, _ => by
    simp only [cksF, Option.some.injEq] at h
    subst h
    simpa using CksIs.nil
  | f :: fs, o, l, h, hx => by
    simp only [cksF] at h
    split at h
    · rename_i l1 h1
      split at h
      · rename_i hb1 hb2
        split at h
        · rename_i q hq
          simp only [Option.some.injEq] at h
          subst h
          have e1 := Nat.eq_of_beq_eq_true hb1
          have e2 := Nat.eq_of_beq_eq_true hb2
          obtain ⟨x, hx1⟩ := hx f (List.mem_cons_self ..)
          have g1 := hr _ _ _ _ h1 hx1
          have g2 := fields_is hr hq (fun f' hf' => hx f' (List.mem_cons_of_mem _ hf'))
          rw [e1, e2] at g1
          have := g1.append g2
          rw [List.length_append, List.take_add]
          rwa [List.drop_drop]
        · cases h
      · cases h
    · cases h

theorem array_is {n m : Nat} {e : TypeId} {l : List CK} {cs : List Value} (hr : ∀ cs x, DataW.trod enc P w 0 sp held n e cs = some x → CksIs w l cs) :
    ∀ {k o : Nat}, (∀ i, i < k → ∃ x, DataW.trod enc P w 0 sp held n e ((cs.drop (o + i * l.length)).take l.length) = some x) → CksIs w (timesC l k) ((cs.drop o).take (k * l.length))
  | 0, o, _ => by simpa [timesC] using CksIs.nil
  | k + 1, o, h => by
    obtain ⟨x, hx⟩ := h 0 (Nat.succ_pos k)
    rw [Nat.zero_mul, Nat.add_zero] at hx
    have g1 := hr _ _ hx
    have g2 := array_is (n := n) (m := m) (e := e) hr (k := k) (o := o + l.length) (fun i hi => by
      have := h (i + 1) (Nat.succ_lt_succ hi)
      rwa [show o + (i + 1) * l.length = o + l.length + i * l.length by rw [Nat.add_mul]; omega] at this)
    have := g1.append g2
    rw [show (k + 1) * l.length = l.length + k * l.length by rw [Nat.add_mul]; omega, List.take_add, List.drop_drop]
    exact this

theorem cks_is : ∀ (d : Nat) {t : TypeId} {l : List CK} {fuel : Nat} {cs : List Value} {x : DataW H × List MemPlace}, cks P d t = some l → DataW.trod enc P w 0 sp held fuel t cs = some x → CksIs w l cs
  | 0, _, _, _, _, _, h, _ => by cases h
  | d + 1, t, l, fuel, cs, x, h, hx => by
    unfold cks at h
    split at h
    · rename_i fs hu
      split at h
      · rename_i l' hl
        split at h
        · rename_i hb
          simp only [Option.some.injEq] at h
          subst h
          obtain ⟨xs, n, rfl, _, hlen, hxs, each⟩ := DataW.trod_struct hu hx
          have := fields_is (enc := enc) (sp := sp) (held := held) (w := w) (n := n) (cs := cs) (fun t l cs x h hx => cks_is d h hx) hl (fun f hf => by
            obtain ⟨i, hi⟩ := List.getElem?_of_mem hf
            have hi' : fs[i]? = some f := by simpa using hi
            have h1 := each i f hi'
            have h2 : i < xs.length := by
              have := (Array.getElem?_eq_some_iff.1 hi').1
              omega
            exact ⟨xs[i], by rw [h1]; exact List.getElem?_eq_getElem h2⟩)
          rw [← Nat.eq_of_beq_eq_true hb, ← hlen] at this
          simpa using this
        · cases h
      · cases h
    · rename_i n e hu
      split at h
      · rename_i l' hl
        split at h
        · rename_i hb1 hb2
          simp only [Option.some.injEq] at h
          subst h
          obtain ⟨xs, m, rfl, _, hlen, hxs, each⟩ := DataW.trod_array hu hx
          have e1 := Nat.eq_of_beq_eq_true hb1
          have e2 := Nat.eq_of_beq_eq_true hb2
          have := array_is (enc := enc) (P := P) (sp := sp) (held := held) (w := w) (n := m) (m := 0) (e := e) (cs := cs) (l := l') (fun cs x hx => cks_is d hl hx) (k := n) (o := 0) (fun i hi => by
            have h1 := each i hi
            rw [e1] at h1
            exact ⟨xs[i]'(by omega), by rw [Nat.zero_add, h1]; exact List.getElem?_eq_getElem _⟩)
          rw [← e2, ← hlen] at this
          simpa using this
        · cases h
      · cases h
    · rename_i e hu
      split at h
      · rename_i l' hl
        split at h
        · rename_i ks hp hb
          simp only [Option.some.injEq] at h
          subst h
          have e1 := Nat.eq_of_beq_eq_true hb
          have e2 : ks.length = l'.length := by
            clear hx hb e1 hl
            induction l' generalizing ks with
            | nil => simp only [plains, Option.some.injEq] at hp; subst hp; rfl
            | cons c r ih =>
              cases c with
              | row _ => cases hp
              | k k =>
                simp only [plains] at hp
                split at hp
                · rename_i q hq
                  simp only [Option.some.injEq] at hp
                  subst hp
                  simp [ih _ hq]
                · cases hp
          have key : ∃ v, cs = [v] ∧ RowIs w ks v := by
            rcases DataW.trod_slice hu hx with ⟨rfl, _⟩ | ⟨a, len, cap, elems, rest, n, _, rfl, _, hb, hl2, hm, hlen, hel, _, _⟩
            · exact ⟨_, rfl, .inl rfl⟩
            · refine ⟨_, rfl, .inr ⟨a, len, cap, rfl, hl2, hm, fun i hi => ?_⟩⟩
              have := hel i hi
              rw [List.getElem?_eq_getElem (by omega), Option.bind_eq_some_iff] at this
              obtain ⟨us, h1, h2⟩ := this
              rw [e1, ← e2] at h1
              exact ⟨us, h1, plains_is hp (cks_is d hl h2)⟩
          obtain ⟨v, rfl, hv⟩ := key
          refine ⟨rfl, fun i c v' h1 h2 => ?_⟩
          cases i with
          | zero =>
            simp only [List.getElem?_cons_zero, Option.some.injEq] at h1 h2
            subst h1; subst h2
            exact hv
          | succ i => simp at h1
        · cases h
      · cases h
    · split at h
      · rename_i k hk
        simp only [Option.some.injEq] at h
        subst h
        obtain ⟨v, rfl, hv⟩ := plain_trod hk hx
        refine ⟨rfl, fun i c v' h1 h2 => ?_⟩
        cases i with
        | zero =>
          simp only [List.getElem?_cons_zero, Option.some.injEq] at h1 h2
          subst h1; subst h2
          exact hv
        | succ i => simp at h1
      · cases h
end

/-! Ways -/
def times (ks : List SK) : Nat → List SK
  | 0 => []
  | m + 1 => ks ++ times ks m
def strPc : List SK → Nat → PC
  | [], _ => []
  | .str :: r, n => (.op .lei (.op .lens (.var n) .nil) (.il 9223372036854775807), true) :: strPc r (n + 1)
  | _ :: r, n => strPc r (n + 1)
/-- The bounds of a whole number of a lesser kind. -/
def intPc : SK → Nat → PC
  | .int k, n => match Nat.beq (ki k) 3 with
    | true => []
    | false => [(.op .lei (.il (kmin k)) (.var n), true), (.op .lei (.var n) (.il (kmax k)), true)]
  | _, _ => []
structure Bld where
  svs : List SV
  n : Nat
  j : Nat
  mem : Mem
  pc : PC
/-- The symbolic cells, each slice in the way that is told: 0: nil; m + 1: of m rows; more than N + 1: of more than N. -/
def bld (N : Nat) : List CK → List Nat → Nat → Nat → Option Bld
  | [], _, n, j => some ⟨[], n, j, [], []⟩
  | .k k :: r, ws, n, j => match bld N r ws (n + 1) j with
    | some b => some ⟨.sc k (.var n) :: b.svs, b.n, b.j, b.mem, intPc k n ++ (strPc [k] n ++ b.pc)⟩
    | none => none
  | .row _ :: _, [], _, _ => none
  | .row _ :: r, 0 :: ws, n, j => match bld N r ws n j with
    | some b => some ⟨.nils :: b.svs, b.n, b.j, b.mem, b.pc⟩
    | none => none
  | .row ks :: r, (m + 1) :: ws, n, j => match Nat.ble m N with
    | true => match bld N r ws (n + (times ks m).length) (j + 1) with
      | some b => some ⟨.sl j 0 m :: b.svs, b.n, b.j, (j, ⟨sym (times ks m) n, none⟩) :: b.mem, strPc (times ks m) n ++ b.pc⟩
      | none => none
    | false => match bld N r ws (n + 2) (j + 1) with
      | some b => some ⟨.os j (.var n) (.var (n + 1)) :: b.svs, b.n, b.j, (j, ⟨[], none⟩) :: b.mem, (.op .lti (.il N) (.var n), true) :: (.op .lei (.var n) (.il 9223372036854775807), true) :: (rowsT ks (.var n) (.var (n + 1)), true) :: (.op .lei (.var n) (.il N), false) :: b.pc⟩
      | none => none

def wayOf (N : Nat) : Value → Nat
  | .slice (some _) len _ => if len ≤ N then len + 1 else N + 2
  | _ => 0
def waysOf (N : Nat) : List CK → List Value → List Nat
  | .row _ :: r, v :: vs => wayOf N v :: waysOf N r vs
  | .k _ :: r, _ :: vs => waysOf N r vs
  | _, _ => []
def rows : List CK → Nat
  | [] => 0
  | .row _ :: r => rows r + 1
  | .k _ :: r => rows r
theorem wayOf_le (N : Nat) (v : Value) : wayOf N v ≤ N + 2 := by
  unfold wayOf
  split
  · split <;> omega
  · omega
theorem waysOf_le {N : Nat} : ∀ (l : List CK) (vs : List Value) (x : Nat), x ∈ waysOf N l vs → x ≤ N + 2
  | [], vs, x, h => by simp [waysOf] at h
  | .k _ :: r, [], x, h => by simp [waysOf] at h
  | .row _ :: r, [], x, h => by simp [waysOf] at h
  | .k _ :: r, v :: vs, x, h => waysOf_le r vs x (by simpa [waysOf] using h)
  | .row _ :: r, v :: vs, x, h => by
    simp only [waysOf, List.mem_cons] at h
    rcases h with rfl | h
    · exact wayOf_le N v
    · exact waysOf_le r vs x h
theorem waysOf_length {N : Nat} : ∀ {l : List CK} {vs : List Value}, l.length = vs.length → (waysOf N l vs).length = rows l
  | [], vs, h => by simp [waysOf, rows]
  | .k _ :: r, [], h => by simp at h
  | .row _ :: r, [], h => by simp at h
  | .k _ :: r, v :: vs, h => by simpa [waysOf, rows] using waysOf_length (N := N) (l := r) (vs := vs) (by simpa using h)
  | .row _ :: r, v :: vs, h => by simpa [waysOf, rows] using waysOf_length (N := N) (l := r) (vs := vs) (by simpa using h)

def Spots (w : World) (vs : List Value) : Prop := ∀ v, v ∈ vs → ∀ a len cap, v = .slice (some a) len cap → a.spot = none ∧ a.block < w.heap.size

section
variable {P : Program} {w : World}

theorem Plains.append {a b : List SK} {x y : List Value} (h : Plains a x) (k : Plains b y) : Plains (a ++ b) (x ++ y) := by
  refine ⟨by simp [h.1, k.1], fun i c v h1 h2 => ?_⟩
  by_cases hi : i < a.length
  · rw [List.getElem?_append_left hi] at h1
    rw [List.getElem?_append_left (by rw [← h.1]; exact hi)] at h2
    exact h.2 i c v h1 h2
  · rw [List.getElem?_append_right (by omega)] at h1
    rw [List.getElem?_append_right (by rw [← h.1]; omega)] at h2
    rw [← h.1] at h2
    exact k.2 _ c v h1 h2

theorem plain_one {k : SK} {v : Value} (h : Plain k v) : v.oneCell' = true := by
  have := h.1
  cases k <;> simp only [SK.rep] at this
  · rw [this]; rfl
  · rw [this]; rfl
  · obtain ⟨x, hx, _⟩ := this; rw [hx]; rfl
  · rw [this]; rfl

/-- The rows, end to end. -/
theorem rows_flat {ks : List SK} {blk : Nat} : ∀ {m off : Nat}, (∀ i, i < m → ∃ us, w.cells? 0 ((⟨blk, off, none⟩ : Addr).add (i * ks.length)) ks.length = some us ∧ Plains ks us) →
    ∃ us : List Value, Plains (times ks m) us ∧ us.length = m * ks.length ∧ ∀ (q : Nat) (u : Value), us[q]? = some u → w.cell? ⟨blk, off + q, none⟩ = some u
  | 0, off, _ => ⟨[], ⟨rfl, fun i k u h => by simp [times] at h⟩, by simp, fun q u h => by simp at h⟩
  | m + 1, off, h => by
    obtain ⟨u0, h0, p0⟩ := h 0 (Nat.succ_pos m)
    obtain ⟨us, g1, g2, g3⟩ := rows_flat (ks := ks) (blk := blk) (m := m) (off := off + ks.length) (fun i hi => by
      obtain ⟨us, h1, h2⟩ := h (i + 1) (Nat.succ_lt_succ hi)
      refine ⟨us, ?_, h2⟩
      rw [Go.WideShapes.add_plain] at h1 ⊢
      rwa [show off + ks.length + i * ks.length = off + (i + 1) * ks.length by rw [Nat.add_mul]; omega])
    rw [Nat.zero_mul, Go.WideShapes.add_plain, Nat.add_zero] at h0
    obtain ⟨_, hl0, hc0⟩ := World.cells?_some h0
    refine ⟨u0 ++ us, p0.append g1, by simp [hl0, g2, Nat.add_mul]; omega, fun q u hq => ?_⟩
    by_cases hlt : q < ks.length
    · rw [List.getElem?_append_left (by omega)] at hq
      have := hc0 q hlt
      rw [Go.WideShapes.add_plain] at this
      rw [this, hq]
    · rw [List.getElem?_append_right (by omega)] at hq
      have := g3 _ u hq
      rwa [show off + ks.length + (q - u0.length) = off + q by omega] at this

theorem strPc_ok {E : Env} : ∀ {ks : List SK} {us : List Value} {n : Nat}, Plains ks us → (∀ (i : Nat) (u : Value), us[i]? = some u → E.v (n + i) = scOf u) → PcOk E (strPc ks n)
  | [], us, n, _, _ => fun p hp => by cases hp
  | k :: r, [], n, h, _ => by have := h.1; simp at this
  | k :: r, u :: us, n, h, hE => by
    have ih : PcOk E (strPc r (n + 1)) := strPc_ok (us := us) ⟨by simpa using h.1, fun i k' u' h1 h2 => h.2 (i + 1) k' u' (by simpa using h1) (by simpa using h2)⟩ fun i u' hu => by
      have := hE (i + 1) u' (by simpa using hu)
      rwa [show n + 1 + i = n + (i + 1) by omega]
    cases k with
    | bool => exact ih
    | int _ => exact ih
    | float _ => exact ih
    | str =>
      intro p hp
      rcases List.mem_cons.1 hp with rfl | hp
      · have h0 := h.2 0 .str u rfl rfl
        have h1 := h0.1
        simp only [SK.rep] at h1
        have h2 := h0.2.1 _ h1
        have h3 := hE 0 u rfl
        rw [Nat.add_zero] at h3
        show decide _ = true
        refine decide_eq_true ?_
        show ((Opc.den .lens (E.v n) _).toI ≤ _)
        rw [h3]
        simp only [Opc.den, Sc.toI_i, Tm.den]
        have : (scOf u).toS.length ≤ maxLen := by simpa [ByteArray.size] using h2
        unfold maxLen at this
        omega
      · exact ih p hp

theorem intPc_ok {E : Env} {k : SK} {v : Value} {n : Nat} (hv : Plain k v) (h0 : E.v n = scOf v) : PcOk E (intPc k n) := by
  intro p hp
  cases k with
  | int k' =>
    simp only [intPc] at hp
    split at hp
    · cases hp
    · have h1 := hv.1
      simp only [SK.rep] at h1
      obtain ⟨h2, h3⟩ := hv.2.2 _ _ h1
      rcases List.mem_cons.1 hp with rfl | hp
      · show decide _ = true
        refine decide_eq_true ?_
        show kmin k' ≤ (E.v n).toI
        rw [h0, kmin_eq]; exact h2
      · rcases List.mem_cons.1 hp with rfl | hp
        · show decide _ = true
          refine decide_eq_true ?_
          show (E.v n).toI ≤ kmax k'
          rw [h0, kmax_eq]; exact h3
        · cases hp
  | _ => simp [intPc] at hp

theorem times_get {ks : List SK} : ∀ {m i : Nat}, i < m * ks.length → (times ks m)[i]? = ks[i % ks.length]?
  | 0, i, h => by simp at h
  | m + 1, i, h => by
    rw [Nat.add_mul, Nat.one_mul] at h
    simp only [times]
    by_cases hi : i < ks.length
    · rw [List.getElem?_append_left hi, Nat.mod_eq_of_lt hi]
    · have e := times_get (ks := ks) (m := m) (i := i - ks.length) (by omega)
      rw [List.getElem?_append_right (by omega), e, ← Nat.mod_eq_sub_mod (by omega)]
theorem times_length (ks : List SK) : ∀ m : Nat, (times ks m).length = m * ks.length
  | 0 => by simp [times]
  | m + 1 => by simp only [times, List.length_append, times_length ks m, Nat.add_mul, Nat.one_mul]; omega

/-- What a list of cells gives: values for the variables, places for the blocks. -/
theorem bld_ok {N : Nat} : ∀ {l : List CK} {ws : List Nat} {vs : List Value} {n j : Nat} {b : Bld}, bld N l ws n j = some b → ws = waysOf N l vs → CksIs w l vs → Spots w vs →
    ∃ (scs : List Sc) (bss : List Bs), b.n = n + scs.length ∧ b.j = j + bss.length ∧ ∀ (E : Env) (β : Pl), (∀ c, E.fn 900 c = F900 c) → (∀ (i : Nat) (c : Sc), scs[i]? = some c → E.v (n + i) = c) → (∀ (i : Nat) (x : Bs), bss[i]? = some x → β (j + i) = some x) →
      SV.reps E β b.svs vs ∧ Reads E β b.mem w ∧ PcOk E b.pc
  | [], ws, vs, n, j, b, h, _, hc, _ => by
    simp only [bld, Option.some.injEq] at h
    subst h
    have : vs = [] := List.eq_nil_of_length_eq_zero hc.1.symm
    subst this
    exact ⟨[], [], rfl, rfl, fun E β _ _ _ => ⟨by simp, fun j sb h => (by cases h), fun p hp => (by cases hp)⟩⟩
  | c :: r, ws, [], n, j, b, h, _, hc, _ => by have := hc.1; simp at this
  | .k k :: r, ws, v :: vs, n, j, b, h, hw, hc, hs => by
    simp only [bld] at h
    split at h
    · rename_i b' hb
      simp only [Option.some.injEq] at h
      subst h
      obtain ⟨scs, bss, e1, e2, hall⟩ := bld_ok (vs := vs) hb (by simpa [waysOf] using hw) ⟨by simpa using hc.1, fun i c u h1 h2 => hc.2 (i + 1) c u (by simpa using h1) (by simpa using h2)⟩ (fun u hu => hs u (List.mem_cons_of_mem _ hu))
      have hv : Plain k v := hc.2 0 _ _ rfl rfl
      refine ⟨scOf v :: scs, bss, by simp [e1]; omega, e2, fun E β hF hE hβ => ?_⟩
      have h0 := hE 0 _ rfl
      rw [Nat.add_zero] at h0
      obtain ⟨g1, g2, g3⟩ := hall E β hF (fun i c hi => by rw [show n + 1 + i = n + (i + 1) by omega]; exact hE (i + 1) c (by simpa using hi)) hβ
      refine ⟨?_, g2, fun p hp => ?_⟩
      · simp only [reps_cons, SV.rep, Tm.den]
        exact ⟨by rw [h0]; exact hv.1, g1⟩
      · rcases List.mem_append.1 hp with hp | hp
        · exact intPc_ok hv h0 p hp
        rcases List.mem_append.1 hp with hp | hp
        · refine strPc_ok (E := E) (ks := [k]) (us := [v]) (n := n) ⟨rfl, fun i k' u h1 h2 => ?_⟩ (fun i u hi => ?_) p hp
          · cases i with
            | zero => simp at h1 h2; subst h1; subst h2; exact hv
            | succ i => simp at h1
          · cases i with
            | zero => simp at hi; subst hi; simpa using h0
            | succ i => simp at hi
        · exact g3 p hp
    · cases h
  | .row ks :: r, [], v :: vs, n, j, b, h, hw, hc, hs => by cases h
  | .row ks :: r, 0 :: ws, v :: vs, n, j, b, h, hw, hc, hs => by
    simp only [bld] at h
    split at h
    · rename_i b' hb
      simp only [Option.some.injEq] at h
      subst h
      simp only [waysOf, List.cons.injEq] at hw
      obtain ⟨scs, bss, e1, e2, hall⟩ := bld_ok (vs := vs) hb hw.2 ⟨by simpa using hc.1, fun i c u h1 h2 => hc.2 (i + 1) c u (by simpa using h1) (by simpa using h2)⟩ (fun u hu => hs u (List.mem_cons_of_mem _ hu))
      have hv : RowIs w ks v := hc.2 0 _ _ rfl rfl
      have hv0 : v = .slice none 0 0 := by
        rcases hv with hv | ⟨a, len, cap, rfl, _⟩
        · exact hv
        · have := hw.1
          simp only [wayOf] at this
          split at this <;> omega
      refine ⟨scs, bss, e1, e2, fun E β hF hE hβ => ?_⟩
      obtain ⟨g1, g2, g3⟩ := hall E β hF hE hβ
      refine ⟨?_, g2, g3⟩
      simp only [reps_cons, SV.rep]
      exact ⟨hv0, g1⟩
    · cases h
  | .row ks :: r, (m + 1) :: ws, v :: vs, n, j, b, h, hw, hc, hs => by
    simp only [waysOf, List.cons.injEq] at hw
    have hv : RowIs w ks v := hc.2 0 _ _ rfl rfl
    have hc' : CksIs w r vs := ⟨by simpa using hc.1, fun i c u h1 h2 => hc.2 (i + 1) c u (by simpa using h1) (by simpa using h2)⟩
    have hs' : Spots w vs := fun u hu => hs u (List.mem_cons_of_mem _ hu)
    obtain ⟨a, len, cap, rfl, hlc, hcm, hrow⟩ : ∃ a len cap, v = .slice (some a) len cap ∧ len ≤ cap ∧ cap ≤ maxLen ∧ ∀ i, i < len → ∃ us, w.cells? 0 (a.add (i * ks.length)) ks.length = some us ∧ Plains ks us := by
      rcases hv with rfl | hv
      · simp [wayOf] at hw
      · exact hv
    obtain ⟨hspot, hlt⟩ := hs _ (List.mem_cons_self ..) a len cap rfl
    obtain ⟨blk, off, spot⟩ := a
    simp only at hspot hlt
    subst hspot
    obtain ⟨us, p1, p2, p3⟩ := rows_flat hrow
    simp only [bld] at h
    split at h
    · rename_i hm
      have hm' := Nat.le_of_ble_eq_true hm
      have hlen : len = m := by
        have := hw.1
        simp only [wayOf] at this
        split at this <;> omega
      subst hlen
      split at h
      · rename_i b' hb
        simp only [Option.some.injEq] at h
        subst h
        obtain ⟨scs, bss, e1, e2, hall⟩ := bld_ok (vs := vs) hb hw.2 hc' hs'
        refine ⟨us.map scOf ++ scs, ⟨blk, off, cap, []⟩ :: bss, ?_, ?_, fun E β hF hE hβ => ?_⟩
        · simp only [e1, List.length_append, List.length_map, p1.1]; omega
        · simp only [e2, List.length_cons]; omega
        have hE1 : ∀ (i : Nat) (u : Value), us[i]? = some u → E.v (n + i) = scOf u := fun i u hi => hE i _ (by rw [List.getElem?_append_left (by simpa using (List.getElem?_eq_some_iff.1 hi).1), List.getElem?_map, hi]; rfl)
        have hβ0 := hβ 0 _ rfl
        rw [Nat.add_zero] at hβ0
        obtain ⟨g1, g2, g3⟩ := hall E β hF (fun i c hi => by
            rw [p1.1, show n + us.length + i = n + (us.length + i) by omega]
            exact hE _ c (by rw [List.getElem?_append_right (by simp), List.length_map, Nat.add_sub_cancel_left]; exact hi))
          (fun i x hi => by rw [show j + 1 + i = j + (i + 1) by omega]; exact hβ (i + 1) x (by simpa using hi))
        have hsym : SV.reps E β (sym (times ks len) n) us := sym_reps _ n us p1.1 fun i k u hk hu => by rw [hE1 i u hu]; exact (p1.2 i k u hk hu).1
        refine ⟨?_, fun j' sb hj => ?_, fun p hp => ?_⟩
        · simp only [reps_cons, SV.rep]
          exact ⟨⟨_, cap, hβ0, rfl, hlc⟩, g1⟩
        · rcases List.mem_cons.1 hj with hj | hj
          · cases hj
            refine ⟨_, hβ0, hlt, fun i s hi => ?_, .inl rfl, fun _ _ h => by cases h⟩
            obtain ⟨u, hu, hrep⟩ := reps_get hsym hi
            have hi' : i < (times ks len).length := by rw [p1.1]; exact (List.getElem?_eq_some_iff.1 hu).1
            exact ⟨u, p3 i u hu, plain_one (p1.2 i _ u (List.getElem?_eq_getElem hi') hu), hrep⟩
          · exact g2 j' sb hj
        · rcases List.mem_append.1 hp with hp | hp
          · exact strPc_ok p1 hE1 p hp
          · exact g3 p hp
      · cases h
    · rename_i hm
      have hm' : ¬ m ≤ N := fun hle => by rw [Nat.ble_eq_true_of_le hle] at hm; cases hm
      have hlen : N < len := by
        have := hw.1
        simp only [wayOf] at this
        split at this <;> omega
      split at h
      · rename_i b' hb
        simp only [Option.some.injEq] at h
        subst h
        obtain ⟨scs, bss, e1, e2, hall⟩ := bld_ok (vs := vs) hb hw.2 hc' hs'
        let val : List Sc := ((times ks len).zip us).map fun p => Sc.cons (.i p.1.n) (scOf p.2)
        refine ⟨.i len :: Sc.ofList val :: scs, ⟨blk, off, cap, val⟩ :: bss, ?_, ?_, fun E β hF hE hβ => ?_⟩
        · simp only [e1, List.length_cons]; omega
        · simp only [e2, List.length_cons]; omega
        have hE0 := hE 0 _ rfl
        have hE1 := hE 1 _ rfl
        rw [Nat.add_zero] at hE0
        have hβ0 := hβ 0 _ rfl
        rw [Nat.add_zero] at hβ0
        obtain ⟨g1, g2, g3⟩ := hall E β hF (fun i c hi => by rw [show n + 2 + i = n + (i + 2) by omega]; exact hE (i + 2) c (by simpa using hi))
          (fun i x hi => by rw [show j + 1 + i = j + (i + 1) by omega]; exact hβ (i + 1) x (by simpa using hi))
        refine ⟨?_, fun j' sb hj => ?_, fun p hp => ?_⟩
        · simp only [reps_cons, SV.rep, Tm.den]
          exact ⟨⟨_, len, cap, hβ0, rfl, hlc, by rw [hE0]; rfl, by rw [hE1, ofList_list]⟩, g1⟩
        · rcases List.mem_cons.1 hj with hj | hj
          · cases hj
            refine ⟨_, hβ0, hlt, fun i s hi => by simp at hi, .inr ⟨rfl, fun i x hi => ?_⟩, fun _ _ h => by cases h⟩
            simp only [val, List.getElem?_map, Option.map_eq_some_iff] at hi
            obtain ⟨⟨k, u⟩, h1, h2⟩ := hi
            rw [List.getElem?_zip_eq_some] at h1
            have hp := p1.2 i k u h1.1 h1.2
            exact ⟨u, p3 i u h1.2, plain_one hp, k, scOf u, h2.symm, hp.1⟩
          · exact g2 j' sb hj
        · rcases List.mem_cons.1 hp with rfl | hp
          · show decide _ = true
            refine decide_eq_true ?_
            show ((N : Int) < (E.v n).toI)
            rw [hE0]
            show ((N : Int) < (len : Int))
            omega
          · rcases List.mem_cons.1 hp with rfl | hp
            · show decide _ = true
              refine decide_eq_true ?_
              show ((E.v n).toI ≤ _)
              rw [hE0]
              show ((len : Int) ≤ 9223372036854775807)
              unfold maxLen at hcm
              omega
            · rcases List.mem_cons.1 hp with rfl | hp
              · simp only [rowsT, Tm.den, hF, F900, Sc.toB_b]
                refine @decide_eq_true _ (Classical.propDecidable _) ?_
                simp only [Sc.at_zero, Sc.at_succ]
                rw [ksT_den, hE0, hE1, ofList_list]
                unfold Rows9
                refine ⟨⟨?_, fun i x hi => ?_⟩, fun i c hi => ?_⟩
                · simp only [val, List.length_map, List.length_zip, ← p1.1, Nat.min_self, times_length, Sc.toI_i]
                  exact Int.natCast_mul ..
                · simp only [val, List.getElem?_map, Option.map_eq_some_iff] at hi
                  obtain ⟨⟨k, u⟩, h1, h2⟩ := hi
                  rw [List.getElem?_zip_eq_some] at h1
                  have hlt' := (List.getElem?_eq_some_iff.1 h1.1).1
                  rw [times_length] at hlt'
                  have hk := h1.1
                  rw [times_get hlt'] at hk
                  refine ⟨scOf u, ?_⟩
                  rw [← h2]
                  simp [List.getD, hk]
                · simp only [val, List.getElem?_map, Option.map_eq_some_iff] at hi
                  obtain ⟨⟨k, u⟩, h1, h2⟩ := hi
                  rw [List.getElem?_zip_eq_some] at h1
                  simp only [Sc.cons.injEq, Sc.i.injEq] at h2
                  have hk : k = .str := SK.n_inj (b := .str) (by have := h2.1; show k.n = 1; exact Int.ofNat.inj this)
                  subst hk
                  have hp := p1.2 i .str u h1.1 h1.2
                  have h3 := strPc_ok (E := ⟨fun _ => scOf u, fun _ _ => .nil⟩) (ks := [.str]) (us := [u]) (n := 0) ⟨rfl, fun i k' u' g1 g2 => by
                    cases i with
                    | zero => simp at g1 g2; subst g1; subst g2; exact hp
                    | succ i => simp at g1⟩ (fun i u' hu => by
                    cases i with
                    | zero => simp at hu; subst hu; rfl
                    | succ i => simp at hu) _ (List.mem_cons_self ..)
                  have h4 : (((scOf u).toS.length : Nat) : Int) ≤ 9223372036854775807 := of_decide_eq_true h3
                  rw [← h2.2]; exact h4
              · rcases List.mem_cons.1 hp with rfl | hp
                · show decide _ = false
                  refine decide_eq_false ?_
                  show ¬ ((E.v n).toI ≤ (N : Int))
                  rw [hE0]
                  show ¬ ((len : Int) ≤ (N : Int))
                  omega
                · exact g3 p hp
      · cases h
end

/-! The arguments of a law -/
def isAgg (P : Program) (t : TypeId) : Bool :=
  match P.underlying t with
  | some (.struct _) | some (.array _ _) => true
  | _ => false
def cksAll (P : Program) : List TypeId → Option (List CK × List (Bool × Nat))
  | [] => some ([], [])
  | t :: r => match cks P 9 t, cksAll P r with
    | some l, some (q, s) => some (l ++ q, (isAgg P t, l.length) :: s)
    | _, _ => none
def group : List (Bool × Nat) → List SV → List SV
  | [], _ => []
  | (true, m) :: r, ss => .agg (ss.take m) :: group r (ss.drop m)
  | (false, m) :: r, ss => ss.take m ++ group r (ss.drop m)

section
variable {H : Type} {enc : TypeId × Value → H} {P : Program} {w : World} {r : Reach} {base : Nat} {sp : Nat → Bool} {held : Bool}

theorem spot_cell {t : TypeId} {a : Addr} {len cap : Nat} (h : Cell.okWide P w r base t (.slice (some a) len cap)) : a.spot = none ∧ a.block < w.heap.size := by
  unfold Cell.okWide at h
  split at h
  all_goals (first | contradiction | skip)
  unfold Cell.ok at h
  split at h
  all_goals (first | contradiction | skip)
  all_goals rename_i hv
  all_goals (first | (cases hv; done) | skip)
  all_goals
    obtain ⟨_, _, _, hsp, row, cells, hsh, _⟩ := h
    cases hv
    refine ⟨hsp, ?_⟩
    unfold World.shape? at hsh
    split at hsh
    · rename_i hh; exact (Array.getElem?_eq_some_iff.1 hh).1
    · cases hsh

theorem arg_is {t : TypeId} {l : List CK} {v : Value} {fuel : Nat} {x : DataW H × List MemPlace} (hk : cks P 9 t = some l) (hv : Value.okWide P w r base t v) (hx : DataW.trod enc P w 0 sp held fuel t v.cells.toList = some x) :
    CksIs w l (flat [v]) ∧ Spots w (flat [v]) ∧ (isAgg P t = true → ∃ cs, v = .agg cs ∧ cs.size = l.length) ∧ (isAgg P t = false → flat [v] = [v] ∧ l.length = 1) := by
  have hc := cks_is (enc := enc) 9 hk hx
  unfold Value.okWide at hv
  have agg : ∀ cs, v = .agg cs → Row.okWide P w r base t cs → CksIs w l (flat [v]) ∧ Spots w (flat [v]) ∧ ∃ cs, v = .agg cs ∧ cs.size = l.length := by
    rintro cs rfl hrow
    have e : (Value.agg cs).cells.toList = flat [.agg cs] := by simp [flat, Value.cells]
    rw [e] at hc
    refine ⟨hc, fun u hu a len cap he => ?_, cs, rfl, ?_⟩
    · subst he
      obtain ⟨i, hi⟩ := List.getElem?_of_mem hu
      obtain ⟨ts, _, _, h3⟩ := hrow
      obtain ⟨u', _, hcell⟩ := h3 i (.slice (some a) len cap) (by simpa [flat] using hi)
      exact spot_cell hcell
    · have := hc.1
      simp [flat] at this
      exact this.symm
  unfold isAgg
  split at hv
  · rename_i fs hu
    obtain ⟨cs, hv, hs, hrow⟩ := hv
    obtain ⟨g1, g2, g3⟩ := agg cs hv hrow
    simp only [hu]
    exact ⟨g1, g2, fun _ => g3, fun h => by cases h⟩
  · rename_i n e hu
    obtain ⟨cs, hv, hs, hrow⟩ := hv
    obtain ⟨g1, g2, g3⟩ := agg cs hv hrow
    simp only [hu]
    exact ⟨g1, g2, fun _ => g3, fun h => by cases h⟩
  · rename_i h1 h2
    have hna : ∀ cs, v ≠ .agg cs := by
      rintro cs rfl
      unfold Cell.okWide at hv
      split at hv
      all_goals (first | contradiction | skip)
      unfold Cell.ok at hv
      split at hv
      all_goals (first | contradiction | skip)
    have hfl : flat [v] = [v] := by
      cases v <;> simp [flat]
      exact absurd rfl (hna _)
    have hce : v.cells.toList = [v] := by
      cases v <;> simp [Value.cells]
      exact absurd rfl (hna _)
    rw [hce] at hc
    rw [hfl]
    refine ⟨hc, fun u hu a len cap he => ?_, fun hagg => ?_, fun _ => ⟨rfl, by simpa using hc.1⟩⟩
    · simp only [List.mem_singleton] at hu
      subst hu
      subst he
      exact spot_cell hv
    · split at hagg
      · rename_i fs hu; exact absurd hu (h1 fs)
      · rename_i n e hu; exact absurd hu (h2 n e)
      · cases hagg

theorem args_is : ∀ {ts : List TypeId} {vs : List Value} {ds : List (DataW H)} {ps : List MemPlace} {l : List CK} {s : List (Bool × Nat)}, cksAll P ts = some (l, s) →
    (∀ (i : Nat) (t : TypeId) (v : Value), ts[i]? = some t → vs[i]? = some v → Value.okWide P w r base t v) → DataW.TrodAll enc P w 0 sp held ts vs ds ps →
    CksIs w l (flat vs) ∧ Spots w (flat vs) ∧ ∀ {E : Env} {β : Pl} {ss : List SV}, SV.reps E β ss (flat vs) → SV.reps E β (group s ss) vs
  | [], vs, ds, ps, l, s, h, hv, hA => by
    obtain ⟨rfl, _, _⟩ := trodAll_nil hA
    simp only [cksAll, Option.some.injEq, Prod.mk.injEq] at h
    obtain ⟨rfl, rfl⟩ := h
    exact ⟨CksIs.nil, fun v hv => by simp [flat] at hv, fun _ => by simp [group]⟩
  | t :: ts, vs, ds, ps, l, s, h, hv, hA => by
    obtain ⟨v, vs', d, ds', p, q, rfl, rfl, rfl, h0, hA'⟩ := trodAll_cons hA
    simp only [cksAll] at h
    split at h
    · rename_i l0 q0 s0 hk hr
      simp only [Option.some.injEq, Prod.mk.injEq] at h
      obtain ⟨rfl, rfl⟩ := h
      obtain ⟨fuel, hx⟩ := h0
      obtain ⟨g1, g2, g3, g4⟩ := arg_is hk (hv 0 t v rfl rfl) hx
      obtain ⟨k1, k2, k3⟩ := args_is hr (fun i t' v' ht hv' => hv (i + 1) t' v' (by simpa using ht) (by simpa using hv')) hA'
      rw [flat_cons]
      refine ⟨g1.append k1, fun u hu => ?_, fun {E β ss} hss => ?_⟩
      · rcases List.mem_append.1 hu with hu | hu
        · exact g2 u hu
        · exact k2 u hu
      · have e1 := g1.1
        have ht := reps_take hss l0.length
        have hd := reps_drop hss l0.length
        rw [e1] at ht hd
        rw [List.take_left' rfl] at ht
        rw [List.drop_left' rfl] at hd
        rw [← e1] at ht hd
        cases hagg : isAgg P t with
        | true =>
          obtain ⟨cs, rfl, hcs⟩ := g3 hagg
          simp only [group, reps_cons, SV.rep]
          refine ⟨⟨cs, rfl, ?_⟩, k3 hd⟩
          simpa [flat] using ht
        | false =>
          obtain ⟨hf, _⟩ := g4 hagg
          rw [hf] at ht
          simp only [group]
          have := reps_append ht (k3 hd)
          simpa using this
    · cases h

/-- The law's tree, its slices in the ways told; some terms have names of their own, from variable B on. -/
def treeD (P : Program) (ctx : Ctx) (n f N : Nat) (ts : List TypeId) (ws : List Nat) (B : Nat) (D : List Tm) : Bool :=
  match cksAll P ts with
  | some (l, s) => match bld N l ws 0 0 with
    | some b => match Nat.ble b.n B, defsOk B D, Nat.ble b.j 1000 with
      | true, true, true => allTrue (call ctx P n f (group s b.svs) ⟨b.mem, b.j, 2 ^ 256, 2 ^ 200⟩ (b.pc ++ defsPc B D))
      | _, _, _ => false
    | none => false
  | none => false
def tree (P : Program) (ctx : Ctx) (n f N : Nat) (ts : List TypeId) (ws : List Nat) : Bool := treeD P ctx n f N ts ws 100000 []

/-- A LAW OF ANY SUCH ARGUMENTS: IF EACH WAY'S TREE IS TRUE AT EACH LEAF, THEN THE LAW RETURNS TRUE AND TOUCHES NOTHING. -/
theorem law_holdsS {ctx : Ctx} {F : Nat → Sc → Sc} {n f N B : Nat} {D : List Tm} {ts : List TypeId} {args : Array Value} {ds : List (DataW H)} {ps : List MemPlace} {q : Nat}
    (hC : ∀ E : Env, E.fn = F → CtxOk P E ctx ∧ CtxPc E ctx) (hN : P.funcs.toList.all (fun fn => !(fn.name == "runtime.NumGoroutine")) = true)
    (hmix : P.follows .mixedOrders = true) (hF : ∀ c, F 900 c = F900 c) (hs : (cksAll P ts).map (fun x => rows x.1) = some q) (hk : ∀ ws : List Nat, ws.length = q → (∀ x, x ∈ ws → x ≤ N + 2) → treeD P ctx n f N ts ws B D = true)
    (hv : ∀ (j : Nat) t v, ts.toArray[j]? = some t → args[j]? = some v → Value.okWide P w r base t v) (hA : DataW.TrodAll enc P w 0 sp held ts args.toList ds ps) :
    Calls P f args w fun e w' => e = .returned (.bool true) ∧ Below w.heap.size w w' := by
  obtain ⟨⟨l, s⟩, hls, hq⟩ := Option.map_eq_some_iff.1 hs
  simp only at hq
  subst hq
  obtain ⟨k1, k2, k3⟩ := args_is (r := r) (base := base) hls (fun i t v ht hv' => hv i t v (by simpa using ht) (by simpa using hv')) hA
  have hk' := hk (waysOf N l (flat args.toList)) (waysOf_length k1.1) (waysOf_le _ _)
  unfold treeD at hk'
  rw [hls] at hk'
  simp only at hk'
  split at hk'
  · rename_i b hb
    split at hk'
    · rename_i hB hD hj
      obtain ⟨scs, bss, e1, e2, hall⟩ := bld_ok hb rfl k1 k2
      rw [Nat.zero_add] at e1 e2
      have hB' := Nat.le_of_ble_eq_true hB
      have hj' := Nat.le_of_ble_eq_true hj
      let E := extD ⟨fun i => scs[i]?.getD .nil, F⟩ B D
      let β : Pl := fun i => bss[i]?
      obtain ⟨g1, g2, g3⟩ := hall E β (fun c => by rw [show E.fn = F from extD_fn D]; exact hF c) (fun i c hi => by
          have hlt := (List.getElem?_eq_some_iff.1 hi).1
          simp only [E]
          rw [Nat.zero_add, extD_old D (by omega)]
          simp [hi]) (fun i x hi => by rw [Nat.zero_add]; exact hi)
      have hfn : E.fn = F := extD_fn D
      have hpc0 : PcOk E (b.pc ++ defsPc B D) := fun p hp => by
        rcases List.mem_append.1 hp with hp | hp
        · exact g3 p hp
        · exact extD_pc D hD p hp
      have hctx := hC E hfn
      have hfr : Fresh β b.j (2 ^ 256) := fun i hi _ => by
        simp only [β]
        exact List.getElem?_eq_none (by omega)
      have hjl : b.j ≤ 2 ^ 256 := Nat.le_trans hj' (by decide)
      obtain ⟨res, t, h1, h2, h3⟩ := allTrue_ok (pc := []) hk' (call_pc (P := P) hctx.2 n f (group s b.svs) ⟨b.mem, b.j, 2 ^ 256, 2 ^ 200⟩ _ hpc0)
      obtain ⟨_, _, _, hcalls⟩ := call_ok hctx.1 hctx.2 (named_of hN) hmix n f (group s b.svs) ⟨b.mem, b.j, 2 ^ 256, 2 ^ 200⟩ _ res h1 β w args.toList (k3 g1) g2 hfr hjl hpc0
      have e : args.toList.toArray = args := by simp
      rw [e] at hcalls
      refine hcalls.mono fun e w' ⟨v, β', he, hv', hst⟩ => ?_
      rw [h2] at hv'
      have hbb := bool_rep (t := t) (E := E) hv'
      rw [h3] at hbb
      subst hbb
      exact ⟨he, hst.below⟩
    · cases hk'
  · cases hk'
end
end Go.Sx
