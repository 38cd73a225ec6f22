/- The symbolic executor is sound, fifth part: regions whose order is open, the proof. No condition. -/
import Derived.Test.YtfaamogbkekjcaaSxDraw
set_option linter.unusedVariables false
set_option linter.unusedSimpArgs false
noncomputable section
namespace Go.Sx
open Go Go.RowKit

def lookD (ops : List Oper) (as : List Nat) (tm : List SV) (done : List DR) (i : Nat) : Nat → Option SV :=
  fun j => match dstOf ops j with | some d => (match Nat.testBit ((nth? as i).getD 0) j with | true => some (evD ops as tm done i (.tmp d)) | false => none) | none => none
def mD (as : List Nat) (m : Mm) (done : List DR) (i : Nat) : Mm := ⟨memD ((nth? as i).getD 0) done 0 m.mem, m.nxt + i * m.sz, m.nxt + i * m.sz + m.sz, m.sz / 65536⟩

section
variable {P : Program} {E : Env} {H : Hnd}

/-- What the symbolic run of operation i of such a region has shown. -/
structure OpDone (P : Program) (E : Env) (H : Hnd) (ops : List Oper) (as : List Nat) (own : Mem) (m : Mm) (tm : List SV) (done : List DR) (i : Nat) (o : Oper) (d : DR) : Prop where
  dst : d.dst = o.dst
  how : ∃ pc' b, PcOk E pc' ∧ GuardIs E (lookD ops as tm done i) o.guard b ∧
    ((b = true ∧ ∃ r, (opD H P own (mD as m done i) pc' (evD ops as tm done i) o.op).sel E = some r ∧ d.v = r.1.v ∧ d.nb = r.1.nb ∧ d.use = r.2) ∨ (b = false ∧ d.v = undefS ∧ d.nb = [] ∧ d.use = none))

theorem drawOps_sel (hH : HndPc E H) {ops : List Oper} {as : List Nat} {own : Mem} {m : Mm} {tm : List SV} : ∀ (rest : List Oper) (done : List DR) {pc : PC} {res : List DR × PC}, PcOk E pc →
    (drawOps H P ops as own m tm rest done.length done pc).sel E = some res →
    PcOk E res.2 ∧ ∃ full, res.1 = done ++ full ∧ full.length = rest.length ∧ ∀ (k : Nat) (o : Oper), rest[k]? = some o → ∃ d, full[k]? = some d ∧ OpDone P E H ops as own m tm (done ++ full.take k) (done.length + k) o d
  | [], done, pc, res, hp, h => by
    simp only [drawOps, Out.sel, Option.some.injEq] at h
    subst h
    exact ⟨hp, [], by simp, rfl, fun k o h => by simp at h⟩
  | o :: rest, done, pc, res, hp, h => by
    simp only [drawOps, drawOne, fList_eq] at h
    obtain ⟨x, hx, h⟩ := Out.sel_bind_some h
    obtain ⟨pc', b, hp', hg, hc⟩ := guarded_sel hp hx
    have hd : OpDone P E H ops as own m tm done done.length o x.1 ∧ PcOk E x.2 := by
      rcases hc with ⟨rfl, hc⟩ | ⟨rfl, hc⟩
      · obtain ⟨r, hr, hc⟩ := Out.sel_bind_some hc
        simp only [Out.sel, Option.some.injEq] at hc
        subst hc
        exact ⟨⟨rfl, pc', true, hp', hg, .inl ⟨rfl, r, hr, rfl, rfl, rfl⟩⟩, opD_pc hH hp' r hr⟩
      · simp only [Out.sel, Option.some.injEq] at hc
        subst hc
        exact ⟨⟨rfl, pc', false, hp', hg, .inr ⟨rfl, rfl, rfl, rfl⟩⟩, hp'⟩
    have h' : (drawOps H P ops as own m tm rest (done ++ [x.1]).length (done ++ [x.1]) x.2).sel E = some res := by simpa using h
    obtain ⟨h1, full, h2, h3, h4⟩ := drawOps_sel hH rest (done ++ [x.1]) hd.2 h'
    refine ⟨h1, x.1 :: full, by simp [h2], by simp [h3], fun k o' hk => ?_⟩
    cases k with
    | zero =>
      simp at hk
      subst hk
      exact ⟨x.1, by simp, by simpa using hd.1⟩
    | succ k =>
      obtain ⟨d, h5, h6⟩ := h4 k o' (by simpa using hk)
      refine ⟨d, by simpa using h5, ?_⟩
      have e1 : (done ++ [x.1]) ++ full.take k = done ++ (x.1 :: full).take (k + 1) := by simp
      have e2 : (done ++ [x.1]).length + k = done.length + (k + 1) := by simp; omega
      rw [e1, e2] at h6
      exact h6

theorem memD_mem {a : Nat} : ∀ {done : List DR} {i : Nat} {mem : Mem} {x : Nat × SB}, x ∈ memD a done i mem → x ∈ mem ∨ ∃ (j : Nat) (d : DR), done[j]? = some d ∧ a.testBit (i + j) = true ∧ x ∈ d.nb
  | [], i, mem, x, h => .inl h
  | d :: r, i, mem, x, h => by
    simp only [memD] at h
    split at h
    · rename_i hb
      rcases memD_mem h with h | ⟨j, d', h1, h2, h3⟩
      · rcases List.mem_append.1 h with h | h
        · exact .inr ⟨0, d, by simp, by simpa using hb, h⟩
        · exact .inl h
      · exact .inr ⟨j + 1, d', by simpa using h1, by rw [← h2]; congr 1; omega, h3⟩
    · rcases memD_mem h with h | ⟨j, d', h1, h2, h3⟩
      · exact .inl h
      · exact .inr ⟨j + 1, d', by simpa using h1, by rw [← h2]; congr 1; omega, h3⟩

theorem dropB_keep {j : Nat} : ∀ {mem : Mem} {x : Nat × SB}, x ∈ mem → x.1 ≠ j → x ∈ dropB mem j
  | [], _, h, _ => by cases h
  | (i, y) :: r, x, h, hne => by
    simp only [dropB]
    rcases List.mem_cons.1 h with rfl | h
    · split
      · rename_i hb; exact absurd (Nat.eq_of_beq_eq_true hb) hne
      · exact List.mem_cons_self ..
    · split
      · exact dropB_keep h hne
      · exact List.mem_cons_of_mem _ (dropB_keep h hne)
theorem memN_iff : ∀ {K : List Nat} {j : Nat}, memN K j = true ↔ j ∈ K
  | [], j => by simp [memN]
  | k :: r, j => by
    simp only [memN, List.mem_cons]
    split
    · rename_i h; have := Nat.eq_of_beq_eq_true h; simp [this]
    · rename_i h
      rw [memN_iff]
      constructor
      · exact .inr
      · rintro (rfl | h2)
        · rw [Nat.beq_refl] at h; cases h
        · exact h2
theorem dropK_mem {K : List Nat} : ∀ {mem : Mem} {x : Nat × SB}, x ∈ dropK K mem → x ∈ mem ∧ x.1 ∉ K
  | [], _, h => by cases h
  | (i, y) :: r, x, h => by
    simp only [dropK] at h
    split at h
    · have := dropK_mem h; exact ⟨List.mem_cons_of_mem _ this.1, this.2⟩
    · rename_i hn
      rcases List.mem_cons.1 h with rfl | h
      · exact ⟨List.mem_cons_self .., fun hk => by rw [memN_iff.2 hk] at hn; cases hn⟩
      · have := dropK_mem h; exact ⟨List.mem_cons_of_mem _ this.1, this.2⟩
/-- What is taken over: among K, old, each once; what is made: new. -/
structure UsesOk (K : List Nat) (nxt : Nat) (full : List DR) : Prop where
  inK : ∀ (i : Nat) (d : DR) (j : Nat), full[i]? = some d → d.use = some j → j ∈ K ∧ j < nxt
  once : ∀ (i i' : Nat) (d d' : DR) (j : Nat), full[i]? = some d → full[i']? = some d' → d.use = some j → d'.use = some j → i = i'
  new : ∀ (i : Nat) (d : DR) (x : Nat × SB), full[i]? = some d → x ∈ d.nb → nxt ≤ x.1
theorem nbsOk_ok {nxt : Nat} : ∀ {mem : Mem}, nbsOk nxt mem = true → ∀ x, x ∈ mem → nxt ≤ x.1
  | [], _, x, h => by cases h
  | y :: r, h, x, hx => by
    simp only [nbsOk] at h
    split at h
    · rename_i hy
      rcases List.mem_cons.1 hx with rfl | hx
      · exact Nat.le_of_ble_eq_true hy
      · exact nbsOk_ok h x hx
    · cases h
theorem usesOk_ok {K : List Nat} {nxt : Nat} : ∀ {full : List DR} {seen : List Nat}, usesOk K nxt full seen = true → UsesOk K nxt full ∧ ∀ (i : Nat) (d : DR) (j : Nat), full[i]? = some d → d.use = some j → j ∉ seen
  | [], seen, _ => ⟨⟨fun i d j h => by simp at h, fun i i' d d' j h => by simp at h, fun i d x h => by simp at h⟩, fun i d j h => by simp at h⟩
  | x :: r, seen, h => by
    simp only [usesOk] at h
    split at h
    · cases h
    · rename_i hn
      have hnew : ∀ (g : ∀ (i : Nat) (d : DR) (y : Nat × SB), r[i]? = some d → y ∈ d.nb → nxt ≤ y.1) (i : Nat) (d : DR) (y : Nat × SB), (x :: r)[i]? = some d → y ∈ d.nb → nxt ≤ y.1 := by
        intro g i d y hi hy
        cases i with
        | zero => simp at hi; subst hi; exact nbsOk_ok hn y hy
        | succ i => exact g i d y (by simpa using hi) hy
      split at h
      · rename_i hx
        obtain ⟨⟨g1, g2, g4⟩, g3⟩ := usesOk_ok h
        refine ⟨⟨fun i d j hi hu => ?_, fun i i' d d' j hi hi' hu hu' => ?_, hnew g4⟩, fun i d j hi hu => ?_⟩
        · cases i with
          | zero => simp at hi; subst hi; rw [hx] at hu; cases hu
          | succ i => exact g1 i d j (by simpa using hi) hu
        · cases i with
          | zero => simp at hi; subst hi; rw [hx] at hu; cases hu
          | succ i => cases i' with
            | zero => simp at hi'; subst hi'; rw [hx] at hu'; cases hu'
            | succ i' => rw [g2 i i' d d' j (by simpa using hi) (by simpa using hi') hu hu']
        · cases i with
          | zero => simp at hi; subst hi; rw [hx] at hu; cases hu
          | succ i => exact g3 i d j (by simpa using hi) hu
      · rename_i j0 hx
        split at h
        · rename_i hK hs hlt
          obtain ⟨⟨g1, g2, g4⟩, g3⟩ := usesOk_ok h
          have hj0 : j0 ∉ seen := fun hm => by rw [memN_iff.2 hm] at hs; cases hs
          refine ⟨⟨fun i d j hi hu => ?_, fun i i' d d' j hi hi' hu hu' => ?_, hnew g4⟩, fun i d j hi hu => ?_⟩
          · cases i with
            | zero => simp at hi; subst hi; rw [hx] at hu; cases hu; exact ⟨memN_iff.1 hK, by simpa [Nat.blt_eq] using hlt⟩
            | succ i => exact g1 i d j (by simpa using hi) hu
          · cases i with
            | zero =>
              simp at hi; subst hi
              rw [hx] at hu; cases hu
              cases i' with
              | zero => rfl
              | succ i' => exact absurd (List.mem_cons_self ..) (g3 i' d' j0 (by simpa using hi') hu')
            | succ i => cases i' with
              | zero =>
                simp at hi'; subst hi'
                rw [hx] at hu'; cases hu'
                exact absurd (List.mem_cons_self ..) (g3 i d j0 (by simpa using hi) hu)
              | succ i' => rw [g2 i i' d d' j (by simpa using hi) (by simpa using hi') hu hu']
          · cases i with
            | zero => simp at hi; subst hi; rw [hx] at hu; cases hu; exact hj0
            | succ i => exact fun hm => g3 i d j (by simpa using hi) hu (List.mem_cons_of_mem _ hm)
        · cases h
theorem memAll_mem : ∀ {done : List DR} {mem : Mem} {x : Nat × SB}, x ∈ memAll mem done → x ∈ mem ∨ ∃ (j : Nat) (d : DR), done[j]? = some d ∧ x ∈ d.nb
  | [], mem, x, h => .inl h
  | d :: r, mem, x, h => by
    simp only [memAll] at h
    rcases memAll_mem h with h | ⟨j, d', h1, h2⟩
    · rcases List.mem_append.1 h with h | h
      · exact .inr ⟨0, d, by simp, h⟩
      · exact .inl h
    · exact .inr ⟨j + 1, d', by simpa using h1, h2⟩

/-- What holds while the operations of such a region are done, in whatever order: those in 'd'. -/
structure Mid (E : Env) (β0 β : Pl) (w0 : World) (σ : St) (L : List Oper) (full : List DR) (d : Array Bool) (a : Act) (w : World) : Prop where
  tm : a.tmps.size = σ.tm.length ∧ ∀ (t : Nat) (v : Value), a.tmps[t]? = some v → ((∃ j dr, writer L t 0 = some j ∧ Done d j ∧ full[j]? = some dr ∧ SV.rep E β dr.v v) ∨ ((∀ j, writer L t 0 = some j → ¬ Done d j) ∧ SV.rep E β (σ.tm.getD t .un) v))
  df : a.defers = []
  own : ∃ mem, Owns E β w0.heap.size mem w ∧ (∀ x, x ∈ σ.own → (∀ j dr, Done d j → full[j]? = some dr → dr.use ≠ some x.1) → x ∈ mem) ∧ ∀ j dr, Done d j → full[j]? = some dr → ∀ x, x ∈ dr.nb → x ∈ mem
  fresh : ∀ i, i < full.length → ¬ Done d i → Fresh β (σ.nxt + i * σ.sz) (σ.nxt + i * σ.sz + σ.sz)
  rest : Fresh β (σ.nxt + full.length * σ.sz) σ.lim
  below : Below w0.heap.size w0 w
  ro : Reads E β σ.ro w0
  ext : Ext β0 β σ.nxt (σ.nxt + full.length * σ.sz)

variable {β0 β : Pl} {w0 w : World} {σ : St} {a : Act} {ops : Array Oper} {full : List DR} {d : Array Bool}

theorem Mid.slot (h : Mid E β0 β w0 σ ops.toList full d a w) {t : Nat} {s : SV} (hw : ∀ j, writer ops.toList t 0 = some j → ¬ Done d j) (hs : σ.tm[t]? = some s) : ∃ v, a.tmps[t]? = some v ∧ SV.rep E β s v := by
  have hlt : t < a.tmps.size := by have := (List.getElem?_eq_some_iff.1 hs).1; rw [h.tm.1]; exact this
  refine ⟨a.tmps[t], Array.getElem?_eq_getElem hlt, ?_⟩
  rcases h.tm.2 t _ (Array.getElem?_eq_getElem hlt) with ⟨j, dr, h1, h2, _⟩ | ⟨_, h2⟩
  · exact absurd h2 (hw j h1)
  · rw [List.getD_eq_getElem?_getD, hs] at h2; exact h2

theorem Mid.eval (h : Mid E β0 β w0 σ ops.toList full d a w) (he : edgesOk ops.toList 0 = true) (hc : Closed (ancs ops.toList []) d) {i : Nat} (hi : i < full.length) (hnd : ¬ Done d i)
    (ha : ∀ q, (anc (ancs ops.toList []) i).testBit q = true → Done d q) (x : Operand) : SV.rep E β (evD ops.toList (ancs ops.toList []) σ.tm (full.take i) i x) (a.eval x) := by
  cases x with
  | tmp t =>
    simp only [evD]
    split
    · simp [SV.rep]
    · rename_i s hs
      rw [nth?_get] at hs
      have hlt : t < a.tmps.size := by have := (List.getElem?_eq_some_iff.1 hs).1; rw [h.tm.1]; exact this
      have e : a.eval (.tmp t) = a.tmps[t] := by simp [Act.eval, Array.getD_eq_getD_getElem?, hlt]
      have base : (∀ j, writer ops.toList t 0 = some j → ¬ Done d j) → SV.rep E β s (a.eval (.tmp t)) := by
        intro hw
        obtain ⟨v, hv, hr⟩ := h.slot hw hs
        rw [Array.getElem?_eq_getElem hlt] at hv
        cases hv
        rw [e]; exact hr
      split
      · rename_i hw; exact base (fun j hj => by rw [hw] at hj; cases hj)
      · rename_i j hw
        split
        · rename_i hb
          have hdj : Done d j := ha j hb
          have hji : j < i := anc_lt he i hb
          split
          · rename_i dr hdr
            rw [nth?_get, List.getElem?_take, if_pos hji] at hdr
            rw [e]
            rcases h.tm.2 t _ (Array.getElem?_eq_getElem hlt) with ⟨j', dr', h1, _, h3, h4⟩ | ⟨h1, _⟩
            · rw [hw] at h1; cases h1
              rw [hdr] at h3; cases h3
              exact h4
            · exact absurd hdj (h1 j hw)
          · simp [SV.rep]
        · split
          · rename_i hb
            refine base (fun j' hj' => ?_)
            rw [hw] at hj'; cases hj'
            rw [Bool.or_eq_true] at hb
            rcases hb with hb | hb
            · exact fun hdn => hnd (hc _ hdn i hb)
            · rw [← Nat.eq_of_beq_eq_true hb]; exact hnd
          · simp [SV.rep]
  | const v => exact ofVal_rep v
  | global g => simp [evD, SV.rep]
  | func f => simp [evD, Act.eval, SV.rep]
/-- One operation of such a region: whatever has been done before it, it does what was shown of it. -/
theorem Mid.step (hH : HndOk P E H) (hN : Named P) (he : edgesOk ops.toList 0 = true) (hnd : noDup ops.toList = true) {m : Mm} {KK : List Nat} (hm : m = ⟨dropK KK σ.own ++ σ.ro, σ.nxt, σ.lim, σ.sz⟩) (huse : UsesOk KK σ.nxt full) (hlim : σ.nxt + full.length * σ.sz ≤ σ.lim)
    (hfull : ∀ (k : Nat) (o : Oper), k < full.length → ops[k]? = some o → ∃ dr, full[k]? = some dr ∧ OpDone P E H ops.toList (ancs ops.toList []) σ.own m σ.tm (full.take k) k o dr)
    (hd : d.size = ops.size) (h : Mid E β0 β w0 σ ops.toList full d a w) (hc : Closed (ancs ops.toList []) d) {i : Nat} (hi : i < full.length) (hr : i ∈ Region.ready .any ops d)
    (K : Act → World → Prop) (Q : Exit → Act → World → Prop) (hK : ∀ β' a' w', Mid E β0 β' w0 σ ops.toList full (d.setIfInBounds i true) a' w' → K a' w') : wpOp P ops Q i K a w := by
  obtain ⟨o, ho, hndi, hall⟩ := (ready_iff hd).1 hr
  have hanc := fun q => ready_anc (q := q) hd he hc hr
  obtain ⟨dr, hdr, hdst, pc', b, hp', hg, hcase⟩ := hfull i o hi ho
  have hid : i < d.size := by rw [hd]; exact (Array.getElem?_eq_some_iff.1 ho).1
  have hev := h.eval he hc hi hndi hanc
  have hw := guard_wanted (a := a) (β := β) (ops := ops) hg (fun j s hj hne => by
    unfold lookD at hj
    rw [dstOf_get] at hj
    cases hdj : (ops[j]?).bind (·.dst) with
    | none => rw [hdj] at hj; cases hj
    | some t =>
      rw [hdj] at hj
      simp only at hj
      split at hj
      · rename_i hb
        cases hj
        rcases Nat.lt_or_ge t a.tmps.size with hts | hts
        · refine ⟨t, a.tmps[t], rfl, Array.getElem?_eq_getElem hts, ?_⟩
          have := hev (.tmp t)
          have e : a.eval (.tmp t) = a.tmps[t] := by simp [Act.eval, Array.getD_eq_getD_getElem?, hts]
          rw [e] at this; exact this
        · have hnone : nth? σ.tm t = none := by
            rw [nth?_get]
            have := h.tm.1
            exact List.getElem?_eq_none (by omega)
          simp only [evD, hnone] at hne
          exact absurd rfl hne
      · cases hj)
  have hown := h.own
  obtain ⟨mem, hmem, hsub, hnb⟩ := hown
  have hsz := h.below.size
  -- behind the operation
  have go0 : ∀ (v : Value) (w' : World) (β' : Pl) (sv : SV), dr.v = sv → SV.rep E β' sv v → Pl.le β β' → (∀ q, q < σ.nxt + i * σ.sz ∨ σ.nxt + i * σ.sz + σ.sz ≤ q → β' q = β q) →
      (∃ mem', Owns E β' w0.heap.size mem' w' ∧ (∀ x, x ∈ σ.own → (∀ j dr, Done (d.setIfInBounds i true) j → full[j]? = some dr → dr.use ≠ some x.1) → x ∈ mem') ∧ ∀ j dr, Done (d.setIfInBounds i true) j → full[j]? = some dr → ∀ x, x ∈ dr.nb → x ∈ mem') →
      Below w0.heap.size w0 w' → K (a.put o.dst v) w' := by
    intro v w' β' sv e1 hv hmono hdom hownx hbel
    refine hK β' _ _ ⟨⟨?_, fun t u hu => ?_⟩, (put_defers a _ _).trans h.df, hownx, fun q hq hnq => ?_, ?_, hbel, h.ro.below hmono (Below.refl _ _), ?_⟩
    · have := h.tm.1
      cases hod : o.dst <;> simp [Act.put, this]
    · -- the slots
      by_cases hdt : o.dst = some t
      · have hwr := writer_at hnd (by simpa using ho) hdt
        refine .inl ⟨i, dr, hwr, (done_set hid).2 (.inl rfl), hdr, ?_⟩
        rw [hdt] at hu
        simp only [Act.put, Array.getElem?_setIfInBounds, if_true] at hu
        split at hu
        · cases hu; rw [e1]; exact hv
        · cases hu
      · have hu' : a.tmps[t]? = some u := by
          cases hod : o.dst with
          | none => rw [hod] at hu; exact hu
          | some t' =>
            rw [hod] at hu
            simp only [Act.put, Array.getElem?_setIfInBounds] at hu
            rw [if_neg (fun e => hdt (by rw [hod, e]))] at hu
            exact hu
        rcases h.tm.2 t u hu' with ⟨j, dj, h1, h2, h3, h4⟩ | ⟨h1, h2⟩
        · exact .inl ⟨j, dj, h1, (done_set hid).2 (.inr h2), h3, SV.rep_mono hmono _ _ h4⟩
        · refine .inr ⟨fun j hj hdj => ?_, SV.rep_mono hmono _ _ h2⟩
          rcases (done_set hid).1 hdj with rfl | hdj
          · obtain ⟨_, o', ho', hd'⟩ := writer_some hj
            have : o' = o := by
              rw [Nat.sub_zero, Array.getElem?_toList, ho] at ho'
              exact (Option.some.inj ho').symm
            subst this
            exact hdt hd'
          · exact h1 j hj hdj
    · have hqi : q ≠ i := fun e => hnq ((done_set hid).2 (.inl e))
      have hnq' : ¬ Done d q := fun e => hnq ((done_set hid).2 (.inr e))
      have hf := h.fresh q hq hnq'
      intro j hj1 hj2
      rw [hdom j ?_]
      · exact hf j hj1 hj2
      · rcases Nat.lt_or_gt_of_ne hqi with hlt | hlt
        · left
          have : (q + 1) * σ.sz ≤ i * σ.sz := Nat.mul_le_mul_right _ hlt
          rw [Nat.succ_mul] at this
          omega
        · right
          have : (i + 1) * σ.sz ≤ q * σ.sz := Nat.mul_le_mul_right _ hlt
          rw [Nat.succ_mul] at this
          omega
    · intro j hj1 hj2
      have : (i + 1) * σ.sz ≤ full.length * σ.sz := Nat.mul_le_mul_right _ hi
      rw [Nat.succ_mul] at this
      rw [hdom j (.inr (by omega))]
      exact h.rest j hj1 hj2
    · have h1 : (i + 1) * σ.sz ≤ full.length * σ.sz := Nat.mul_le_mul_right _ hi
      rw [Nat.succ_mul] at h1
      exact ⟨Pl.le_trans h.ext.mono hmono, fun j hj => by rw [hdom j (by omega), h.ext.dom j hj], h.ext.le⟩
  have go : ∀ (v : Value) (w' : World) (β' : Pl) (n' : Nat) (nb : Mem) (sv : SV), dr.v = sv → dr.nb = nb → dr.use = none → SV.rep E β' sv v → Step E β β' w w' (σ.nxt + i * σ.sz) n' nb → n' ≤ σ.nxt + i * σ.sz + σ.sz → K (a.put o.dst v) w' := by
    intro v w' β' n' nb sv e1 e2 e3 hv hst hn'
    refine go0 v w' β' sv e1 hv hst.mono (fun q hq => hst.dom q (by omega)) ⟨nb ++ mem, hmem.step hst hsz, fun x hx hnu => List.mem_append.2 (.inr (hsub x hx fun j dj hdj hfj => hnu j dj ((done_set hid).2 (.inr hdj)) hfj)), fun j dj hdj hfj x hx => ?_⟩ (h.below.trans (hst.below.mono hsz))
    rcases (done_set hid).1 hdj with rfl | hdj
    · rw [hdr] at hfj; cases hfj
      rw [e2] at hx
      exact List.mem_append.2 (.inl hx)
    · exact List.mem_append.2 (.inr (hnb j dj hdj hfj x hx))
  have hreads : Reads E β (mD (ancs ops.toList []) m (full.take i) i).mem w := by
    intro j sb hj
    rcases memD_mem hj with hj | ⟨q, dq, h1, h2, h3⟩
    · rw [hm] at hj
      rcases List.mem_append.1 hj with hj | hj
      · obtain ⟨hj1, hj2⟩ := dropK_mem hj
        exact hmem.reads j sb (hsub _ hj1 fun q dq _ hfq hu => hj2 (huse.inK q dq _ hfq hu).1)
      · exact (h.ro.below (Pl.le_refl _) h.below) j sb hj
    · rw [Nat.zero_add] at h2
      have hqi : q < i := anc_lt he i h2
      rw [List.getElem?_take, if_pos hqi] at h1
      exact hmem.reads j sb (hnb q dq (hanc q h2) h1 _ h3)
  have hfr : Fresh β (mD (ancs ops.toList []) m (full.take i) i).nxt (mD (ancs ops.toList []) m (full.take i) i).lim := by
    rw [hm]; exact h.fresh i hi hndi
  unfold wpOp
  simp only [ho, hw]
  rcases hcase with ⟨rfl, r, hr', e1, e2, e3⟩ | ⟨rfl, e1, e2, e3⟩
  · simp only [if_true]
    left
    unfold opD at hr'
    split at hr'
    · rename_i s x t hap
      split at hr'
      · rename_i hno
        obtain ⟨r', hr2, hr3⟩ := Out.sel_bind_some hr'
        simp only [Out.sel, Option.some.injEq] at hr3
        subst hr3
        obtain ⟨_, h2, h3⟩ := appE_wp (o := o) hev hap hno hreads hfr hp' hr2
        refine h3 K Q fun v w' β' hv hst => ?_
        rw [hm] at hst h2
        exact go v w' β' r'.nxt r'.nb r'.v e1 e2 e3 hv hst h2
      · obtain ⟨j, sb, u1, u2, u3, u4, u5, u6⟩ := appD_ok hev hap h.df hreads hmem h.below hfr hp' hr'
        have hjm : (j, sb) ∈ mem := hsub _ (find_mem u2) fun q dq hdq hfq hu => by
          have := huse.once i q dr dq j hdr hfq (by rw [e3, u1]) hu
          subst this
          exact hndi hdq
        refine u6 hjm K Q fun v w' β' hv hmono hdom hown' hbel => ?_
        rw [hm] at hdom u5
        simp only [mD] at hdom u5
        refine go0 v w' β' r.1.v e1 hv hmono (fun q hq => hdom q (by omega)) ⟨r.1.nb ++ dropB mem j, hown', fun x hx hnu => ?_, fun q dq hdq hfq x hx => ?_⟩ hbel
        · have hxj : x.1 ≠ j := fun e => hnu i dr ((done_set hid).2 (.inl rfl)) hdr (by rw [e3, u1, e])
          have hxm := hsub x hx fun q dq hdq hfq => hnu q dq ((done_set hid).2 (.inr hdq)) hfq
          exact List.mem_append.2 (.inr (dropB_keep hxm hxj))
        · rcases (done_set hid).1 hdq with rfl | hdq
          · rw [hdr] at hfq; cases hfq
            rw [e2] at hx
            exact List.mem_append.2 (.inl hx)
          · have hxm := hnb q dq hdq hfq x hx
            refine List.mem_append.2 (.inr (dropB_keep hxm fun e => ?_))
            have h1 := huse.new q dq x hfq hx
            have h2 := (huse.inK i dr j hdr (by rw [e3, u1])).2
            omega
    · obtain ⟨r', hr2, hr3⟩ := Out.sel_bind_some hr'
      simp only [Out.sel, Option.some.injEq] at hr3
      subst hr3
      obtain ⟨_, h2, h3⟩ := opP_wp (o := o) hH hN hev hreads hfr (by simp [mD]) hp' hr2
      refine h3 K Q fun v w' β' hv hst => ?_
      rw [hm] at hst h2
      exact go v w' β' r'.nxt r'.nb r'.v e1 e2 e3 hv hst h2
  · simp only [Bool.false_eq_true, if_false]
    exact go undef w β _ [] undefS e1 e2 e3 undef_rep (Step.refl _) (Nat.le_add_right _ _)
end
end Go.Sx
