/- The symbolic executor is sound, fourth part: regions whose order is open. No condition. -/
import Derived.Test.YtfdpcmijifdfeaaGreatSxPc
set_option linter.unusedVariables false
set_option linter.unusedSimpArgs false
noncomputable section
namespace Go.Sx
open Go Go.RowKit

/-! Which operations come before which -/
def anc (as : List Nat) (i : Nat) : Nat := (nth? as i).getD 0

theorem ancOf_bit {as : List Nat} : ∀ {es : List Edge} {j : Nat}, (ancOf as es).testBit j = true → ∃ e, e ∈ es ∧ bindsAny e = true ∧ (e.on = j ∨ (anc as e.on).testBit j = true)
  | [], j, h => by simp [ancOf] at h
  | e :: r, j, h => by
    simp only [ancOf] at h
    split at h
    · rename_i hb
      rw [Nat.testBit_or, Nat.testBit_or, Bool.or_eq_true, Bool.or_eq_true] at h
      rcases h with (h | h) | h
      · obtain ⟨e', h1, h2⟩ := ancOf_bit h; exact ⟨e', List.mem_cons_of_mem _ h1, h2⟩
      · rw [Nat.testBit_two_pow] at h
        exact ⟨e, List.mem_cons_self .., hb, .inl (by simpa using h)⟩
      · exact ⟨e, List.mem_cons_self .., hb, .inr h⟩
    · obtain ⟨e', h1, h2⟩ := ancOf_bit h; exact ⟨e', List.mem_cons_of_mem _ h1, h2⟩

theorem ancs_pre : ∀ (l : List Oper) (acc : List Nat), ∃ x, ancs l acc = acc ++ x ∧ x.length = l.length
  | [], acc => ⟨[], by simp [ancs], rfl⟩
  | o :: r, acc => by
    obtain ⟨x, h1, h2⟩ := ancs_pre r (acc ++ [ancOf acc o.after.toList])
    exact ⟨ancOf acc o.after.toList :: x, by simp [ancs, h1], by simp [h2]⟩
theorem ancs_get : ∀ (l : List Oper) (acc : List Nat) (i : Nat) (o : Oper), l[i]? = some o → ∃ p, (ancs l acc)[acc.length + i]? = some (ancOf p o.after.toList) ∧ p = (ancs l acc).take (acc.length + i)
  | [], acc, i, o, h => by simp at h
  | o' :: r, acc, 0, o, h => by
    simp at h
    subst h
    obtain ⟨x, h1, _⟩ := ancs_pre r (acc ++ [ancOf acc o'.after.toList])
    refine ⟨acc, ?_, ?_⟩
    · simp [ancs, h1]
    · simp [ancs, h1]
  | o' :: r, acc, i + 1, o, h => by
    obtain ⟨p, h1, h2⟩ := ancs_get r (acc ++ [ancOf acc o'.after.toList]) i o (by simpa using h)
    refine ⟨p, ?_, ?_⟩
    · simpa [ancs, Nat.add_assoc, Nat.add_comm 1 i] using h1
    · simpa [ancs, Nat.add_assoc, Nat.add_comm 1 i] using h2

/-- The order, in words: what must come before i is a direct edge's end or must come before one. -/
theorem anc_bit {l : List Oper} {i j : Nat} {o : Oper} (he : edgesOk l 0 = true) (ho : l[i]? = some o) (h : (anc (ancs l []) i).testBit j = true) :
    ∃ e, e ∈ o.after.toList ∧ bindsAny e = true ∧ e.on < i ∧ (e.on = j ∨ (anc (ancs l []) e.on).testBit j = true) := by
  obtain ⟨p, h1, h2⟩ := ancs_get l [] i o ho
  simp only [List.length_nil, Nat.zero_add] at h1 h2
  unfold anc at h
  rw [nth?_get, h1] at h
  obtain ⟨e, h3, h4, h5⟩ := ancOf_bit h
  have edges : ∀ (l : List Oper) (k : Nat), edgesOk l k = true → ∀ i o, l[i]? = some o → ∀ e ∈ o.after.toList, bindsAny e = true → e.on < k + i := by
    intro l
    induction l with
    | nil => intro k _ i o h; simp at h
    | cons x r ih =>
      intro k hk i o hi e hm hb
      simp only [edgesOk] at hk
      split at hk
      · rename_i hall
        cases i with
        | zero =>
          simp at hi
          subst hi
          have := List.all_eq_true.1 hall e hm
          simp [hb, Nat.blt_eq] at this
          simpa using this
        | succ i =>
          have := ih (k + 1) hk i o (by simpa using hi) e hm hb
          omega
      · cases hk
  have hlt : e.on < i := by simpa using edges l 0 he i o ho e h3 h4
  refine ⟨e, h3, h4, hlt, h5.imp id fun h6 => ?_⟩
  unfold anc at h6 ⊢
  rw [nth?_get] at h6 ⊢
  rw [h2, List.getElem?_take, if_pos hlt] at h6
  exact h6
theorem edges_lt {l : List Oper} {i : Nat} {o : Oper} (he : edgesOk l 0 = true) (ho : l[i]? = some o) {e : Edge} (hm : e ∈ o.after.toList) (hb : bindsAny e = true) : e.on < i := by
  have edges : ∀ (l : List Oper) (k : Nat), edgesOk l k = true → ∀ i o, l[i]? = some o → ∀ e ∈ o.after.toList, bindsAny e = true → e.on < k + i := by
    intro l
    induction l with
    | nil => intro k _ i o h; simp at h
    | cons x r ih =>
      intro k hk i o hi e hm hb
      simp only [edgesOk] at hk
      split at hk
      · rename_i hall
        cases i with
        | zero =>
          simp at hi
          subst hi
          have := List.all_eq_true.1 hall e hm
          simp [hb, Nat.blt_eq] at this
          simpa using this
        | succ i =>
          have := ih (k + 1) hk i o (by simpa using hi) e hm hb
          omega
      · cases hk
  simpa using edges l 0 he i o ho e hm hb
theorem anc_lt {l : List Oper} (he : edgesOk l 0 = true) : ∀ (i : Nat) {j : Nat}, (anc (ancs l []) i).testBit j = true → j < i := by
  intro i
  induction i using Nat.strongRecOn with
  | _ i ih =>
    intro j h
    cases ho : l[i]? with
    | none =>
      unfold anc at h
      obtain ⟨x, h1, h2⟩ := ancs_pre l []
      rw [nth?_get] at h
      have : (ancs l [])[i]? = none := by
        rw [h1]; simp; have := List.getElem?_eq_none_iff.1 ho; omega
      rw [this] at h
      simp at h
    | some o =>
      obtain ⟨e, _, _, h3, h4⟩ := anc_bit he ho h
      rcases h4 with h4 | h4
      · omega
      · have := ih e.on h3 h4; omega

/-! What has been done -/
def Done (d : Array Bool) (j : Nat) : Prop := d[j]? = some true
theorem ready_iff {ops : Array Oper} {d : Array Bool} (hd : d.size = ops.size) {i : Nat} : i ∈ Region.ready .any ops d ↔ ∃ o, ops[i]? = some o ∧ ¬ Done d i ∧ ∀ e ∈ o.after.toList, bindsAny e = true → Done d e.on := by
  unfold Region.ready Done
  simp only [List.mem_filter, List.mem_range]
  constructor
  · rintro ⟨hlt, h⟩
    rw [Bool.and_eq_true] at h
    have hi : i < d.size := by omega
    refine ⟨ops[i], Array.getElem?_eq_getElem hlt, ?_, fun e hm hb => ?_⟩
    · intro hdn
      have h1 := h.1
      simp [Array.getD_eq_getD_getElem?, hdn] at h1
    · have h2 := h.2
      rw [Array.getElem?_eq_getElem hlt] at h2
      simp only [Option.map_some, Option.getD_some, Array.all_eq_true'] at h2
      have := h2 e (by simpa using hm)
      rw [show Region.binds .any e = true from hb] at this
      simp only [Bool.not_true, Bool.false_or] at this
      cases he : d[e.on]? with
      | none => simp [Array.getD_eq_getD_getElem?, he] at this
      | some b => simp [Array.getD_eq_getD_getElem?, he] at this; rw [this]
  · rintro ⟨o, ho, hnd, he⟩
    have hlt : i < ops.size := (Array.getElem?_eq_some_iff.1 ho).1
    refine ⟨hlt, ?_⟩
    rw [Bool.and_eq_true]
    refine ⟨?_, ?_⟩
    · have hi : i < d.size := by omega
      rw [Array.getElem?_eq_getElem hi] at hnd
      simp only [Array.getD_eq_getD_getElem?, Array.getElem?_eq_getElem hi, Option.getD_some]
      cases hb : d[i] <;> simp_all
    · rw [ho]
      simp only [Option.map_some, Option.getD_some, Array.all_eq_true']
      intro e hm
      cases hb : Region.binds .any e with
      | false => rfl
      | true =>
        have := he e (by simpa using hm) hb
        simp [Array.getD_eq_getD_getElem?, this]

def Closed (as : List Nat) (d : Array Bool) : Prop := ∀ j, Done d j → ∀ q, (anc as j).testBit q = true → Done d q
theorem ready_anc {ops : Array Oper} {d : Array Bool} (hd : d.size = ops.size) (he : edgesOk ops.toList 0 = true) (hc : Closed (ancs ops.toList []) d) {i : Nat} (hi : i ∈ Region.ready .any ops d) {q : Nat} (hq : (anc (ancs ops.toList []) i).testBit q = true) : Done d q := by
  obtain ⟨o, ho, _, hall⟩ := (ready_iff hd).1 hi
  obtain ⟨e, h1, h2, h3, h4⟩ := anc_bit he (by simpa using ho) hq
  rcases h4 with rfl | h4
  · exact hall e h1 h2
  · exact hc _ (hall e h1 h2) q h4
theorem ready_some {ops : Array Oper} {d : Array Bool} (hd : d.size = ops.size) (he : edgesOk ops.toList 0 = true) {j : Nat} (hj : j < ops.size) (hn : ¬ Done d j) : Region.ready .any ops d ≠ [] := by
  -- the least that is not done is ready
  have : ∃ k, k < ops.size ∧ ¬ Done d k ∧ ∀ q, q < k → Done d q := by
    induction j using Nat.strongRecOn with
    | _ j ih =>
      by_cases h : ∀ q, q < j → Done d q
      · exact ⟨j, hj, hn, h⟩
      · simp only [Classical.not_forall] at h
        obtain ⟨q, hq, hnd⟩ := h
        exact ih q hq (by omega) hnd
  obtain ⟨k, hk, hnk, hall⟩ := this
  intro hnil
  have : k ∈ Region.ready .any ops d := (ready_iff hd).2 ⟨ops[k], Array.getElem?_eq_getElem hk, hnk, fun e hm hb => hall _ (edges_lt he (by simp [Array.getElem?_eq_getElem hk]) hm hb)⟩
  rw [hnil] at this
  cases this

theorem done_set {d : Array Bool} {i j : Nat} (hi : i < d.size) : Done (d.setIfInBounds i true) j ↔ j = i ∨ Done d j := by
  unfold Done
  rw [Array.getElem?_setIfInBounds]
  constructor
  · intro h
    split at h
    · rename_i e; exact .inl e.symm
    · exact .inr h
  · rintro (rfl | h)
    · simp [hi]
    · split
      · rename_i e; subst e; simp [hi]
      · exact h
theorem closed_set {as : List Nat} {d : Array Bool} {i : Nat} (hi : i < d.size) (hc : Closed as d) (ha : ∀ q, (anc as i).testBit q = true → Done d q) : Closed as (d.setIfInBounds i true) := by
  intro j hj q hq
  rw [done_set hi] at hj ⊢
  rcases hj with rfl | hj
  · exact .inr (ha q hq)
  · exact .inr (hc j hj q hq)

/-! The one writer of a slot -/
theorem writer_some : ∀ {l : List Oper} {t k j : Nat}, writer l t k = some j → k ≤ j ∧ ∃ o : Oper, l[j - k]? = some o ∧ o.dst = some t
  | [], t, k, j, h => by cases h
  | o :: r, t, k, j, h => by
    have rest : writer r t (k + 1) = some j → k ≤ j ∧ ∃ o' : Oper, (o :: r)[j - k]? = some o' ∧ o'.dst = some t := by
      intro h
      obtain ⟨h1, o', h2, h3⟩ := writer_some h
      refine ⟨by omega, o', ?_, h3⟩
      have : j - k = (j - (k + 1)) + 1 := by omega
      rw [this]; simpa using h2
    simp only [writer] at h
    split at h
    · rename_i d hd
      split at h
      · rename_i he
        cases h
        exact ⟨Nat.le_refl _, o, by simp, by rw [hd, Nat.eq_of_beq_eq_true he]⟩
      · exact rest h
    · exact rest h
theorem writer_none : ∀ {l : List Oper} {t k : Nat}, writer l t k = none → ∀ (i : Nat) (o : Oper), l[i]? = some o → o.dst ≠ some t
  | [], t, k, _, i, o, h => by simp at h
  | x :: r, t, k, h, i, o, hi => by
    simp only [writer] at h
    split at h
    · rename_i d hd
      split at h
      · cases h
      · rename_i hne
        cases i with
        | zero =>
          simp at hi; subst hi
          rw [hd]
          intro e
          cases e
          simp at hne
        | succ i => exact writer_none h i o (by simpa using hi)
    · rename_i hd
      cases i with
      | zero => simp at hi; subst hi; rw [hd]; simp
      | succ i => exact writer_none h i o (by simpa using hi)
theorem writer_shift : ∀ (l : List Oper) (t k : Nat), writer l t k = (writer l t 0).map (k + ·)
  | [], t, k => by simp [writer]
  | o :: r, t, k => by
    have e1 := writer_shift r t (k + 1)
    have e2 := writer_shift r t 1
    simp only [writer]
    split
    · split
      · simp
      · rw [e1, e2]; cases writer r t 0 <;> simp; omega
    · rw [e1, e2]; cases writer r t 0 <;> simp; omega
/-- Where no slot is written twice, the writer of an operation's slot is this operation. -/
theorem writer_at : ∀ {l : List Oper}, noDup l = true → ∀ {i : Nat} {o : Oper} {t : Nat}, l[i]? = some o → o.dst = some t → writer l t 0 = some i
  | [], _, i, o, t, h, _ => by simp at h
  | x :: r, hn, i, o, t, hi, hd => by
    simp only [noDup] at hn
    cases i with
    | zero =>
      simp at hi; subst hi
      simp [writer, hd]
    | succ i =>
      have hi' : r[i]? = some o := by simpa using hi
      have hr : noDup r = true := by
        split at hn
        · exact hn
        · split at hn
          · exact hn
          · cases hn
      have ih := writer_at hr hi' hd
      simp only [writer]
      cases hx : x.dst with
      | none => simp only; rw [writer_shift, ih]; simp; omega
      | some d =>
        simp only
        have hne : Nat.beq d t = false := by
          cases hb : Nat.beq d t
          · rfl
          · have := Nat.eq_of_beq_eq_true hb
            subst this
            rw [hx] at hn
            simp only [ih] at hn
            cases hn
        rw [hne]
        simp only
        rw [writer_shift, ih]; simp; omega

end Go.Sx
set_option linter.unusedVariables false
set_option linter.unusedSimpArgs false
noncomputable section
namespace Go.Sx
open Go Go.RowKit

def lookD (ops : List Oper) (as : List Nat) (tm : List SV) (done : List DR) (i : Nat) : Nat → Option SV :=
  fun j => match dstOf ops j with | some d => (match Nat.testBit ((nth? as i).getD 0) j with | true => some (evD ops as tm done i (.tmp d)) | false => none) | none => none
def mD (as : List Nat) (m : Mm) (done : List DR) (i : Nat) : Mm := ⟨memD ((nth? as i).getD 0) done 0 m.mem, m.nxt + i * m.sz, m.nxt + i * m.sz + m.sz, m.sz / 65536⟩

section
variable {P : Program} {E : Env} {H : Hnd}

/-- What the symbolic run of operation i of such a region has shown. -/
structure OpDone (P : Program) (E : Env) (H : Hnd) (ops : List Oper) (as : List Nat) (own : Mem) (m : Mm) (tm : List SV) (done : List DR) (i : Nat) (o : Oper) (d : DR) : Prop where
  dst : d.dst = o.dst
  how : ∃ pc' b, PcOk E pc' ∧ GuardIs E (lookD ops as tm done i) o.guard b ∧
    ((b = true ∧ ∃ r, (opD H P own (mD as m done i) pc' (evD ops as tm done i) o.op).sel E = some r ∧ d.v = r.1.v ∧ d.nb = r.1.nb ∧ d.use = r.2) ∨ (b = false ∧ d.v = undefS ∧ d.nb = [] ∧ d.use = none))

theorem drawOps_sel (hH : HndPc E H) {ops : List Oper} {as : List Nat} {own : Mem} {m : Mm} {tm : List SV} : ∀ (rest : List Oper) (done : List DR) {pc : PC} {res : List DR × PC}, PcOk E pc →
    (drawOps H P ops as own m tm rest done.length done pc).sel E = some res →
    PcOk E res.2 ∧ ∃ full, res.1 = done ++ full ∧ full.length = rest.length ∧ ∀ (k : Nat) (o : Oper), rest[k]? = some o → ∃ d, full[k]? = some d ∧ OpDone P E H ops as own m tm (done ++ full.take k) (done.length + k) o d
  | [], done, pc, res, hp, h => by
    simp only [drawOps, Out.sel, Option.some.injEq] at h
    subst h
    exact ⟨hp, [], by simp, rfl, fun k o h => by simp at h⟩
  | o :: rest, done, pc, res, hp, h => by
    simp only [drawOps, drawOne, fList_eq] at h
    obtain ⟨x, hx, h⟩ := Out.sel_bind_some h
    obtain ⟨pc', b, hp', hg, hc⟩ := guarded_sel hp hx
    have hd : OpDone P E H ops as own m tm done done.length o x.1 ∧ PcOk E x.2 := by
      rcases hc with ⟨rfl, hc⟩ | ⟨rfl, hc⟩
      · obtain ⟨r, hr, hc⟩ := Out.sel_bind_some hc
        simp only [Out.sel, Option.some.injEq] at hc
        subst hc
        exact ⟨⟨rfl, pc', true, hp', hg, .inl ⟨rfl, r, hr, rfl, rfl, rfl⟩⟩, opD_pc hH hp' r hr⟩
      · simp only [Out.sel, Option.some.injEq] at hc
        subst hc
        exact ⟨⟨rfl, pc', false, hp', hg, .inr ⟨rfl, rfl, rfl, rfl⟩⟩, hp'⟩
    have h' : (drawOps H P ops as own m tm rest (done ++ [x.1]).length (done ++ [x.1]) x.2).sel E = some res := by simpa using h
    obtain ⟨h1, full, h2, h3, h4⟩ := drawOps_sel hH rest (done ++ [x.1]) hd.2 h'
    refine ⟨h1, x.1 :: full, by simp [h2], by simp [h3], fun k o' hk => ?_⟩
    cases k with
    | zero =>
      simp at hk
      subst hk
      exact ⟨x.1, by simp, by simpa using hd.1⟩
    | succ k =>
      obtain ⟨d, h5, h6⟩ := h4 k o' (by simpa using hk)
      refine ⟨d, by simpa using h5, ?_⟩
      have e1 : (done ++ [x.1]) ++ full.take k = done ++ (x.1 :: full).take (k + 1) := by simp
      have e2 : (done ++ [x.1]).length + k = done.length + (k + 1) := by simp; omega
      rw [e1, e2] at h6
      exact h6

theorem memD_mem {a : Nat} : ∀ {done : List DR} {i : Nat} {mem : Mem} {x : Nat × SB}, x ∈ memD a done i mem → x ∈ mem ∨ ∃ (j : Nat) (d : DR), done[j]? = some d ∧ a.testBit (i + j) = true ∧ x ∈ d.nb
  | [], i, mem, x, h => .inl h
  | d :: r, i, mem, x, h => by
    simp only [memD] at h
    split at h
    · rename_i hb
      rcases memD_mem h with h | ⟨j, d', h1, h2, h3⟩
      · rcases List.mem_append.1 h with h | h
        · exact .inr ⟨0, d, by simp, by simpa using hb, h⟩
        · exact .inl h
      · exact .inr ⟨j + 1, d', by simpa using h1, by rw [← h2]; congr 1; omega, h3⟩
    · rcases memD_mem h with h | ⟨j, d', h1, h2, h3⟩
      · exact .inl h
      · exact .inr ⟨j + 1, d', by simpa using h1, by rw [← h2]; congr 1; omega, h3⟩

theorem dropB_keep {j : Nat} : ∀ {mem : Mem} {x : Nat × SB}, x ∈ mem → x.1 ≠ j → x ∈ dropB mem j
  | [], _, h, _ => by cases h
  | (i, y) :: r, x, h, hne => by
    simp only [dropB]
    rcases List.mem_cons.1 h with rfl | h
    · split
      · rename_i hb; exact absurd (Nat.eq_of_beq_eq_true hb) hne
      · exact List.mem_cons_self ..
    · split
      · exact dropB_keep h hne
      · exact List.mem_cons_of_mem _ (dropB_keep h hne)
theorem memN_iff : ∀ {K : List Nat} {j : Nat}, memN K j = true ↔ j ∈ K
  | [], j => by simp [memN]
  | k :: r, j => by
    simp only [memN, List.mem_cons]
    split
    · rename_i h; have := Nat.eq_of_beq_eq_true h; simp [this]
    · rename_i h
      rw [memN_iff]
      constructor
      · exact .inr
      · rintro (rfl | h2)
        · rw [Nat.beq_refl] at h; cases h
        · exact h2
theorem dropK_mem {K : List Nat} : ∀ {mem : Mem} {x : Nat × SB}, x ∈ dropK K mem → x ∈ mem ∧ x.1 ∉ K
  | [], _, h => by cases h
  | (i, y) :: r, x, h => by
    simp only [dropK] at h
    split at h
    · have := dropK_mem h; exact ⟨List.mem_cons_of_mem _ this.1, this.2⟩
    · rename_i hn
      rcases List.mem_cons.1 h with rfl | h
      · exact ⟨List.mem_cons_self .., fun hk => by rw [memN_iff.2 hk] at hn; cases hn⟩
      · have := dropK_mem h; exact ⟨List.mem_cons_of_mem _ this.1, this.2⟩
/-- What is taken over: among K, old, each once; what is made: new. -/
structure UsesOk (K : List Nat) (nxt : Nat) (full : List DR) : Prop where
  inK : ∀ (i : Nat) (d : DR) (j : Nat), full[i]? = some d → d.use = some j → j ∈ K ∧ j < nxt
  once : ∀ (i i' : Nat) (d d' : DR) (j : Nat), full[i]? = some d → full[i']? = some d' → d.use = some j → d'.use = some j → i = i'
  new : ∀ (i : Nat) (d : DR) (x : Nat × SB), full[i]? = some d → x ∈ d.nb → nxt ≤ x.1
theorem nbsOk_ok {nxt : Nat} : ∀ {mem : Mem}, nbsOk nxt mem = true → ∀ x, x ∈ mem → nxt ≤ x.1
  | [], _, x, h => by cases h
  | y :: r, h, x, hx => by
    simp only [nbsOk] at h
    split at h
    · rename_i hy
      rcases List.mem_cons.1 hx with rfl | hx
      · exact Nat.le_of_ble_eq_true hy
      · exact nbsOk_ok h x hx
    · cases h
theorem usesOk_ok {K : List Nat} {nxt : Nat} : ∀ {full : List DR} {seen : List Nat}, usesOk K nxt full seen = true → UsesOk K nxt full ∧ ∀ (i : Nat) (d : DR) (j : Nat), full[i]? = some d → d.use = some j → j ∉ seen
  | [], seen, _ => ⟨⟨fun i d j h => by simp at h, fun i i' d d' j h => by simp at h, fun i d x h => by simp at h⟩, fun i d j h => by simp at h⟩
  | x :: r, seen, h => by
    simp only [usesOk] at h
    split at h
    · cases h
    · rename_i hn
      have hnew : ∀ (g : ∀ (i : Nat) (d : DR) (y : Nat × SB), r[i]? = some d → y ∈ d.nb → nxt ≤ y.1) (i : Nat) (d : DR) (y : Nat × SB), (x :: r)[i]? = some d → y ∈ d.nb → nxt ≤ y.1 := by
        intro g i d y hi hy
        cases i with
        | zero => simp at hi; subst hi; exact nbsOk_ok hn y hy
        | succ i => exact g i d y (by simpa using hi) hy
      split at h
      · rename_i hx
        obtain ⟨⟨g1, g2, g4⟩, g3⟩ := usesOk_ok h
        refine ⟨⟨fun i d j hi hu => ?_, fun i i' d d' j hi hi' hu hu' => ?_, hnew g4⟩, fun i d j hi hu => ?_⟩
        · cases i with
          | zero => simp at hi; subst hi; rw [hx] at hu; cases hu
          | succ i => exact g1 i d j (by simpa using hi) hu
        · cases i with
          | zero => simp at hi; subst hi; rw [hx] at hu; cases hu
          | succ i => cases i' with
            | zero => simp at hi'; subst hi'; rw [hx] at hu'; cases hu'
            | succ i' => rw [g2 i i' d d' j (by simpa using hi) (by simpa using hi') hu hu']
        · cases i with
          | zero => simp at hi; subst hi; rw [hx] at hu; cases hu
          | succ i => exact g3 i d j (by simpa using hi) hu
      · rename_i j0 hx
        split at h
        · rename_i hK hs hlt
          obtain ⟨⟨g1, g2, g4⟩, g3⟩ := usesOk_ok h
          have hj0 : j0 ∉ seen := fun hm => by rw [memN_iff.2 hm] at hs; cases hs
          refine ⟨⟨fun i d j hi hu => ?_, fun i i' d d' j hi hi' hu hu' => ?_, hnew g4⟩, fun i d j hi hu => ?_⟩
          · cases i with
            | zero => simp at hi; subst hi; rw [hx] at hu; cases hu; exact ⟨memN_iff.1 hK, by simpa [Nat.blt_eq] using hlt⟩
            | succ i => exact g1 i d j (by simpa using hi) hu
          · cases i with
            | zero =>
              simp at hi; subst hi
              rw [hx] at hu; cases hu
              cases i' with
              | zero => rfl
              | succ i' => exact absurd (List.mem_cons_self ..) (g3 i' d' j0 (by simpa using hi') hu')
            | succ i => cases i' with
              | zero =>
                simp at hi'; subst hi'
                rw [hx] at hu'; cases hu'
                exact absurd (List.mem_cons_self ..) (g3 i d j0 (by simpa using hi) hu)
              | succ i' => rw [g2 i i' d d' j (by simpa using hi) (by simpa using hi') hu hu']
          · cases i with
            | zero => simp at hi; subst hi; rw [hx] at hu; cases hu; exact hj0
            | succ i => exact fun hm => g3 i d j (by simpa using hi) hu (List.mem_cons_of_mem _ hm)
        · cases h
theorem memAll_mem : ∀ {done : List DR} {mem : Mem} {x : Nat × SB}, x ∈ memAll mem done → x ∈ mem ∨ ∃ (j : Nat) (d : DR), done[j]? = some d ∧ x ∈ d.nb
  | [], mem, x, h => .inl h
  | d :: r, mem, x, h => by
    simp only [memAll] at h
    rcases memAll_mem h with h | ⟨j, d', h1, h2⟩
    · rcases List.mem_append.1 h with h | h
      · exact .inr ⟨0, d, by simp, h⟩
      · exact .inl h
    · exact .inr ⟨j + 1, d', by simpa using h1, h2⟩

/-- What holds while the operations of such a region are done, in whatever order: those in 'd'. -/
structure Mid (E : Env) (β0 β : Pl) (w0 : World) (σ : St) (L : List Oper) (full : List DR) (d : Array Bool) (a : Act) (w : World) : Prop where
  tm : a.tmps.size = σ.tm.length ∧ ∀ (t : Nat) (v : Value), a.tmps[t]? = some v → ((∃ j dr, writer L t 0 = some j ∧ Done d j ∧ full[j]? = some dr ∧ SV.rep E β dr.v v) ∨ ((∀ j, writer L t 0 = some j → ¬ Done d j) ∧ SV.rep E β (σ.tm.getD t .un) v))
  df : a.defers = []
  own : ∃ mem, Owns E β w0.heap.size mem w ∧ (∀ x, x ∈ σ.own → (∀ j dr, Done d j → full[j]? = some dr → dr.use ≠ some x.1) → x ∈ mem) ∧ ∀ j dr, Done d j → full[j]? = some dr → ∀ x, x ∈ dr.nb → x ∈ mem
  fresh : ∀ i, i < full.length → ¬ Done d i → Fresh β (σ.nxt + i * σ.sz) (σ.nxt + i * σ.sz + σ.sz)
  rest : Fresh β (σ.nxt + full.length * σ.sz) σ.lim
  below : Below w0.heap.size w0 w
  ro : Reads E β σ.ro w0
  ext : Ext β0 β σ.nxt (σ.nxt + full.length * σ.sz)

variable {β0 β : Pl} {w0 w : World} {σ : St} {a : Act} {ops : Array Oper} {full : List DR} {d : Array Bool}

theorem Mid.slot (h : Mid E β0 β w0 σ ops.toList full d a w) {t : Nat} {s : SV} (hw : ∀ j, writer ops.toList t 0 = some j → ¬ Done d j) (hs : σ.tm[t]? = some s) : ∃ v, a.tmps[t]? = some v ∧ SV.rep E β s v := by
  have hlt : t < a.tmps.size := by have := (List.getElem?_eq_some_iff.1 hs).1; rw [h.tm.1]; exact this
  refine ⟨a.tmps[t], Array.getElem?_eq_getElem hlt, ?_⟩
  rcases h.tm.2 t _ (Array.getElem?_eq_getElem hlt) with ⟨j, dr, h1, h2, _⟩ | ⟨_, h2⟩
  · exact absurd h2 (hw j h1)
  · rw [List.getD_eq_getElem?_getD, hs] at h2; exact h2

theorem Mid.eval (h : Mid E β0 β w0 σ ops.toList full d a w) (he : edgesOk ops.toList 0 = true) (hc : Closed (ancs ops.toList []) d) {i : Nat} (hi : i < full.length) (hnd : ¬ Done d i)
    (ha : ∀ q, (anc (ancs ops.toList []) i).testBit q = true → Done d q) (x : Operand) : SV.rep E β (evD ops.toList (ancs ops.toList []) σ.tm (full.take i) i x) (a.eval x) := by
  cases x with
  | tmp t =>
    simp only [evD]
    split
    · simp [SV.rep]
    · rename_i s hs
      rw [nth?_get] at hs
      have hlt : t < a.tmps.size := by have := (List.getElem?_eq_some_iff.1 hs).1; rw [h.tm.1]; exact this
      have e : a.eval (.tmp t) = a.tmps[t] := by simp [Act.eval, Array.getD_eq_getD_getElem?, hlt]
      have base : (∀ j, writer ops.toList t 0 = some j → ¬ Done d j) → SV.rep E β s (a.eval (.tmp t)) := by
        intro hw
        obtain ⟨v, hv, hr⟩ := h.slot hw hs
        rw [Array.getElem?_eq_getElem hlt] at hv
        cases hv
        rw [e]; exact hr
      split
      · rename_i hw; exact base (fun j hj => by rw [hw] at hj; cases hj)
      · rename_i j hw
        split
        · rename_i hb
          have hdj : Done d j := ha j hb
          have hji : j < i := anc_lt he i hb
          split
          · rename_i dr hdr
            rw [nth?_get, List.getElem?_take, if_pos hji] at hdr
            rw [e]
            rcases h.tm.2 t _ (Array.getElem?_eq_getElem hlt) with ⟨j', dr', h1, _, h3, h4⟩ | ⟨h1, _⟩
            · rw [hw] at h1; cases h1
              rw [hdr] at h3; cases h3
              exact h4
            · exact absurd hdj (h1 j hw)
          · simp [SV.rep]
        · split
          · rename_i hb
            refine base (fun j' hj' => ?_)
            rw [hw] at hj'; cases hj'
            rw [Bool.or_eq_true] at hb
            rcases hb with hb | hb
            · exact fun hdn => hnd (hc _ hdn i hb)
            · rw [← Nat.eq_of_beq_eq_true hb]; exact hnd
          · simp [SV.rep]
  | const v => exact ofVal_rep v
  | global g => simp [evD, SV.rep]
  | func f => simp [evD, Act.eval, SV.rep]
/-- One operation of such a region: whatever has been done before it, it does what was shown of it. -/
theorem Mid.step (hH : HndOk P E H) (hN : Named P) (he : edgesOk ops.toList 0 = true) (hnd : noDup ops.toList = true) {m : Mm} {KK : List Nat} (hm : m = ⟨dropK KK σ.own ++ σ.ro, σ.nxt, σ.lim, σ.sz⟩) (huse : UsesOk KK σ.nxt full) (hlim : σ.nxt + full.length * σ.sz ≤ σ.lim)
    (hfull : ∀ (k : Nat) (o : Oper), k < full.length → ops[k]? = some o → ∃ dr, full[k]? = some dr ∧ OpDone P E H ops.toList (ancs ops.toList []) σ.own m σ.tm (full.take k) k o dr)
    (hd : d.size = ops.size) (h : Mid E β0 β w0 σ ops.toList full d a w) (hc : Closed (ancs ops.toList []) d) {i : Nat} (hi : i < full.length) (hr : i ∈ Region.ready .any ops d)
    (K : Act → World → Prop) (Q : Exit → Act → World → Prop) (hK : ∀ β' a' w', Mid E β0 β' w0 σ ops.toList full (d.setIfInBounds i true) a' w' → K a' w') : wpOp P ops Q i K a w := by
  obtain ⟨o, ho, hndi, hall⟩ := (ready_iff hd).1 hr
  have hanc := fun q => ready_anc (q := q) hd he hc hr
  obtain ⟨dr, hdr, hdst, pc', b, hp', hg, hcase⟩ := hfull i o hi ho
  have hid : i < d.size := by rw [hd]; exact (Array.getElem?_eq_some_iff.1 ho).1
  have hev := h.eval he hc hi hndi hanc
  have hw := guard_wanted (a := a) (β := β) (ops := ops) hg (fun j s hj hne => by
    unfold lookD at hj
    rw [dstOf_get] at hj
    cases hdj : (ops[j]?).bind (·.dst) with
    | none => rw [hdj] at hj; cases hj
    | some t =>
      rw [hdj] at hj
      simp only at hj
      split at hj
      · rename_i hb
        cases hj
        rcases Nat.lt_or_ge t a.tmps.size with hts | hts
        · refine ⟨t, a.tmps[t], rfl, Array.getElem?_eq_getElem hts, ?_⟩
          have := hev (.tmp t)
          have e : a.eval (.tmp t) = a.tmps[t] := by simp [Act.eval, Array.getD_eq_getD_getElem?, hts]
          rw [e] at this; exact this
        · have hnone : nth? σ.tm t = none := by
            rw [nth?_get]
            have := h.tm.1
            exact List.getElem?_eq_none (by omega)
          simp only [evD, hnone] at hne
          exact absurd rfl hne
      · cases hj)
  have hown := h.own
  obtain ⟨mem, hmem, hsub, hnb⟩ := hown
  have hsz := h.below.size
  -- behind the operation
  have go0 : ∀ (v : Value) (w' : World) (β' : Pl) (sv : SV), dr.v = sv → SV.rep E β' sv v → Pl.le β β' → (∀ q, q < σ.nxt + i * σ.sz ∨ σ.nxt + i * σ.sz + σ.sz ≤ q → β' q = β q) →
      (∃ mem', Owns E β' w0.heap.size mem' w' ∧ (∀ x, x ∈ σ.own → (∀ j dr, Done (d.setIfInBounds i true) j → full[j]? = some dr → dr.use ≠ some x.1) → x ∈ mem') ∧ ∀ j dr, Done (d.setIfInBounds i true) j → full[j]? = some dr → ∀ x, x ∈ dr.nb → x ∈ mem') →
      Below w0.heap.size w0 w' → K (a.put o.dst v) w' := by
    intro v w' β' sv e1 hv hmono hdom hownx hbel
    refine hK β' _ _ ⟨⟨?_, fun t u hu => ?_⟩, (put_defers a _ _).trans h.df, hownx, fun q hq hnq => ?_, ?_, hbel, h.ro.below hmono (Below.refl _ _), ?_⟩
    · have := h.tm.1
      cases hod : o.dst <;> simp [Act.put, this]
    · -- the slots
      by_cases hdt : o.dst = some t
      · have hwr := writer_at hnd (by simpa using ho) hdt
        refine .inl ⟨i, dr, hwr, (done_set hid).2 (.inl rfl), hdr, ?_⟩
        rw [hdt] at hu
        simp only [Act.put, Array.getElem?_setIfInBounds, if_true] at hu
        split at hu
        · cases hu; rw [e1]; exact hv
        · cases hu
      · have hu' : a.tmps[t]? = some u := by
          cases hod : o.dst with
          | none => rw [hod] at hu; exact hu
          | some t' =>
            rw [hod] at hu
            simp only [Act.put, Array.getElem?_setIfInBounds] at hu
            rw [if_neg (fun e => hdt (by rw [hod, e]))] at hu
            exact hu
        rcases h.tm.2 t u hu' with ⟨j, dj, h1, h2, h3, h4⟩ | ⟨h1, h2⟩
        · exact .inl ⟨j, dj, h1, (done_set hid).2 (.inr h2), h3, SV.rep_mono hmono _ _ h4⟩
        · refine .inr ⟨fun j hj hdj => ?_, SV.rep_mono hmono _ _ h2⟩
          rcases (done_set hid).1 hdj with rfl | hdj
          · obtain ⟨_, o', ho', hd'⟩ := writer_some hj
            have : o' = o := by
              rw [Nat.sub_zero, Array.getElem?_toList, ho] at ho'
              exact (Option.some.inj ho').symm
            subst this
            exact hdt hd'
          · exact h1 j hj hdj
    · have hqi : q ≠ i := fun e => hnq ((done_set hid).2 (.inl e))
      have hnq' : ¬ Done d q := fun e => hnq ((done_set hid).2 (.inr e))
      have hf := h.fresh q hq hnq'
      intro j hj1 hj2
      rw [hdom j ?_]
      · exact hf j hj1 hj2
      · rcases Nat.lt_or_gt_of_ne hqi with hlt | hlt
        · left
          have : (q + 1) * σ.sz ≤ i * σ.sz := Nat.mul_le_mul_right _ hlt
          rw [Nat.succ_mul] at this
          omega
        · right
          have : (i + 1) * σ.sz ≤ q * σ.sz := Nat.mul_le_mul_right _ hlt
          rw [Nat.succ_mul] at this
          omega
    · intro j hj1 hj2
      have : (i + 1) * σ.sz ≤ full.length * σ.sz := Nat.mul_le_mul_right _ hi
      rw [Nat.succ_mul] at this
      rw [hdom j (.inr (by omega))]
      exact h.rest j hj1 hj2
    · have h1 : (i + 1) * σ.sz ≤ full.length * σ.sz := Nat.mul_le_mul_right _ hi
      rw [Nat.succ_mul] at h1
      exact ⟨Pl.le_trans h.ext.mono hmono, fun j hj => by rw [hdom j (by omega), h.ext.dom j hj], h.ext.le⟩
  have go : ∀ (v : Value) (w' : World) (β' : Pl) (n' : Nat) (nb : Mem) (sv : SV), dr.v = sv → dr.nb = nb → dr.use = none → SV.rep E β' sv v → Step E β β' w w' (σ.nxt + i * σ.sz) n' nb → n' ≤ σ.nxt + i * σ.sz + σ.sz → K (a.put o.dst v) w' := by
    intro v w' β' n' nb sv e1 e2 e3 hv hst hn'
    refine go0 v w' β' sv e1 hv hst.mono (fun q hq => hst.dom q (by omega)) ⟨nb ++ mem, hmem.step hst hsz, fun x hx hnu => List.mem_append.2 (.inr (hsub x hx fun j dj hdj hfj => hnu j dj ((done_set hid).2 (.inr hdj)) hfj)), fun j dj hdj hfj x hx => ?_⟩ (h.below.trans (hst.below.mono hsz))
    rcases (done_set hid).1 hdj with rfl | hdj
    · rw [hdr] at hfj; cases hfj
      rw [e2] at hx
      exact List.mem_append.2 (.inl hx)
    · exact List.mem_append.2 (.inr (hnb j dj hdj hfj x hx))
  have hreads : Reads E β (mD (ancs ops.toList []) m (full.take i) i).mem w := by
    intro j sb hj
    rcases memD_mem hj with hj | ⟨q, dq, h1, h2, h3⟩
    · rw [hm] at hj
      rcases List.mem_append.1 hj with hj | hj
      · obtain ⟨hj1, hj2⟩ := dropK_mem hj
        exact hmem.reads j sb (hsub _ hj1 fun q dq _ hfq hu => hj2 (huse.inK q dq _ hfq hu).1)
      · exact (h.ro.below (Pl.le_refl _) h.below) j sb hj
    · rw [Nat.zero_add] at h2
      have hqi : q < i := anc_lt he i h2
      rw [List.getElem?_take, if_pos hqi] at h1
      exact hmem.reads j sb (hnb q dq (hanc q h2) h1 _ h3)
  have hfr : Fresh β (mD (ancs ops.toList []) m (full.take i) i).nxt (mD (ancs ops.toList []) m (full.take i) i).lim := by
    rw [hm]; exact h.fresh i hi hndi
  unfold wpOp
  simp only [ho, hw]
  rcases hcase with ⟨rfl, r, hr', e1, e2, e3⟩ | ⟨rfl, e1, e2, e3⟩
  · simp only [if_true]
    left
    unfold opD at hr'
    split at hr'
    · rename_i s x t hap
      split at hr'
      · rename_i hno
        obtain ⟨r', hr2, hr3⟩ := Out.sel_bind_some hr'
        simp only [Out.sel, Option.some.injEq] at hr3
        subst hr3
        obtain ⟨_, h2, h3⟩ := appE_wp (o := o) hev hap hno hreads hfr hp' hr2
        refine h3 K Q fun v w' β' hv hst => ?_
        rw [hm] at hst h2
        exact go v w' β' r'.nxt r'.nb r'.v e1 e2 e3 hv hst h2
      · obtain ⟨j, sb, u1, u2, u3, u4, u5, u6⟩ := appD_ok hev hap h.df hreads hmem h.below hfr hp' hr'
        have hjm : (j, sb) ∈ mem := hsub _ (find_mem u2) fun q dq hdq hfq hu => by
          have := huse.once i q dr dq j hdr hfq (by rw [e3, u1]) hu
          subst this
          exact hndi hdq
        refine u6 hjm K Q fun v w' β' hv hmono hdom hown' hbel => ?_
        rw [hm] at hdom u5
        simp only [mD] at hdom u5
        refine go0 v w' β' r.1.v e1 hv hmono (fun q hq => hdom q (by omega)) ⟨r.1.nb ++ dropB mem j, hown', fun x hx hnu => ?_, fun q dq hdq hfq x hx => ?_⟩ hbel
        · have hxj : x.1 ≠ j := fun e => hnu i dr ((done_set hid).2 (.inl rfl)) hdr (by rw [e3, u1, e])
          have hxm := hsub x hx fun q dq hdq hfq => hnu q dq ((done_set hid).2 (.inr hdq)) hfq
          exact List.mem_append.2 (.inr (dropB_keep hxm hxj))
        · rcases (done_set hid).1 hdq with rfl | hdq
          · rw [hdr] at hfq; cases hfq
            rw [e2] at hx
            exact List.mem_append.2 (.inl hx)
          · have hxm := hnb q dq hdq hfq x hx
            refine List.mem_append.2 (.inr (dropB_keep hxm fun e => ?_))
            have h1 := huse.new q dq x hfq hx
            have h2 := (huse.inK i dr j hdr (by rw [e3, u1])).2
            omega
    · obtain ⟨r', hr2, hr3⟩ := Out.sel_bind_some hr'
      simp only [Out.sel, Option.some.injEq] at hr3
      subst hr3
      obtain ⟨_, h2, h3⟩ := opP_wp (o := o) hH hN hev hreads hfr (by simp [mD]) hp' hr2
      refine h3 K Q fun v w' β' hv hst => ?_
      rw [hm] at hst h2
      exact go v w' β' r'.nxt r'.nb r'.v e1 e2 e3 hv hst h2
  · simp only [Bool.false_eq_true, if_false]
    exact go undef w β _ [] undefS e1 e2 e3 undef_rep (Step.refl _) (Nat.le_add_right _ _)
end
end Go.Sx
set_option linter.unusedVariables false
set_option linter.unusedSimpArgs false
noncomputable section
namespace Go.Sx
open Go Go.RowKit

/-- How many of the first n are not done. -/
def undone (d : Array Bool) : Nat → Nat
  | 0 => 0
  | n + 1 => undone d n + (if d[n]? = some true then 0 else 1)
theorem undone_set {d : Array Bool} {i : Nat} (hi : i < d.size) (hn : ¬ Done d i) : ∀ n, (n ≤ i → undone (d.setIfInBounds i true) n = undone d n) ∧ (i < n → undone (d.setIfInBounds i true) n + 1 = undone d n)
  | 0 => ⟨fun _ => rfl, fun h => by omega⟩
  | n + 1 => by
    obtain ⟨h1, h2⟩ := undone_set hi hn n
    have hne : n ≠ i → (d.setIfInBounds i true)[n]? = d[n]? := fun h => by rw [Array.getElem?_setIfInBounds, if_neg (Ne.symm h)]
    refine ⟨fun h => ?_, fun h => ?_⟩
    · simp only [undone]; rw [h1 (by omega), hne (by omega)]
    · simp only [undone]
      rcases Nat.lt_or_ge i n with hlt | hge
      · have := h2 hlt
        rw [hne (by omega)]; omega
      · have e : n = i := by omega
        subst e
        rw [h1 (Nat.le_refl _)]
        have : (d.setIfInBounds n true)[n]? = some true := by simp [hi]
        rw [this]
        simp only [if_true]
        rw [if_neg (show ¬ d[n]? = some true from hn)]
theorem undone_zero {d : Array Bool} : ∀ {n : Nat}, undone d n = 0 → ∀ j, j < n → Done d j
  | 0, _, j, h => by omega
  | n + 1, h, j, hj => by
    simp only [undone] at h
    rcases Nat.lt_or_ge j n with hlt | hge
    · exact undone_zero (by omega) j hlt
    · have : j = n := by omega
      subst this
      by_cases hd : d[j]? = some true
      · exact hd
      · rw [if_neg hd] at h; omega
theorem undone_eq {d : Array Bool} {kk : Nat} (h : ∀ j, Done d j ↔ j < kk) : ∀ n, undone d n = n - kk
  | 0 => by simp [undone]
  | n + 1 => by
    have ih := undone_eq h n
    simp only [undone]
    by_cases hn : n < kk
    · rw [if_pos (show d[n]? = some true from (h n).2 hn)]; omega
    · rw [if_neg (show ¬ d[n]? = some true from fun e => hn ((h n).1 e))]; omega
theorem undone_none (n : Nat) : ∀ k, k ≤ n → undone (Array.replicate n false) k = k
  | 0, _ => rfl
  | k + 1, h => by
    simp only [undone]
    rw [undone_none n k (by omega), if_neg (by simp [Array.getElem?_replicate])]

theorem sinks_bit {as : List Nat} : ∀ {i n : Nat}, sinksOk as i n = true → ∀ k, i ≤ k → k < i + n → ∀ q, q < k → (anc as k).testBit q = true
  | i, 0, _, k, h1, h2, _, _ => by omega
  | i, n + 1, h, k, h1, h2, q, hq => by
    simp only [sinksOk] at h
    split at h
    · rename_i hb
      rcases Nat.lt_or_ge i k with hlt | hge
      · exact sinks_bit h k hlt (by omega) q hq
      · have e : k = i := by omega
        subst e
        have hb' := Nat.eq_of_beq_eq_true hb
        have h3 : (anc as k % 2 ^ k).testBit q = (2 ^ k - 1).testBit q := by unfold anc; rw [hb']
        rw [Nat.testBit_mod_two_pow, Nat.testBit_two_pow_sub_one] at h3
        simpa [hq] using h3
    · cases h

section
variable {P : Program} {E : Env} {H : Hnd} {β0 β : Pl} {w0 w : World} {σ σ' : St} {a : Act} {ops : Array Oper} {Q : Exit → Act → World → Prop}

/-- The operations behind the first that writes: one after the other. -/
theorem seq_any (hH : HndOk P E H) (hN : Named P) (he : edgesOk ops.toList 0 = true) {kk : Nat} (hk : sinksOk (ancs ops.toList []) kk (ops.size - kk) = true) : ∀ (m k : Nat) {d : Array Bool} {β : Pl} {σ : St} {a : Act} {w : World}, k + m = ops.size → kk ≤ k → d.size = ops.size →
    (∀ j, Done d j ↔ j < k) → RepS E β w0 σ a w → (seqOps H P ops.toList (ops.toList.drop k) σ).sel E = some σ' → (∀ β' a' w', Ext β β' σ.nxt σ'.nxt → RepS E β' w0 σ' a' w' → Q .normal a' w') →
    wpAny P .any ops Q m d a w
  | 0, k, d, β, σ, a, w, hkm, hkk, hd, hdn, h, hs, hQ => by
    refine ⟨?_, ?_⟩
    · cases hr : Region.ready .any ops d with
      | nil => rfl
      | cons i r =>
        have hi : i ∈ Region.ready .any ops d := by rw [hr]; exact List.mem_cons_self ..
        obtain ⟨o, ho, hnd, _⟩ := (ready_iff hd).1 hi
        have := (Array.getElem?_eq_some_iff.1 ho).1
        exact absurd ((hdn i).2 (by omega)) hnd
    · have : ops.toList.drop k = [] := List.drop_eq_nil_of_le (by simp; omega)
      rw [this] at hs
      simp only [seqOps, Out.sel, Option.some.injEq] at hs
      subst hs
      exact hQ β a w (Ext.refl _ _) h
  | m + 1, k, d, β, σ, a, w, hkm, hkk, hd, hdn, h, hs, hQ => by
    refine ⟨fun hnil => absurd hnil (ready_some hd he (j := k) (by omega) (fun e => by have := (hdn k).1 e; omega)), fun i hi => ?_⟩
    have hc : Closed (ancs ops.toList []) d := fun j hj q hq => by
      have := anc_lt he j hq
      have := (hdn j).1 hj
      exact (hdn q).2 (by omega)
    obtain ⟨o, ho, hnd, _⟩ := (ready_iff hd).1 hi
    have hlt := (Array.getElem?_eq_some_iff.1 ho).1
    have hik : i = k := by
      have h1 : ¬ i < k := fun e => hnd ((hdn i).2 e)
      rcases Nat.lt_or_ge k i with h2 | h2
      · have := ready_anc hd he hc hi (sinks_bit hk i (by omega) (by omega) k h2)
        have := (hdn k).1 this
        omega
      · omega
    subst hik
    have hdrop : ops.toList.drop i = o :: ops.toList.drop (i + 1) := by
      rw [List.drop_eq_getElem_cons (by simpa using hlt)]
      congr 1
      rw [Array.getElem_toList]
      rw [Array.getElem?_eq_getElem hlt] at ho
      exact Option.some.inj ho
    rw [hdrop] at hs
    simp only [seqOps, fList_eq] at hs
    obtain ⟨σ1, hs1, hs2⟩ := Out.sel_bind_some hs
    refine stepG_wp hH hN ho h hs1 _ Q fun β' a' w' hle hrep => ?_
    refine seq_any hH hN he hk m (i + 1) (by omega) (by omega) (by simpa using hd) (fun j => ?_) hrep hs2 (fun β2 a2 w2 hle2 hrep2 => hQ β2 a2 w2 (Ext.trans hle hle2) hrep2)
    rw [done_set (by omega), hdn j]
    omega

theorem putAll_get : ∀ {full : List DR} {tm : List SV} {t : Nat} {s : SV}, (putAll tm full)[t]? = some s →
    (∃ (j : Nat) (dr : DR), full[j]? = some dr ∧ dr.dst = some t ∧ (∀ (j' : Nat) (dr' : DR), j < j' → full[j']? = some dr' → dr'.dst ≠ some t) ∧ s = dr.v) ∨ ((∀ (j : Nat) (dr : DR), full[j]? = some dr → dr.dst ≠ some t) ∧ tm[t]? = some s)
  | [], tm, t, s, h => .inr ⟨fun j dr h => by simp at h, h⟩
  | x :: r, tm, t, s, h => by
    simp only [putAll] at h
    rcases putAll_get h with ⟨j, dr, h1, h2, h3, h4⟩ | ⟨h1, h2⟩
    · refine .inl ⟨j + 1, dr, by simpa using h1, h2, fun j' dr' hlt hj' => ?_, h4⟩
      cases j' with
      | zero => omega
      | succ j' => exact h3 j' dr' (by omega) (by simpa using hj')
    · by_cases hx : x.dst = some t
      · refine .inl ⟨0, x, by simp, hx, fun j' dr' hlt hj' => ?_, ?_⟩
        · cases j' with
          | zero => omega
          | succ j' => exact h1 j' dr' (by simpa using hj')
        · rw [hx] at h2
          simp only [putT, kSet_eq] at h2
          rw [List.getElem?_set_self'] at h2
          cases hh : tm[t]? with
          | none => simp [hh] at h2
          | some y => simp [hh] at h2; exact h2.symm
      · refine .inr ⟨fun j dr hj => ?_, ?_⟩
        · cases j with
          | zero => simp at hj; subst hj; exact hx
          | succ j => exact h1 j dr (by simpa using hj)
        · cases hd : x.dst with
          | none => rw [hd] at h2; exact h2
          | some t' =>
            rw [hd] at h2 hx
            simp only [putT, kSet_eq] at h2
            rw [List.getElem?_set_ne (fun e => hx (by rw [e]))] at h2
            exact h2
theorem putAll_length : ∀ (full : List DR) (tm : List SV), (putAll tm full).length = tm.length
  | [], tm => rfl
  | x :: r, tm => by
    simp only [putAll]
    rw [putAll_length r]
    cases x.dst <;> simp [putT, kSet_eq]

theorem Mid.rep {full : List DR} {d : Array Bool} {pc : PC} {KK : List Nat} (huse : UsesOk KK σ.nxt full) (hp : PcOk E pc) (hnd : noDup ops.toList = true) (hlim : σ.nxt + full.length * σ.sz ≤ σ.lim) (hd : ∀ j, Done d j ↔ j < full.length)
    (hdst : ∀ (k : Nat) (dr : DR), full[k]? = some dr → ∃ o, ops[k]? = some o ∧ dr.dst = o.dst) (h : Mid E β0 β w0 σ ops.toList full d a w) :
    RepS E β w0 { σ with tm := putAll σ.tm full, own := memAll (dropK KK σ.own) full, nxt := σ.nxt + full.length * σ.sz, pc := pc } a w := by
  obtain ⟨mem, hmem, hsub, hnb⟩ := h.own
  refine { tm := reps_iff.2 ⟨?_, fun t s hs => ?_⟩, df := h.df, own := hmem.sub fun x hx => ?_, fresh := h.rest, le := hlim, below := h.below, ro := h.ro, pc := hp }
  · rw [putAll_length, Array.length_toList]; exact h.tm.1
  · have hlt : t < a.tmps.size := by
      have := (List.getElem?_eq_some_iff.1 hs).1
      rw [putAll_length] at this
      rw [h.tm.1]; exact this
    refine ⟨a.tmps[t], by rw [Array.getElem?_toList]; exact Array.getElem?_eq_getElem hlt, ?_⟩
    rcases putAll_get hs with ⟨j, dr, h1, h2, _, rfl⟩ | ⟨h1, h2⟩
    · obtain ⟨o, ho, hod⟩ := hdst j dr h1
      have hw := writer_at hnd (by simpa using ho) (hod ▸ h2)
      have hjl := (List.getElem?_eq_some_iff.1 h1).1
      rcases h.tm.2 t _ (Array.getElem?_eq_getElem hlt) with ⟨j', dr', h3, _, h5, h6⟩ | ⟨h3, _⟩
      · rw [hw] at h3; cases h3
        rw [h1] at h5; cases h5
        exact h6
      · exact absurd ((hd j).2 hjl) (h3 j hw)
    · rcases h.tm.2 t _ (Array.getElem?_eq_getElem hlt) with ⟨j', dr', h3, h4, h5, _⟩ | ⟨_, h4⟩
      · obtain ⟨o, ho, hod⟩ := hdst j' dr' h5
        obtain ⟨_, o', ho', hd'⟩ := writer_some h3
        rw [Nat.sub_zero, Array.getElem?_toList, ho] at ho'
        cases ho'
        exact absurd (hod.trans hd') (h1 j' dr' h5)
      · rw [List.getD_eq_getElem?_getD, h2] at h4; exact h4
  · rcases memAll_mem hx with hx | ⟨j, dr, h1, h2⟩
    · obtain ⟨hx1, hx2⟩ := dropK_mem hx
      exact hsub x hx1 fun j dr _ hf hu => hx2 (huse.inK j dr _ hf hu).1
    · exact hnb j dr ((hd j).2 (List.getElem?_eq_some_iff.1 h1).1) h1 x h2

theorem mid_any (hH : HndOk P E H) (hN : Named P) (he : edgesOk ops.toList 0 = true) (hnd : noDup ops.toList = true) {full : List DR} {pc : PC} (hp : PcOk E pc) (hkn : full.length ≤ ops.size)
    (hk : sinksOk (ancs ops.toList []) full.length (ops.size - full.length) = true) {m : Mm} {KK : List Nat} (hm : m = ⟨dropK KK σ.own ++ σ.ro, σ.nxt, σ.lim, σ.sz⟩) (huse : UsesOk KK σ.nxt full) (hlim : σ.nxt + full.length * σ.sz ≤ σ.lim)
    (hfull : ∀ (k : Nat) (o : Oper), k < full.length → ops[k]? = some o → ∃ dr, full[k]? = some dr ∧ OpDone P E H ops.toList (ancs ops.toList []) σ.own m σ.tm (full.take k) k o dr)
    (hs : (seqOps H P ops.toList (ops.toList.drop full.length) { σ with tm := putAll σ.tm full, own := memAll (dropK KK σ.own) full, nxt := σ.nxt + full.length * σ.sz, pc := pc }).sel E = some σ') :
    ∀ (fuel : Nat) {d : Array Bool} {β : Pl} {a : Act} {w : World}, d.size = ops.size → undone d ops.size = fuel → Closed (ancs ops.toList []) d → (∀ j, Done d j → j < full.length) → Mid E β0 β w0 σ ops.toList full d a w →
      (∀ β' a' w', Ext β0 β' σ.nxt σ'.nxt → RepS E β' w0 σ' a' w' → Q .normal a' w') → wpAny P .any ops Q fuel d a w := by
  intro fuel
  induction fuel with
  | zero =>
    intro d β a w hd hu hc hlt hmid hQ
    have hall := undone_zero hu
    have hiff : ∀ j, Done d j ↔ j < full.length := fun j => ⟨hlt j, fun h => hall j (by omega)⟩
    have hkn' : full.length = ops.size := by
      have := undone_eq hiff ops.size
      omega
    exact seq_any hH hN he hk 0 full.length (by omega) (Nat.le_refl _) hd hiff (hmid.rep huse hp hnd hlim hiff (fun k dr h => by
      have hkl := (List.getElem?_eq_some_iff.1 h).1
      have ho : ops[k]? = some ops[k] := Array.getElem?_eq_getElem (by omega)
      obtain ⟨dr', h1, h2⟩ := hfull k _ hkl ho
      rw [h] at h1; cases h1
      exact ⟨_, ho, h2.dst⟩)) hs (fun β2 a2 w2 he2 hr2 => hQ β2 a2 w2 (Ext.trans hmid.ext he2) hr2)
  | succ fuel ih =>
    intro d β a w hd hu hc hlt hmid hQ
    by_cases hall : ∀ j, j < full.length → Done d j
    · have hiff : ∀ j, Done d j ↔ j < full.length := fun j => ⟨hlt j, hall j⟩
      have := undone_eq hiff ops.size
      exact seq_any hH hN he hk (fuel + 1) full.length (by omega) (Nat.le_refl _) hd hiff (hmid.rep huse hp hnd hlim hiff (fun k dr h => by
        have hkl := (List.getElem?_eq_some_iff.1 h).1
        have ho : ops[k]? = some ops[k] := Array.getElem?_eq_getElem (by omega)
        obtain ⟨dr', h1, h2⟩ := hfull k _ hkl ho
        rw [h] at h1; cases h1
        exact ⟨_, ho, h2.dst⟩)) hs (fun β2 a2 w2 he2 hr2 => hQ β2 a2 w2 (Ext.trans hmid.ext he2) hr2)
    · simp only [Classical.not_forall] at hall
      obtain ⟨j, hj, hjn⟩ := hall
      refine ⟨fun hnil => absurd hnil (ready_some hd he (j := j) (by omega) hjn), fun i hi => ?_⟩
      obtain ⟨o, ho, hndi, _⟩ := (ready_iff hd).1 hi
      have hin := (Array.getElem?_eq_some_iff.1 ho).1
      have hil : i < full.length := by
        rcases Nat.lt_or_ge i full.length with h | h
        · exact h
        · exact absurd (ready_anc hd he hc hi (sinks_bit hk i h (by omega) j (by omega))) hjn
      refine hmid.step hH hN he hnd hm huse hlim hfull hd hc hil hi _ Q fun β' a' w' hmid' => ?_
      refine ih (by simpa using hd) ?_ (closed_set (by omega) hc (fun q hq => ready_anc hd he hc hi hq)) (fun q hq => ?_) hmid' hQ
      · have := (undone_set (by omega : i < d.size) hndi ops.size).2 hin
        omega
      · rcases (done_set (by omega)).1 hq with rfl | hq
        · exact hil
        · exact hlt q hq

/-! A store that doesn't wait for operations that only take a part of a tuple -/
theorem looseX_eq {o : Oper} {d t : Tmp} (h : looseX o = some (d, t)) : o.guard = none ∧ o.dst = some d ∧ ∃ i, o.op = .extract (.tmp t) i := by
  unfold looseX at h
  split at h
  · rename_i h1 h2 h3
    cases h
    exact ⟨h1, h2, _, h3⟩
  · cases h
theorem looseAll_at {l : List Oper} {x : Nat} {f : Tmp × Tmp → Bool} : ∀ {n : Nat}, looseAll l x f n = true → ∀ q, q < n → x.testBit q = false → ∃ o d t, l[q]? = some o ∧ looseX o = some (d, t) ∧ f (d, t) = true
  | 0, _, q, hq, _ => by omega
  | n + 1, h, q, hq, hb => by
    simp only [looseAll] at h
    split at h
    · rename_i hn
      rcases Nat.lt_or_ge q n with hlt | hge
      · exact looseAll_at h q hlt hb
      · have : q = n := by omega
        subst this
        rw [hn] at hb; cases hb
    · split at h
      · rename_i y hy
        split at h
        · rename_i hf
          rcases Nat.lt_or_ge q n with hlt | hge
          · exact looseAll_at h q hlt hb
          · have : q = n := by omega
            subst this
            unfold looseAt at hy
            rw [nth?_get] at hy
            split at hy
            · rename_i o ho
              exact ⟨o, y.1, y.2, ho, hy, hf⟩
            · cases hy
        · cases h
      · cases h
theorem storeFree_eq {o : Oper} {d : Tmp} (h : storeFree o d = true) : o.guard = none ∧ o.dst = none ∧ ∃ t x y, o.op = .store t x y ∧ x ≠ .tmp d ∧ y ≠ .tmp d := by
  unfold storeFree at h
  split at h
  · rename_i h1 h2 h3
    split at h
    · rename_i h4 h5
      refine ⟨h1, h2, _, _, _, h3, ?_, ?_⟩
      · rintro rfl; simp [readsT] at h4
      · rintro rfl; simp [readsT] at h5
    · cases h
  · cases h

/-- What is still to be done to 'a' to make it 'b': the parts that are not yet taken, of those before place n. -/
structure Rl (ops : Array Oper) (n : Nat) (d : Array Bool) (a b : Act) : Prop where
  size : a.tmps.size = b.tmps.size
  df : a.defers = b.defers
  same : ∀ t : Nat, (∀ j o, j < n → ¬ Done d j → ops[j]? = some o → o.dst ≠ some t) → a.tmps[t]? = b.tmps[t]?
  val : ∀ j o, j < n → ¬ Done d j → ops[j]? = some o → ∃ x i t vs v, o.op = .extract (.tmp x) i ∧ o.guard = none ∧ o.dst = some t ∧ a.eval (.tmp x) = .tuple vs ∧ vs[i]? = some v ∧ (t < b.tmps.size → b.tmps[t]? = some v)

theorem extract_run (P : Program) (w : World) {o : Oper} {x : Operand} {i : Nat} (ho : o.op = .extract x i) (ρ : Operand → Value) {vs : Array Value} {v : Value} (hx : ρ x = .tuple vs) (hv : vs[i]? = some v) :
    (execOp ρ o).run P w = .ok (.value v) w := by
  simp only [execOp, ho, Instr.extract, hx, hv, Sem.run_bind, Sem.run_pure, Result.andThen_ok]
theorem eval_put_ne {a : Act} {t t' : Tmp} (h : t' ≠ t) (v : Value) : (a.put (some t) v).eval (.tmp t') = a.eval (.tmp t') := by
  simp only [Act.eval, Act.put, Array.getD_eq_getD_getElem?, Array.getElem?_setIfInBounds]
  rw [if_neg (fun e => h e.symm)]
/-- One part is taken. -/
theorem Rl.step {n : Nat} {d : Array Bool} {b : Act} (h : Rl ops n d a b) (hnd : noDup ops.toList = true) (hsrc : ∀ j j' o o' x i t, j < n → j' < n → ¬ Done d j → ¬ Done d j' → ops[j]? = some o → ops[j']? = some o' → o.op = .extract (.tmp x) i → o'.dst = some t → x ≠ t)
    {i : Nat} {o : Oper} (hid : i < d.size) (hi : i < n) (hndi : ¬ Done d i) (ho : ops[i]? = some o) :
    ∃ v, (∀ (P : Program) (w : World), (execOp a.eval o).run P w = .ok (.value v) w) ∧ o.guard = none ∧ Rl ops n (d.setIfInBounds i true) (a.put o.dst v) b := by
  obtain ⟨x, k, t, vs, v, h1, h2, h3, h4, h5, h6⟩ := h.val i o hi hndi ho
  have hund : ∀ j, ¬ Done (d.setIfInBounds i true) j → ¬ Done d j ∧ j ≠ i := fun j hj => ⟨fun e => hj ((done_set hid).2 (.inr e)), fun e => hj ((done_set hid).2 (.inl e))⟩
  refine ⟨v, fun P w => extract_run P w h1 a.eval h4 h5, h2, ⟨?_, (put_defers a _ _).trans h.df, fun t' ht' => ?_, fun j o' hj hdj hoj => ?_⟩⟩
  · rw [h3]; simp [Act.put, h.size]
  · rw [h3]
    simp only [Act.put, Array.getElem?_setIfInBounds]
    split
    · rename_i e
      subst e
      rw [h.size]
      split
      · rename_i hlt; exact (h6 hlt).symm
      · rename_i hlt; exact (Array.getElem?_eq_none (by omega)).symm
    · rename_i hne
      refine h.same t' fun j o' hj hdj hoj => ?_
      by_cases hji : j = i
      · subst hji
        rw [ho] at hoj; cases hoj
        rw [h3]; exact fun e => hne (Option.some.inj e)
      · exact ht' j o' hj (fun e => by rcases (done_set hid).1 e with e | e
                                       · exact hji e
                                       · exact hdj e) hoj
  · obtain ⟨hdj', hji⟩ := hund j hdj
    obtain ⟨x', k', t', vs', v', g1, g2, g3, g4, g5, g6⟩ := h.val j o' hj hdj' hoj
    refine ⟨x', k', t', vs', v', g1, g2, g3, ?_, g5, g6⟩
    rw [h3, eval_put_ne (hsrc j i o' o x' k' t hj hi hdj' hndi hoj ho g1 h3)]
    exact g4
theorem Rl.done {n : Nat} {d : Array Bool} {b : Act} (h : Rl ops n d a b) (hd : ∀ j, j < n → Done d j) : a = b := by
  obtain ⟨ta, da⟩ := a
  obtain ⟨tb, db⟩ := b
  have h1 : ta = tb := Array.ext_getElem? fun t => h.same t fun j o hj hnj _ => absurd (hd j hj) hnj
  have h2 : da = db := h.df
  rw [h1, h2]

theorem assignFree_eq {o : Oper} {d t : Tmp} (h : assignFree o d t = true) : o.guard = none ∧ ∃ e x, o.dst = some e ∧ o.op = .assign x ∧ x ≠ .tmp d ∧ e ≠ t := by
  unfold assignFree at h
  split at h
  · rename_i e x h1 h2 h3
    split at h
    · rename_i h4 h5
      refine ⟨h1, e, x, h2, h3, ?_, fun e => by subst e; simp at h5⟩
      rintro rfl; simp [readsT] at h4
    · cases h
  · cases h
theorem sinksM_at {l : List Oper} {as : List Nat} {n : Nat} : ∀ {i m : Nat}, sinksM l as n i m = true → n ≤ i → ∀ k, i ≤ k → k < i + m →
    (∀ q, n ≤ q → q < k → (anc as k).testBit q = true) ∧ ∃ o, l[k]? = some o ∧ looseAll l (anc as k) (fun x => assignFree o x.1 x.2) n = true
  | i, m + 1, h, hn, k, hk1, hk2 => by
    simp only [sinksM] at h
    split at h
    · rename_i hb
      split at h
      · rename_i o ho
        split at h
        · rename_i hl
          by_cases hki : k = i
          · subst hki
            refine ⟨fun q h1 h2 => ?_, o, by rw [nth?_get] at ho; exact ho, hl⟩
            have hb' := Nat.eq_of_beq_eq_true hb
            have h3 : ((anc as k) / 2 ^ n % 2 ^ (k - n)).testBit (q - n) = true := by
              show (((nth? as k).getD 0) / 2 ^ n % 2 ^ (k - n)).testBit (q - n) = true
              rw [hb', Nat.testBit_two_pow_sub_one]
              exact decide_eq_true (by omega)
            rw [Nat.testBit_mod_two_pow, Nat.testBit_div_two_pow, Bool.and_eq_true] at h3
            rw [show q - n + n = q by omega] at h3
            exact h3.2
          · exact sinksM_at h (by omega) k (by omega) (by omega)
        · cases h
      · cases h
    · cases h
  | i, 0, _, _, k, hk1, hk2 => absurd hk2 (by omega)
theorem sinksM_drop {l : List Oper} {as : List Nat} {n i m : Nat} (h : sinksM l as n i (m + 1) = true) : sinksM l as n (i + 1) m = true := by
  simp only [sinksM] at h
  split at h
  · split at h
    · split at h
      · exact h
      · cases h
    · cases h
  · cases h
theorem assign_run (P : Program) (w : World) {o : Oper} {x : Operand} (ho : o.op = .assign x) (ρ : Operand → Value) : (execOp ρ o).run P w = .ok (.value (ρ x)) w := by
  simp only [execOp, ho, Sem.run_pure]
theorem eval_rl {n : Nat} {d : Array Bool} {a b : Act} (h : Rl ops n d a b) {x : Operand} (hx : ∀ j o t, j < n → ¬ Done d j → ops[j]? = some o → o.dst = some t → x ≠ .tmp t) : a.eval x = b.eval x := by
  cases x with
  | tmp t =>
    have := h.same t fun j o hj hnj ho e => hx j o t hj hnj ho e rfl
    simp only [Act.eval, Array.getD_eq_getD_getElem?, this]
  | const v => rfl
  | global g => rfl
  | func f => rfl
/-- Behind the store: the rest of the parts are taken, and the sinks follow. -/
theorem loose_rest (hH : HndOk P E H) (hN : Named P) (he : edgesOk ops.toList 0 = true) (hnd : noDup ops.toList = true) {n : Nat} :
    ∀ (fuel k : Nat), n < k → k ≤ ops.size → sinksM ops.toList (ancs ops.toList []) n k (ops.size - k) = true → ∀ {σ : St} {β : Pl} {w : World} {b : Act}, RepS E β w0 σ b w → (seqOps H P ops.toList (ops.toList.drop k) σ).sel E = some σ' → (∀ β' a' w', Ext β β' σ.nxt σ'.nxt → RepS E β' w0 σ' a' w' → Q .normal a' w') →
      ∀ {d : Array Bool} {a : Act}, d.size = ops.size → undone d ops.size = fuel → Closed (ancs ops.toList []) d → (∀ j, Done d j → j < k) → (∀ j, n ≤ j → j < k → Done d j) →
      (∀ j j' o o' x i t, j < n → j' < n → ¬ Done d j → ¬ Done d j' → ops[j]? = some o → ops[j']? = some o' → o.op = .extract (.tmp x) i → o'.dst = some t → x ≠ t) →
      Rl ops n d a b → wpAny P .any ops Q fuel d a w := by
  intro fuel
  induction fuel with
  | zero =>
    intro k hnk hks hM σ β w b h hs hQ d a hd hu hc hlt hdn hsrc hR
    have hall := undone_zero hu
    have e := hR.done fun j hj => hall j (by omega)
    subst e
    have hk : k = ops.size := by
      rcases Nat.lt_or_ge k ops.size with h1 | h1
      · have := hlt k (hall k h1); omega
      · omega
    have hiff : ∀ j, Done d j ↔ j < k := fun j => ⟨hlt j, fun h => hall j (by omega)⟩
    have := undone_eq hiff ops.size
    exact seq_any (kk := k) hH hN he (by rw [hk, Nat.sub_self]; rfl) 0 k (by omega) (Nat.le_refl _) hd hiff h hs hQ
  | succ fuel ih =>
    intro k hnk hks hM σ β w b h hs hQ d a hd hu hc hlt hdn hsrc hR
    have hex : ∃ j, j < ops.size ∧ ¬ Done d j := by
      refine Classical.byContradiction fun hno => ?_
      have hall : ∀ j, j < ops.size → Done d j := fun j hj => Classical.byContradiction fun hnj => hno ⟨j, hj, hnj⟩
      have hiff : ∀ j, Done d j ↔ j < ops.size := fun j => ⟨fun h => by have := hlt j h; omega, hall j⟩
      have := undone_eq hiff ops.size
      omega
    obtain ⟨j0, hj0, hnj0⟩ := hex
    refine ⟨fun hnil => absurd hnil (ready_some hd he (j := j0) hj0 hnj0), fun i hi => ?_⟩
    obtain ⟨o, ho, hndi, _⟩ := (ready_iff hd).1 hi
    have hin := (Array.getElem?_eq_some_iff.1 ho).1
    have hund : ∀ q, ¬ Done (d.setIfInBounds i true) q → ¬ Done d q := fun q hq e => hq ((done_set (by omega)).2 (.inr e))
    have hcl := closed_set (d := d) (i := i) (by omega) hc (fun q hq => ready_anc hd he hc hi hq)
    have hun : undone (d.setIfInBounds i true) ops.size = fuel := by
      have := (undone_set (by omega : i < d.size) hndi ops.size).2 hin
      omega
    rcases Nat.lt_or_ge i n with hil | hil
    · obtain ⟨v, h1, h2, h3⟩ := hR.step hnd hsrc (by omega) hil hndi ho
      unfold wpOp
      have hw : Region.wanted o (yielded ops a.tmps) = true := by unfold Region.wanted; rw [h2]
      simp only [ho, hw, if_true]
      left
      unfold Oper.wp
      rw [h1 P w]
      refine ih k hnk hks hM h hs hQ (by simpa using hd) hun hcl (fun q hq => ?_) (fun q hq1 hq2 => (done_set (by omega)).2 (.inr (hdn q hq1 hq2))) (fun p p' o1 o2 x k t g1 g2 g3 g4 => hsrc p p' o1 o2 x k t g1 g2 (hund p g3) (hund p' g4)) h3
      rcases (done_set (by omega)).1 hq with rfl | hq
      · omega
      · exact hlt q hq
    · have hik : i = k := by
        rcases Nat.lt_or_ge i k with h1 | h1
        · exact absurd (hdn i hil h1) hndi
        · rcases Nat.lt_or_ge k i with h2 | h2
          · have hb := (sinksM_at hM (by omega) i (by omega) (by omega)).1 k (by omega) h2
            have := hlt k (ready_anc hd he hc hi hb)
            omega
          · omega
      subst hik
      obtain ⟨m, hm⟩ : ∃ m, ops.size - i = m + 1 := ⟨ops.size - i - 1, by omega⟩
      have hM' : sinksM ops.toList (ancs ops.toList []) n (i + 1) (ops.size - (i + 1)) = true := by
        rw [show ops.size - (i + 1) = m by omega]
        rw [hm] at hM
        exact sinksM_drop hM
      obtain ⟨_, o', ho', hloose⟩ := sinksM_at hM (by omega) i (Nat.le_refl _) (by omega)
      have eo : o' = o := by
        rw [Array.getElem?_toList, ho] at ho'
        exact (Option.some.inj ho').symm
      subst eo
      have hdrop : ops.toList.drop i = o' :: ops.toList.drop (i + 1) := by
        rw [List.drop_eq_getElem_cons (by simpa using hin)]
        congr 1
        rw [Array.getElem_toList]
        rw [Array.getElem?_eq_getElem hin] at ho
        exact Option.some.inj ho
      rw [hdrop] at hs
      simp only [seqOps, fList_eq] at hs
      obtain ⟨σ1, hs1, hs2⟩ := Out.sel_bind_some hs
      have hlt' : ∀ q, Done (d.setIfInBounds i true) q → q < i + 1 := fun q hq => by
        rcases (done_set (by omega)).1 hq with rfl | hq
        · omega
        · have := hlt q hq; omega
      have hdn' : ∀ q, n ≤ q → q < i + 1 → Done (d.setIfInBounds i true) q := fun q h1 h2 => by
        rcases Nat.lt_or_ge q i with h3 | h3
        · exact (done_set (by omega)).2 (.inr (hdn q h1 h3))
        · exact (done_set (by omega)).2 (.inl (by omega))
      have hsrc' : ∀ j j' o o' x k t, j < n → j' < n → ¬ Done (d.setIfInBounds i true) j → ¬ Done (d.setIfInBounds i true) j' → ops[j]? = some o → ops[j']? = some o' → o.op = .extract (.tmp x) k → o'.dst = some t → x ≠ t :=
        fun p p' o1 o2 x k t g1 g2 g3 g4 => hsrc p p' o1 o2 x k t g1 g2 (hund p g3) (hund p' g4)
      by_cases hall : ∀ j, j < n → Done d j
      · have e := hR.done hall
        subst e
        refine stepG_wp hH hN ho h hs1 _ Q fun β' a' w' hle hr => ?_
        exact ih (i + 1) (by omega) (by omega) hM' hr hs2 (fun β2 a2 w2 hle2 hrep2 => hQ β2 a2 w2 (Ext.trans hle hle2) hrep2) (by simpa using hd) hun hcl hlt' hdn' hsrc'
          ⟨rfl, rfl, fun _ _ => rfl, fun j o hj hnj => absurd (hall j hj) (hund j hnj)⟩
      · simp only [Classical.not_forall] at hall
        obtain ⟨q0, hq0, hnq0⟩ := hall
        have hbits : ∀ q, q < n → ¬ Done d q → (anc (ancs ops.toList []) i).testBit q = false := fun q hq hnq => by
          cases hb : (anc (ancs ops.toList []) i).testBit q
          · rfl
          · exact absurd (ready_anc hd he hc hi hb) hnq
        have hfree : ∀ q, q < n → ¬ Done d q → ∃ o2 x t, ops[q]? = some o2 ∧ looseX o2 = some (t, x) ∧ assignFree o' t x = true := fun q hq hnq => by
          obtain ⟨o2, t, x, h1, h2, h3⟩ := looseAll_at hloose q hq (hbits q hq hnq)
          exact ⟨o2, x, t, by simpa using h1, h2, h3⟩
        obtain ⟨_, _, _, _, _, haf⟩ := hfree q0 hq0 hnq0
        obtain ⟨hg, e, y, hdst, hop, _, _⟩ := assignFree_eq haf
        have hone : ∀ j o2, j < n → ¬ Done d j → ops[j]? = some o2 → ∀ t, o2.dst = some t → y ≠ .tmp t ∧ e ≠ t ∧ ∀ x k, o2.op = .extract (.tmp x) k → e ≠ x := by
          intro j o2 hj hnj h1 t h2
          obtain ⟨o3, x3, t3, k1, k2, k3⟩ := hfree j hj hnj
          rw [h1] at k1; cases k1
          obtain ⟨_, k4, _, k5⟩ := looseX_eq k2
          rw [h2] at k4; cases k4
          obtain ⟨_, e', y', g1, g2, g3, g4⟩ := assignFree_eq k3
          rw [hdst] at g1; cases g1
          rw [hop] at g2; cases g2
          refine ⟨g3, fun et => ?_, fun x k hx => ?_⟩
          · subst et
            have w1 := writer_at hnd (i := j) (by simpa using h1) h2
            have w2 := writer_at hnd (i := i) (by simpa using ho) hdst
            rw [w1] at w2
            have := Option.some.inj w2
            omega
          · rw [hx] at k5; cases k5
            exact g4
        have hev : a.eval y = b.eval y := eval_rl hR fun j o2 t h1 h2 h3 h4 => (hone j o2 h1 h2 h3 t h4).1
        have hstep := stepG_wp hH hN ho h hs1 (fun a' w' => ∃ β', Ext β β' σ.nxt σ1.nxt ∧ RepS E β' w0 σ1 a' w') (fun _ _ _ => False) (fun β' a' w' hle hr => ⟨β', hle, hr⟩)
        have hw : ∀ a : Act, Region.wanted o' (yielded ops a.tmps) = true := fun a => by unfold Region.wanted; rw [hg]
        unfold wpOp at hstep ⊢
        simp only [ho, hw, if_true] at hstep ⊢
        rcases hstep with hstep | ⟨_, _, _, hf⟩
        · left
          unfold Oper.wp at hstep ⊢
          rw [assign_run P w hop] at hstep ⊢
          simp only [Oper.upon, hdst] at hstep ⊢
          obtain ⟨β2, hle, hr⟩ := hstep
          rw [hev]
          refine ih (i + 1) (by omega) (by omega) hM' hr hs2 (fun β3 a3 w3 hle3 hr3 => hQ β3 a3 w3 (Ext.trans hle hle3) hr3) (by simpa using hd) hun hcl hlt' hdn' hsrc' ⟨?_, ?_, fun t ht => ?_, fun j o2 hj hnj hoj => ?_⟩
          · simp [Act.put, hR.size]
          · rw [put_defers, put_defers]; exact hR.df
          · have hs0 : a.tmps[t]? = b.tmps[t]? := hR.same t fun j o2 hj hnj hoj => ht j o2 hj (fun hdj => by
              rcases (done_set (by omega)).1 hdj with rfl | hdj
              · omega
              · exact hnj hdj) hoj
            simp only [Act.put, Array.getElem?_setIfInBounds, hR.size, hs0]
          · obtain ⟨x, k, t, vs, v, g1, g2, g3, g4, g5, g6⟩ := hR.val j o2 hj (hund j hnj) hoj
            obtain ⟨_, p2, p3⟩ := hone j o2 hj (hund j hnj) hoj t g3
            refine ⟨x, k, t, vs, v, g1, g2, g3, ?_, g5, fun htl => ?_⟩
            · rw [eval_put_ne (fun e' => p3 x k g1 e'.symm)]
              exact g4
            · simp only [Act.put, Array.getElem?_setIfInBounds]
              rw [if_neg p2]
              exact g6 (by simpa [Act.put] using htl)
        · exact hf.elim

/-- Before the store: what it will be when the rest of the parts are taken. -/
theorem loose_pre (hH : HndOk P E H) (hN : Named P) (he : edgesOk ops.toList 0 = true) (hnd : noDup ops.toList = true) {full : List DR} (hkn : full.length ≤ ops.size) {m : Mm} {KK : List Nat} (hm : m = ⟨dropK KK σ.own ++ σ.ro, σ.nxt, σ.lim, σ.sz⟩) (huse : UsesOk KK σ.nxt full) (hlim : σ.nxt + full.length * σ.sz ≤ σ.lim)
    (hfull : ∀ (k : Nat) (o : Oper), k < full.length → ops[k]? = some o → ∃ dr, full[k]? = some dr ∧ OpDone P E H ops.toList (ancs ops.toList []) σ.own m σ.tm (full.take k) k o dr) :
    ∀ (fuel : Nat) {d : Array Bool} {β : Pl} {a : Act}, d.size = ops.size → undone d ops.size = fuel → Closed (ancs ops.toList []) d → (∀ j, Done d j → j < full.length) → Mid E β0 β w0 σ ops.toList full d a w →
      (∀ j, j < full.length → ¬ Done d j → ∃ o x t, ops[j]? = some o ∧ looseX o = some (t, x)) →
      (∀ j j' o o' x i t, j < full.length → j' < full.length → ¬ Done d j → ¬ Done d j' → ops[j]? = some o → ops[j']? = some o' → o.op = .extract (.tmp x) i → o'.dst = some t → x ≠ t) →
      ∃ d' β' b, d'.size = ops.size ∧ (∀ j, Done d' j ↔ j < full.length) ∧ Mid E β0 β' w0 σ ops.toList full d' b w ∧ Rl ops full.length d a b := by
  intro fuel
  induction fuel with
  | zero =>
    intro d β a hd hu hc hlt hmid hl hsrc
    have hall := undone_zero hu
    have hiff : ∀ j, Done d j ↔ j < full.length := fun j => ⟨hlt j, fun h => hall j (by omega)⟩
    exact ⟨d, β, a, hd, hiff, hmid, rfl, rfl, fun _ _ => rfl, fun j o hj hnj _ => absurd ((hiff j).2 hj) hnj⟩
  | succ fuel ih =>
    intro d β a hd hu hc hlt hmid hl hsrc
    by_cases hall : ∀ j, j < full.length → Done d j
    · have hiff : ∀ j, Done d j ↔ j < full.length := fun j => ⟨hlt j, hall j⟩
      exact ⟨d, β, a, hd, hiff, hmid, rfl, rfl, fun _ _ => rfl, fun j o hj hnj _ => absurd ((hiff j).2 hj) hnj⟩
    · simp only [Classical.not_forall] at hall
      obtain ⟨j0, hj0, hjn0⟩ := hall
      -- the least that is not done
      have hleast : ∃ k, k < full.length ∧ ¬ Done d k ∧ ∀ q, q < k → Done d q := by
        induction j0 using Nat.strongRecOn with
        | _ j ihj =>
          by_cases h : ∀ q, q < j → Done d q
          · exact ⟨j, hj0, hjn0, h⟩
          · simp only [Classical.not_forall] at h
            obtain ⟨q, hq, hnq⟩ := h
            exact ihj q hq (by omega) hnq
      obtain ⟨k, hk, hnk, hbefore⟩ := hleast
      obtain ⟨o, x, t, ho, hx⟩ := hl k hk hnk
      obtain ⟨hgd, hdst, i, hop⟩ := looseX_eq hx
      have hkd : k < d.size := by omega
      have hready : k ∈ Region.ready .any ops d := (ready_iff hd).2 ⟨o, ho, hnk, fun e hm hb => hbefore _ (edges_lt he (by simpa using ho) hm hb)⟩
      have hstep := hmid.step (a := a) hH hN he hnd hm huse hlim hfull hd hc hk hready (fun a' w' => ∃ β', Mid E β0 β' w0 σ ops.toList full (d.setIfInBounds k true) a' w') (fun _ _ _ => False) (fun β' a' w' h => ⟨β', h⟩)
      unfold wpOp at hstep
      have hw : Region.wanted o (yielded ops a.tmps) = true := by unfold Region.wanted; rw [hgd]
      simp only [ho, hw, if_true] at hstep
      rcases hstep with hstep | ⟨_, _, _, hf⟩
      · -- what the slot holds
        have hrun : ∃ vs v, a.eval (.tmp x) = .tuple vs ∧ vs[i]? = some v ∧ ∃ β', Mid E β0 β' w0 σ ops.toList full (d.setIfInBounds k true) (a.put o.dst v) w := by
          unfold Oper.wp at hstep
          simp only [execOp, hop, Instr.extract] at hstep
          split at hstep
          · rename_i vs hvs
            split at hstep
            · rename_i v hv
              simp only [Sem.run_bind, Sem.run_pure, Result.andThen_ok] at hstep
              exact ⟨vs, v, hvs, hv, hstep⟩
            · simp [stuck, Oper.upon] at hstep
          · simp [stuck, Oper.upon] at hstep
        obtain ⟨vs, v, hvs, hv, β', hmid'⟩ := hrun
        have hund : ∀ q, ¬ Done (d.setIfInBounds k true) q → ¬ Done d q := fun q hq e => hq ((done_set hkd).2 (.inr e))
        obtain ⟨d', β2, b, g1, g2, g3, g4⟩ := ih (a := a.put o.dst v) (by simpa using hd) (by
            have := (undone_set hkd hnk ops.size).2 (by omega)
            omega) (closed_set hkd hc (fun q hq => ready_anc hd he hc hready hq)) (fun q hq => by
            rcases (done_set hkd).1 hq with rfl | hq
            · exact hk
            · exact hlt q hq) hmid' (fun q hq hnq => hl q hq (hund q hnq)) (fun p p' o1 o2 x k t g1 g2 g3 g4 => hsrc p p' o1 o2 x k t g1 g2 (hund p g3) (hund p' g4))
        refine ⟨d', β2, b, g1, g2, g3, ?_⟩
        have hother : ∀ q o', q < full.length → ¬ Done d q → q ≠ k → ops[q]? = some o' → o'.dst ≠ some t := fun q o' _ _ hqk hoq e => by
          have e1 := writer_at hnd (by simpa using hoq) e
          have e2 := writer_at hnd (by simpa using ho) hdst
          rw [e1] at e2
          exact hqk (Option.some.inj e2)
        have hsz : a.tmps.size = b.tmps.size := by have := g4.size; rw [hdst] at this; simpa [Act.put] using this
        have keep : ∀ t' : Nat, t' ≠ t → (a.put o.dst v).tmps[t']? = a.tmps[t']? := fun t' hne => by
          rw [hdst]
          simp only [Act.put, Array.getElem?_setIfInBounds]
          rw [if_neg (fun e => hne e.symm)]
        refine ⟨hsz, ((put_defers a _ _).symm).trans g4.df, fun t' ht' => ?_, fun q o' hq hnq hoq => ?_⟩
        · have hne : t' ≠ t := fun e => ht' k o hk hnk ho (by rw [hdst, e])
          rw [← keep t' hne]
          exact g4.same t' fun j o' hj hnj hoj => ht' j o' hj (hund j hnj) hoj
        · by_cases hqk : q = k
          · subst hqk
            rw [ho] at hoq; cases hoq
            refine ⟨x, i, t, vs, v, hop, hgd, hdst, hvs, hv, fun hlt => ?_⟩
            rw [← g4.same t (fun j o' hj hnj hoj => hother j o' hj (hund j hnj) (fun e => hnj ((done_set hkd).2 (.inl e))) hoj)]
            rw [hdst]
            simp only [Act.put, Array.getElem?_setIfInBounds]
            simp [hsz, hlt]
          · obtain ⟨x', i', t', vs', v', e1, e2, e3, e4, e5, e6⟩ := g4.val q o' hq (fun e => by
              rcases (done_set hkd).1 e with e | e
              · exact hqk e
              · exact hnq e) hoq
            refine ⟨x', i', t', vs', v', e1, e2, e3, ?_, e5, e6⟩
            rw [hdst, eval_put_ne (hsrc q k o' o x' i' t hq hk hnq hnk hoq ho e1 hdst)] at e4
            exact e4
      · exact hf.elim

theorem mid_loose (hH : HndOk P E H) (hN : Named P) (he : edgesOk ops.toList 0 = true) (hnd : noDup ops.toList = true) {full : List DR} {pc : PC} (hp : PcOk E pc) (hkn : full.length < ops.size)
    (hk : sinksM ops.toList (ancs ops.toList []) full.length (full.length + 1) (ops.size - (full.length + 1)) = true) (hl : looseOk ops.toList (ancs ops.toList []) full.length = true) {m : Mm} {KK : List Nat} (hm : m = ⟨dropK KK σ.own ++ σ.ro, σ.nxt, σ.lim, σ.sz⟩) (huse : UsesOk KK σ.nxt full) (hlim : σ.nxt + full.length * σ.sz ≤ σ.lim)
    (hfull : ∀ (k : Nat) (o : Oper), k < full.length → ops[k]? = some o → ∃ dr, full[k]? = some dr ∧ OpDone P E H ops.toList (ancs ops.toList []) σ.own m σ.tm (full.take k) k o dr)
    (hs : (seqOps H P ops.toList (ops.toList.drop full.length) { σ with tm := putAll σ.tm full, own := memAll (dropK KK σ.own) full, nxt := σ.nxt + full.length * σ.sz, pc := pc }).sel E = some σ') :
    ∀ (fuel : Nat) {d : Array Bool} {β : Pl} {a : Act} {w : World}, d.size = ops.size → undone d ops.size = fuel → Closed (ancs ops.toList []) d → (∀ j, Done d j → j < full.length) → Mid E β0 β w0 σ ops.toList full d a w →
      (∀ β' a' w', Ext β0 β' σ.nxt σ'.nxt → RepS E β' w0 σ' a' w' → Q .normal a' w') → wpAny P .any ops Q fuel d a w := by
  intro fuel
  induction fuel with
  | zero =>
    intro d β a w hd hu hc hlt hmid hQ
    have := hlt full.length (undone_zero hu _ hkn)
    omega
  | succ fuel ih =>
    intro d β a w hd hu hc hlt hmid hQ
    have hnn : ¬ Done d full.length := fun h => by have := hlt _ h; omega
    refine ⟨fun hnil => absurd hnil (ready_some hd he (j := full.length) hkn hnn), fun i hi => ?_⟩
    obtain ⟨o, ho, hndi, _⟩ := (ready_iff hd).1 hi
    have hin := (Array.getElem?_eq_some_iff.1 ho).1
    rcases Nat.lt_or_ge i full.length with hil | hil
    · refine hmid.step hH hN he hnd hm huse hlim hfull hd hc hil hi _ Q fun β' a' w' hmid' => ?_
      refine ih (by simpa using hd) ?_ (closed_set (by omega) hc (fun q hq => ready_anc hd he hc hi hq)) (fun q hq => ?_) hmid' hQ
      · have := (undone_set (by omega : i < d.size) hndi ops.size).2 hin
        omega
      · rcases (done_set (by omega)).1 hq with rfl | hq
        · exact hil
        · exact hlt q hq
    · have hin' : i = full.length := by
        rcases Nat.lt_or_ge full.length i with h2 | h2
        · exact absurd (ready_anc hd he hc hi ((sinksM_at hk (by omega) i h2 (by omega)).1 full.length (Nat.le_refl _) h2)) hnn
        · omega
      subst hin'
      -- the store comes up
      unfold looseOk at hl
      rw [nth?_get, Array.getElem?_toList, ho] at hl
      simp only at hl
      have hbits : ∀ q, q < full.length → ¬ Done d q → (anc (ancs ops.toList []) full.length).testBit q = false := fun q hq hnq => by
        cases hb : (anc (ancs ops.toList []) full.length).testBit q
        · rfl
        · exact absurd (ready_anc hd he hc hi hb) hnq
      have hloose : ∀ q, q < full.length → ¬ Done d q → ∃ o' x t, ops[q]? = some o' ∧ looseX o' = some (t, x) ∧ storeFree o t = true ∧
          (∀ p, p < full.length → ¬ Done d p → ∃ o2 x2 t2, ops[p]? = some o2 ∧ looseX o2 = some (t2, x2) ∧ x2 ≠ t) := fun q hq hnq => by
        obtain ⟨o', t, x, h1, h2, h3⟩ := looseAll_at hl q hq (hbits q hq hnq)
        split at h3
        · rename_i hsf
          refine ⟨o', x, t, by simpa using h1, h2, hsf, fun p hp hnp => ?_⟩
          obtain ⟨o2, t2, x2, g1, g2, g3⟩ := looseAll_at h3 p hp (hbits p hp hnp)
          refine ⟨o2, x2, t2, by simpa using g1, g2, fun e => ?_⟩
          subst e
          simp at g3
        · cases h3
      have hsrc : ∀ j j' o o' x i t, j < full.length → j' < full.length → ¬ Done d j → ¬ Done d j' → ops[j]? = some o → ops[j']? = some o' → o.op = .extract (.tmp x) i → o'.dst = some t → x ≠ t := by
        intro j j' o1 o2 x k t hj hj' hnj hnj' h1 h2 h3 h4
        obtain ⟨o2', x2, t2, g1, g2, _, g4⟩ := hloose j' hj' hnj'
        rw [h2] at g1; cases g1
        obtain ⟨_, g5, _⟩ := looseX_eq g2
        rw [h4] at g5; cases g5
        obtain ⟨o1', x1, t1, k1, k2, k3⟩ := g4 j hj hnj
        rw [h1] at k1; cases k1
        obtain ⟨_, _, k4, k5⟩ := looseX_eq k2
        rw [h3] at k5; cases k5
        exact k3
      obtain ⟨d', β1, b, g1, g2, g3, g4⟩ := loose_pre hH hN he hnd (by omega) hm huse hlim hfull (fuel + 1) hd hu hc hlt hmid (fun q hq hnq => by
        obtain ⟨o', x, t, h1, h2, _⟩ := hloose q hq hnq
        exact ⟨o', x, t, h1, h2⟩) hsrc
      have hrep := g3.rep huse hp hnd hlim g2 (fun k dr h => by
        have hkl := (List.getElem?_eq_some_iff.1 h).1
        have ho : ops[k]? = some ops[k] := Array.getElem?_eq_getElem (by omega)
        obtain ⟨dr', h1, h2⟩ := hfull k _ hkl ho
        rw [h] at h1; cases h1
        exact ⟨_, ho, h2.dst⟩)
      have hdrop : ops.toList.drop full.length = o :: ops.toList.drop (full.length + 1) := by
        rw [List.drop_eq_getElem_cons (by simpa using hkn)]
        congr 1
        rw [Array.getElem_toList]
        rw [Array.getElem?_eq_getElem hkn] at ho
        exact Option.some.inj ho
      rw [hdrop] at hs
      simp only [seqOps, fList_eq] at hs
      obtain ⟨σ1, hs1, hs2⟩ := Out.sel_bind_some hs
      by_cases hall : ∀ j, j < full.length → Done d j
      · have e := g4.done hall
        subst e
        refine stepG_wp hH hN ho hrep hs1 _ Q fun β' a' w' hle hr => ?_
        have hund : ∀ q, q < full.length → ¬ Done (d.setIfInBounds full.length true) q → ¬ Done d q := fun q _ hq e => hq ((done_set (by omega)).2 (.inr e))
        refine loose_rest (n := full.length) hH hN he hnd fuel (full.length + 1) (by omega) (by omega) hk hr hs2 (fun β2 a2 w2 hle2 hrep2 => hQ β2 a2 w2 (Ext.trans g3.ext (Ext.trans hle hle2)) hrep2) (by simpa using hd) ?_ (closed_set (by omega) hc (fun q hq => ready_anc hd he hc hi hq)) (fun q hq => ?_) (fun q h1 h2 => (done_set (by omega)).2 (.inl (by omega)))
          (fun p p' o1 o2 x k t k1 k2 k3 k4 => hsrc p p' o1 o2 x k t k1 k2 (hund p k1 k3) (hund p' k2 k4)) ⟨rfl, rfl, fun _ _ => rfl, fun j o hj hnj => absurd (hall j hj) (hund j hj hnj)⟩
        · have := (undone_set (by omega : full.length < d.size) hndi ops.size).2 hin
          omega
        · rcases (done_set (by omega)).1 hq with rfl | hq
          · omega
          · have := hlt q hq; omega
      · simp only [Classical.not_forall] at hall
        obtain ⟨q0, hq0, hnq0⟩ := hall
        obtain ⟨_, _, _, _, _, hsf0, _⟩ := hloose q0 hq0 hnq0
        obtain ⟨hg, hdst, ty, x, y, hop, _, _⟩ := storeFree_eq hsf0
        have hxy : ∀ j o' t, j < full.length → ¬ Done d j → ops[j]? = some o' → o'.dst = some t → x ≠ .tmp t ∧ y ≠ .tmp t := by
          intro j o' t hj hnj h1 h2
          obtain ⟨o2, x2, t2, k1, k2, k3, _⟩ := hloose j hj hnj
          rw [h1] at k1; cases k1
          obtain ⟨_, k4, _⟩ := looseX_eq k2
          rw [h2] at k4; cases k4
          obtain ⟨_, _, ty', x', y', k5, k6, k7⟩ := storeFree_eq k3
          rw [hop] at k5; cases k5
          exact ⟨k6, k7⟩
        have hstep := stepG_wp hH hN ho hrep hs1 (fun a' w' => ∃ β', Ext β1 β' (σ.nxt + full.length * σ.sz) σ1.nxt ∧ RepS E β' w0 σ1 a' w') (fun _ _ _ => False) (fun β' a' w' hle hr => ⟨β', hle, hr⟩)
        have hexec : execOp a.eval o = execOp b.eval o := by
          simp only [execOp, hop]
          rw [eval_rl g4 (fun j o' t h1 h2 h3 h4 => (hxy j o' t h1 h2 h3 h4).1), eval_rl g4 (fun j o' t h1 h2 h3 h4 => (hxy j o' t h1 h2 h3 h4).2)]
        have hw : ∀ a : Act, Region.wanted o (yielded ops a.tmps) = true := fun a => by unfold Region.wanted; rw [hg]
        unfold wpOp at hstep ⊢
        simp only [ho, hw, if_true] at hstep ⊢
        rcases hstep with hstep | ⟨_, _, _, hf⟩
        · left
          unfold Oper.wp at hstep ⊢
          rw [hexec]
          have hrun : ∃ w1, (execOp b.eval o).run P w = .ok .skip w1 := by
            revert hstep
            simp only [execOp, hop, Sem.run_bind, Sem.run_pure]
            cases hst : (Instr.storeAt ty (b.eval x) (b.eval y)).run P w with
            | ok u w1 => intro _; exact ⟨w1, rfl⟩
            | halt e w1 => intro h; cases e <;> exact h.elim
          obtain ⟨w1, hrun⟩ := hrun
          rw [hrun] at hstep ⊢
          simp only [Oper.upon, hdst, Act.put] at hstep ⊢
          obtain ⟨β2, hle, hr⟩ := hstep
          have hund : ∀ q, q < full.length → ¬ Done (d.setIfInBounds full.length true) q → ¬ Done d q := fun q _ hq e => hq ((done_set (by omega)).2 (.inr e))
          have hund' : ∀ q, q < full.length → ¬ Done d q → ¬ Done (d.setIfInBounds full.length true) q := fun q hq hnq e => by
            rcases (done_set (by omega)).1 e with e | e
            · omega
            · exact hnq e
          refine loose_rest (n := full.length) hH hN he hnd fuel (full.length + 1) (by omega) (by omega) hk hr hs2 (fun β3 a3 w3 hle3 hr3 => hQ β3 a3 w3 (Ext.trans g3.ext (Ext.trans hle hle3)) hr3) (by simpa using hd) ?_ (closed_set (by omega) hc (fun q hq => ready_anc hd he hc hi hq)) (fun q hq => ?_) (fun q h1 h2 => (done_set (by omega)).2 (.inl (by omega)))
            (fun p p' o1 o2 x k t k1 k2 k3 k4 => hsrc p p' o1 o2 x k t k1 k2 (hund p k1 k3) (hund p' k2 k4)) ⟨g4.size, g4.df, fun t ht => g4.same t fun j o' hj hnj hoj => ht j o' hj (hund' j hj hnj) hoj, fun j o' hj hnj hoj => g4.val j o' hj (hund j hj hnj) hoj⟩
          · have := (undone_set (by omega : full.length < d.size) hndi ops.size).2 hin
            omega
          · rcases (done_set (by omega)).1 hq with rfl | hq
            · omega
            · have := hlt q hq; omega
        · exact hf.elim

theorem mid_sinks (hH : HndOk P E H) (hN : Named P) (he : edgesOk ops.toList 0 = true) (hnd : noDup ops.toList = true) {full : List DR} {pc : PC} (hp : PcOk E pc) (hkn : full.length ≤ ops.size)
    (hk : sinksL ops.toList (ancs ops.toList []) full.length (ops.size - full.length) = true) {m : Mm} {KK : List Nat} (hm : m = ⟨dropK KK σ.own ++ σ.ro, σ.nxt, σ.lim, σ.sz⟩) (huse : UsesOk KK σ.nxt full) (hlim : σ.nxt + full.length * σ.sz ≤ σ.lim)
    (hfull : ∀ (k : Nat) (o : Oper), k < full.length → ops[k]? = some o → ∃ dr, full[k]? = some dr ∧ OpDone P E H ops.toList (ancs ops.toList []) σ.own m σ.tm (full.take k) k o dr)
    (hs : (seqOps H P ops.toList (ops.toList.drop full.length) { σ with tm := putAll σ.tm full, own := memAll (dropK KK σ.own) full, nxt := σ.nxt + full.length * σ.sz, pc := pc }).sel E = some σ')
    (fuel : Nat) {d : Array Bool} {β : Pl} {a : Act} {w : World} (hd : d.size = ops.size) (hu : undone d ops.size = fuel) (hc : Closed (ancs ops.toList []) d) (hlt : ∀ j, Done d j → j < full.length) (hmid : Mid E β0 β w0 σ ops.toList full d a w)
      (hQ : ∀ β' a' w', Ext β0 β' σ.nxt σ'.nxt → RepS E β' w0 σ' a' w' → Q .normal a' w') : wpAny P .any ops Q fuel d a w := by
  unfold sinksL at hk
  split at hk
  · rename_i hk1; exact mid_any hH hN he hnd hp hkn hk1 hm huse hlim hfull hs fuel hd hu hc hlt hmid hQ
  · split at hk
    · cases hk
    · rename_i n hn
      split at hk
      · rename_i hk1
        exact mid_loose hH hN he hnd hp (by omega) (by have : ops.size - (full.length + 1) = n := by omega
                                                       rw [this]; exact hk1) hk hm huse hlim hfull hs fuel hd hu hc hlt hmid hQ
      · cases hk

theorem regionK_any (hH : HndOk P E H) (hHp : HndPc E H) (hN : Named P) (h : RepS E β w0 σ a w) (he : edgesOk ops.toList 0 = true) (hnd : noDup ops.toList = true)
    {KK : List Nat} {kk : Nat} (hkk : kk ≤ ops.size) (hk : sinksL ops.toList (ancs ops.toList []) kk (ops.size - kk) = true) (hlim : σ.nxt + kk * σ.sz ≤ σ.lim)
    (hs : (regionK H P ops.toList KK kk σ).sel E = some σ') (hQ : ∀ β' a' w', Ext β β' σ.nxt σ'.nxt → RepS E β' w0 σ' a' w' → Q .normal a' w') : wpAny P .any ops Q ops.size (Array.replicate ops.size false) a w := by
  unfold regionK at hs
  simp only [fList_eq] at hs
  obtain ⟨x, hx, hs⟩ := Out.sel_bind_some hs
  split at hs
  · rename_i huse0
    obtain ⟨huse, _⟩ := usesOk_ok huse0
    obtain ⟨hp, full, h1, h2, h3⟩ := drawOps_sel (done := []) hHp _ h.pc hx
    simp only [List.nil_append, List.length_nil, Nat.zero_add] at h1 h3
    have hlen : full.length = kk := by
      rw [h2, List.length_take]; simp; omega
    rw [h1] at huse hs
    rw [← hlen] at hs hlim hkk hk
    refine mid_sinks hH hN he hnd hp hkk hk rfl huse hlim (fun k o hkl ho => ?_) hs ops.size (by simp) (undone_none _ _ (Nat.le_refl _)) (fun j hj => ?_) (fun j hj => ?_) ⟨⟨?_, fun t v hv => .inr ⟨fun j _ hj => ?_, ?_⟩⟩, h.df, ⟨σ.own, h.own, fun _ hx _ => hx, fun j dr hj => ?_⟩, fun i hi _ => ?_, ?_, h.below, h.ro, (Ext.refl _ _).more (Nat.le_add_right _ _)⟩ hQ
    · exact h3 k o (by rw [List.getElem?_take, if_pos (by omega), Array.getElem?_toList]; exact ho)
    · unfold Done at hj; rw [Array.getElem?_replicate] at hj; split at hj <;> cases hj
    · unfold Done at hj; rw [Array.getElem?_replicate] at hj; split at hj <;> cases hj
    · have := reps_length h.tm; simpa using this
    · unfold Done at hj; rw [Array.getElem?_replicate] at hj; split at hj <;> cases hj
    · have hlt : t < σ.tm.length := by
        have h4 := (Array.getElem?_eq_some_iff.1 hv).1
        have h5 := reps_length h.tm
        rw [Array.length_toList] at h5; omega
      obtain ⟨v', hv', hr⟩ := reps_get h.tm (List.getElem?_eq_getElem hlt)
      rw [Array.getElem?_toList, hv] at hv'
      cases hv'
      rw [List.getD_eq_getElem?_getD, List.getElem?_eq_getElem hlt]; exact hr
    · unfold Done at hj; rw [Array.getElem?_replicate] at hj; split at hj <;> cases hj
    · intro j hj1 hj2
      have : (i + 1) * σ.sz ≤ full.length * σ.sz := Nat.mul_le_mul_right _ hi
      rw [Nat.succ_mul] at this
      exact h.fresh j (by omega) (by omega)
    · intro j hj1 hj2
      exact h.fresh j (by omega) hj2
  · cases hs
end
end Go.Sx
set_option linter.unusedVariables false
set_option linter.unusedSimpArgs false
noncomputable section
namespace Go.Sx
open Go Go.RowKit

theorem anyL_iff {α : Type} {f : α → Bool} : ∀ {l : List α}, anyL f l = true ↔ ∃ x, x ∈ l ∧ f x = true
  | [] => by simp [anyL]
  | a :: r => by
    simp only [anyL]
    split
    · rename_i h; exact ⟨fun _ => ⟨a, List.mem_cons_self .., h⟩, fun _ => rfl⟩
    · rename_i h
      rw [anyL_iff]
      constructor
      · rintro ⟨x, h1, h2⟩; exact ⟨x, List.mem_cons_of_mem _ h1, h2⟩
      · rintro ⟨x, h1, h2⟩
        rcases List.mem_cons.1 h1 with rfl | h1
        · rw [h] at h2; cases h2
        · exact ⟨x, h1, h2⟩
theorem anyL_not {α : Type} {f : α → Bool} {l : List α} (h : anyL f l = false) {x : α} (hx : x ∈ l) : f x = false := by
  cases hf : f x
  · rfl
  · rw [anyL_iff.2 ⟨x, hx, hf⟩] at h; cases h

theorem looksB_ok {ops : Array Oper} {o : Oper} {d : Tmp} (h : looksB ops.toList o d = false) : d ∉ o.looksAt ops := by
  unfold looksB at h
  split at h
  · cases h
  · rename_i h1
    intro hm
    unfold Oper.looksAt at hm
    rcases List.mem_append.1 hm with hm | hm
    · obtain ⟨x, hx, hx2⟩ := List.mem_filterMap.1 hm
      have h2 := anyL_not h1 hx
      cases x with
      | tmp t => simp only [Option.some.injEq] at hx2; subst hx2; simp [readsT] at h2
      | _ => simp at hx2
    · cases hg : o.guard with
      | none => rw [hg] at hm; cases hm
      | some gw =>
        obtain ⟨g, b⟩ := gw
        rw [hg] at hm h
        simp only [dstOf_get] at h
        simp only [Option.mem_toList] at hm
        rw [hm] at h
        simp at h

theorem apartB_ok {ops : Array Oper} {x y : Oper} (h : apartB ops.toList x y = true) : x.apart ops y = true := by
  unfold apartB at h
  split at h
  · cases h
  · rename_i d hd
    split at h
    · rename_i h1 h2
      have g1 := looksB_ok h1
      have g2 : (y.dst != some d) = true := by
        unfold dstIs at h2
        cases hy : y.dst with
        | none => rfl
        | some e =>
          rw [hy] at h2
          simp only at h2
          simp only [bne_iff_ne, ne_eq, Option.some.injEq]
          rintro rfl
          simp at h2
      unfold Oper.apart
      simp only [hd, g2, Bool.and_true, Bool.and_eq_true, Bool.not_eq_true']
      refine ⟨by simpa using g1, ?_⟩
      cases hy : y.dst with
      | none => rfl
      | some e =>
        rw [hy] at h
        simp only [Bool.not_eq_true'] at h
        have g3 := looksB_ok h
        simpa using g3
    · cases h

theorem freeB_ok {ops : Array Oper} {x : Oper} {i : Nat} : ∀ {l : List Oper} {k : Nat}, freeB ops.toList x i l k = true → ∀ (j : Nat) (y : Oper), l[j]? = some y → k + j ≠ i → waitsFor i y = false → x.apart ops y = true
  | [], k, _, j, y, h, _, _ => by simp at h
  | z :: r, k, h, j, y, hj, hne, hw => by
    have rest : freeB ops.toList x i r (k + 1) = true → j ≠ 0 → x.apart ops y = true := by
      intro h hj0
      obtain ⟨q, rfl⟩ := Nat.exists_eq_succ_of_ne_zero hj0
      exact freeB_ok h q y (by simpa using hj) (by omega) hw
    simp only [freeB] at h
    by_cases hj0 : j = 0
    · subst hj0
      simp at hj
      subst hj
      split at h
      · rename_i hb; have := Nat.eq_of_beq_eq_true hb; omega
      · split at h
        · rename_i hb; rw [hw] at hb; cases hb
        · split at h
          · rename_i hb; exact apartB_ok hb
          · cases h
    · split at h
      · exact rest h hj0
      · split at h
        · exact rest h hj0
        · split at h
          · exact rest h hj0
          · cases h

theorem gFree_ok {i : Nat} : ∀ {l : List Oper}, gFree i l = true → ∀ (j : Nat) (o : Oper), l[j]? = some o → (∀ cs b, o.op ≠ .select cs b) ∧ ∀ g b, o.guard = some (g, b) → g ≠ i
  | [], _, j, o, h => by simp at h
  | z :: r, h, j, o, hj => by
    simp only [gFree] at h
    split at h
    · cases h
    · rename_i hsel
      cases j with
      | zero =>
        simp at hj
        subst hj
        refine ⟨hsel, fun g b hg => ?_⟩
        rw [hg] at h
        simp only at h
        rintro rfl
        simp at h
      | succ j =>
        split at h
        · split at h
          · cases h
          · exact gFree_ok h j o (by simpa using hj)
        · exact gFree_ok h j o (by simpa using hj)

theorem unwaited_ok {o : Oper} (h : unwaited o = true) : o.guard = none ∧ ∀ e ∈ o.after.toList, bindsAny e = false := by
  unfold unwaited at h
  split at h
  · cases h
  · rename_i hg
    exact ⟨hg, fun e he => anyL_not (by simpa using h) he⟩

/-! A region without one of its operations -/
theorem without_get {ops : List Oper} {i p : Nat} : (without ops i)[p]? = (ops[if p < i then p else p + 1]?).map (relO i) := by
  unfold without
  rw [List.getElem?_map, List.getElem?_eraseIdx]
  split <;> rfl
theorem preI_eq (i j : Nat) : preI i j = if j ≤ i then j else j - 1 := by
  unfold preI
  split
  · rename_i h; rw [if_pos (Nat.le_of_ble_eq_true h)]
  · rename_i h; rw [if_neg (fun e => by rw [Nat.ble_eq_true_of_le e] at h; cases h)]
theorem without_pre {ops : List Oper} {i j : Nat} (h : j ≠ i) : (without ops i)[preI i j]? = (ops[j]?).map (relO i) := by
  rw [without_get, preI_eq]
  by_cases hj : j ≤ i
  · rw [if_pos hj, if_pos (by omega)]
  · rw [if_neg hj, if_neg (by omega)]
    congr 2
    omega
theorem preI_inj {i j k : Nat} (hj : j ≠ i) (hk : k ≠ i) (h : preI i j = preI i k) : j = k := by
  rw [preI_eq, preI_eq] at h
  split at h <;> split at h <;> omega
theorem preI_post {i p : Nat} : preI i (if p < i then p else p + 1) = p ∧ (if p < i then p else p + 1) ≠ i := by
  rw [preI_eq]
  by_cases hp : p < i
  · rw [if_pos hp, if_pos (by omega)]; exact ⟨rfl, by omega⟩
  · rw [if_neg hp, if_neg (by omega)]; exact ⟨by omega, by omega⟩

section
variable {P : Program} {E : Env} {H : Hnd} {β : Pl} {w0 w : World} {σ σ' : St} {a : Act} {Q : Exit → Act → World → Prop}

/-- What is done in the two regions is the same, but for operation i. -/
structure Wo (ops : Array Oper) (i : Nat) (d d' : Array Bool) : Prop where
  sz : d.size = ops.size
  sz' : d'.size + 1 = ops.size
  at_ : Done d i
  iff : ∀ j, j ≠ i → (Done d j ↔ Done d' (preI i j))

theorem relO_run (i : Nat) (o : Oper) (ρ : Operand → Value) : execOp ρ (relO i o) = execOp ρ o := rfl

theorem without_op {ops : Array Oper} {i j : Nat} (hg : gFree i ops.toList = true) (hj : j ≠ i) {K K' : Act → World → Prop} (hK : ∀ a w, K' a w → K a w)
    (h : wpOp P (without ops.toList i).toArray Q (preI i j) K' a w) : wpOp P ops Q j K a w := by
  have hget := without_pre (ops := ops.toList) hj
  have hof : ops.toList[j]? = ops[j]? := Array.getElem?_toList ..
  rw [hof] at hget
  cases ho : ops[j]? with
  | none =>
    rw [ho] at hget
    unfold wpOp at h ⊢
    have : (without ops.toList i).toArray[preI i j]? = none := by simpa using hget
    rw [this] at h
    rw [ho]
    exact hK _ _ h
  | some o =>
    rw [ho] at hget
    have e1 : (without ops.toList i).toArray[preI i j]? = some (relO i o) := by simpa using hget
    unfold wpOp at h ⊢
    rw [e1] at h
    rw [ho]
    simp only at h ⊢
    have hw : Region.wanted (relO i o) (yielded (without ops.toList i).toArray a.tmps) = Region.wanted o (yielded ops a.tmps) := by
      unfold Region.wanted relO
      cases hgd : o.guard with
      | none => rfl
      | some gb =>
        obtain ⟨g, b⟩ := gb
        have hne := (gFree_ok hg j o (by simpa using ho)).2 g b hgd
        simp only
        have : yielded (without ops.toList i).toArray a.tmps (preI i g) = yielded ops a.tmps g := by
          unfold yielded
          have h2 := without_pre (ops := ops.toList) hne
          have h3 : ((without ops.toList i).toArray[preI i g]?).bind (·.dst) = (ops[g]?).bind (·.dst) := by
            rw [List.getElem?_toArray, h2, Array.getElem?_toList]
            cases ops[g]? <;> rfl
          rw [h3]
        rw [this]
    rw [hw] at h
    split
    · rename_i hwt
      rw [if_pos hwt] at h
      refine h.imp (fun h => ?_) (fun h => h)
      exact Oper.wp_mono hK h
    · rename_i hwt
      rw [if_neg hwt] at h
      exact hK _ _ h

theorem without_any {ops : Array Oper} {i : Nat} (hi : i < ops.size) (hlt : ∀ (j : Nat) (o : Oper), ops[j]? = some o → ∀ e ∈ o.after.toList, bindsAny e = true → e.on < ops.size) (hg : gFree i ops.toList = true) :
    ∀ (fuel : Nat) {d d' : Array Bool} {a : Act} {w : World}, Wo ops i d d' → wpAny P .any (without ops.toList i).toArray Q fuel d' a w → wpAny P .any ops Q fuel d a w := by
  have hsize : (without ops.toList i).toArray.size + 1 = ops.size := by
    simp only [without, List.size_toArray, List.length_map, List.length_eraseIdx, Array.length_toList]
    rw [if_pos hi]
    omega
  have ready : ∀ {d d' : Array Bool}, Wo ops i d d' → ∀ j, j ∈ Region.ready .any ops d → j ≠ i ∧ preI i j ∈ Region.ready .any (without ops.toList i).toArray d' := by
    intro d d' hW j hj
    obtain ⟨o, ho, hnd, hall⟩ := (ready_iff hW.sz).1 hj
    have hji : j ≠ i := fun e => hnd (e ▸ hW.at_)
    refine ⟨hji, (ready_iff (by have := hW.sz'; omega)).2 ⟨relO i o, ?_, fun h => hnd ((hW.iff j hji).2 h), fun e hm hb => ?_⟩⟩
    · have := without_pre (ops := ops.toList) hji
      have hof : ops.toList[j]? = ops[j]? := Array.getElem?_toList ..
      rw [hof, ho] at this
      simpa using this
    · simp only [relO, List.mem_map, List.mem_filter] at hm
      obtain ⟨e', ⟨h1, h2⟩, rfl⟩ := hm
      have hne : e'.on ≠ i := by rintro h; simp [h] at h2
      exact (hW.iff _ hne).1 (hall e' h1 hb)
  have back : ∀ {d d' : Array Bool}, Wo ops i d d' → Region.ready .any ops d = [] → Region.ready .any (without ops.toList i).toArray d' = [] := by
    intro d d' hW hnil
    cases hr : Region.ready .any (without ops.toList i).toArray d' with
    | nil => rfl
    | cons p r =>
      exfalso
      have hp : p ∈ Region.ready .any (without ops.toList i).toArray d' := by rw [hr]; exact List.mem_cons_self ..
      obtain ⟨o', ho', hnd, hall⟩ := (ready_iff (by have := hW.sz'; omega)).1 hp
      obtain ⟨g1, g2⟩ := preI_post (i := i) (p := p)
      have hget := without_get (ops := ops.toList) (i := i) (p := p)
      rw [List.getElem?_toArray, hget, Array.getElem?_toList] at ho'
      obtain ⟨o, ho, rfl⟩ := Option.map_eq_some_iff.1 ho'
      have : (if p < i then p else p + 1) ∈ Region.ready .any ops d := (ready_iff hW.sz).2 ⟨o, ho, fun h => hnd (by have := (hW.iff _ g2).1 h; rwa [g1] at this), fun e hm hb => by
        by_cases hei : e.on = i
        · rw [hei]; exact hW.at_
        · rw [hW.iff _ hei]
          exact hall { e with on := preI i e.on } (by
            simp only [relO, List.mem_map, List.mem_filter]
            exact ⟨e, ⟨hm, by cases hbq : e.on.beq i with | true => exact absurd (Nat.eq_of_beq_eq_true hbq) hei | false => rfl⟩, rfl⟩) hb⟩
      rw [hnil] at this
      cases this
  intro fuel
  induction fuel with
  | zero =>
    intro d d' a w hW h
    refine ⟨?_, h.2⟩
    cases hr : Region.ready .any ops d with
    | nil => rfl
    | cons j r =>
      have hj := ready hW j (by rw [hr]; exact List.mem_cons_self ..)
      rw [h.1] at hj
      cases hj.2
  | succ fuel ih =>
    intro d d' a w hW h
    refine ⟨fun hnil => h.1 (back hW hnil), fun j hj => ?_⟩
    obtain ⟨hji, hj'⟩ := ready hW j hj
    refine without_op hg hji (fun a w hh => ih ?_ hh) (h.2 _ hj')
    obtain ⟨o, ho, hnd, _⟩ := (ready_iff hW.sz).1 hj
    have hjl : j < d.size := by rw [hW.sz]; exact (Array.getElem?_eq_some_iff.1 ho).1
    have hjl' : preI i j < d'.size := by
      have h1 := hW.sz
      have h2 := hW.sz'
      have hi' := hi
      rw [preI_eq]
      split <;> omega
    refine ⟨by simpa using hW.sz, by simpa using hW.sz', (done_set hjl).2 (.inr hW.at_), fun k hk => ?_⟩
    rw [done_set hjl, done_set hjl', hW.iff k hk]
    constructor
    · rintro (rfl | h1)
      · exact .inl rfl
      · exact .inr h1
    · rintro (h1 | h1)
      · exact .inl (preI_inj hk hji h1)
      · exact .inr h1

theorem takeV_ok (h : RepS E β w0 σ a w) {o : Oper} {sv : SV} (hv : takeV P (evalO σ.tm) o = some sv) : ∃ v, (∀ w', (execOp a.eval o).run P w' = .ok (.value v) w') ∧ SV.rep E β sv v := by
  unfold takeV at hv
  split at hv
  · rename_i x ho
    cases hv
    exact ⟨a.eval x, fun w' => by simp only [execOp, ho, Sem.run_pure], evalO_rep h.tm x⟩
  · rename_i x ho
    cases hv
    exact ⟨a.eval x, fun w' => by simp only [execOp, ho, Sem.run_pure], evalO_rep h.tm x⟩
  · rename_i t x f ho
    have hx := evalO_rep h.tm x
    split at hv
    · rename_i fs j p hu he
      rw [he] at hx
      simp only [SV.rep] at hx
      obtain ⟨b, hbj, hev⟩ := hx
      split at hv
      · rename_i fd hfd
        split at hv
        · rename_i n hn
          cases hv
          refine ⟨.pointer (some ⟨b.blk, b.off + p + fd.offset, none⟩), fun w' => ?_, ?_⟩
          · simp only [execOp, ho, hev, Sem.run_bind, fieldAt_run hu hfd hn w', Result.andThen_ok, Sem.run_pure]
          · simp only [SV.rep]
            exact ⟨b, hbj, by rw [Nat.add_assoc]⟩
        · cases hv
      · cases hv
    · cases hv
  · cases hv

theorem takeFind_ok {ops : List Oper} {tm : List SV} : ∀ {l : List Oper} {k i : Nat} {tm' : List SV}, takeFind P ops tm l k = some (i, tm') →
    ∃ o sv, k ≤ i ∧ l[i - k]? = some o ∧ unwaited o = true ∧ takeV P (evalO tm) o = some sv ∧ freeB ops o i ops 0 = true ∧ gFree i ops = true ∧ tm' = putT tm o.dst sv
  | [], k, i, tm', h => by cases h
  | o :: r, k, i, tm', h => by
    have rest : takeFind P ops tm r (k + 1) = some (i, tm') → ∃ o' sv, k ≤ i ∧ (o :: r)[i - k]? = some o' ∧ unwaited o' = true ∧ takeV P (evalO tm) o' = some sv ∧ freeB ops o' i ops 0 = true ∧ gFree i ops = true ∧ tm' = putT tm o'.dst sv := by
      intro h
      obtain ⟨o', sv, h1, h2, h3⟩ := takeFind_ok h
      refine ⟨o', sv, by omega, ?_, h3⟩
      have e : i - k = (i - (k + 1)) + 1 := by omega
      rw [e]
      simpa using h2
    simp only [takeFind] at h
    split at h
    · exact rest h
    · rename_i hu
      split at h
      · exact rest h
      · rename_i v hv
        split at h
        · rename_i hf hg
          cases h
          exact ⟨o, v, Nat.le_refl _, by simp, hu, hv, hf, hg, rfl⟩
        · exact rest h

theorem regionC_any (hH : HndOk P E H) (hHp : HndPc E H) (hN : Named P) {ops : Array Oper} {r : Out St} (hr : regionC H P ops.toList σ = some r) (h : RepS E β w0 σ a w) (hs : r.sel E = some σ')
    (hQ : ∀ β' a' w', Ext β β' σ.nxt σ'.nxt → RepS E β' w0 σ' a' w' → Q .normal a' w') : wpAny P .any ops Q ops.size (Array.replicate ops.size false) a w := by
  have hsk : ∀ l : List Oper, sinkAt H.fx l ≤ l.length := by
    intro l
    induction l with
    | nil => simp [sinkAt]
    | cons o r ih => simp only [sinkAt]; split <;> simp <;> omega
  have hskB : ∀ l : List Oper, sinkAtB H.fx l ≤ l.length := by
    intro l
    induction l with
    | nil => simp [sinkAtB]
    | cons o r ih => simp only [sinkAtB]; split <;> simp <;> omega
  have fits : ∀ {k : Nat}, fitsK H ops.toList k σ = true → sinksL ops.toList (ancs ops.toList []) k (ops.size - k) = true ∧ σ.nxt + k * σ.sz ≤ σ.lim := by
    intro k hk
    unfold fitsK at hk
    split at hk
    · rename_i h1; exact ⟨by simpa using h1, Nat.le_of_ble_eq_true hk⟩
    · cases hk
  unfold regionC at hr
  split at hr
  · rename_i he hnd
    split at hr
    · rename_i hf
      cases hr
      exact regionK_any hH hHp hN h he hnd (by have := hsk ops.toList; simpa using this) (fits hf).1 (fits hf).2 hs hQ
    · split at hr
      · rename_i hf
        cases hr
        exact regionK_any hH hHp hN h he hnd (by have := hskB ops.toList; simpa using this) (fits hf).1 (fits hf).2 hs hQ
      · cases hr
  · cases hr

theorem regionT_any (hH : HndOk P E H) (hHp : HndPc E H) (hN : Named P) (hpan : ∀ c a w, ¬ Q (.panic c) a w) : ∀ (n : Nat) {ops : Array Oper} {σ : St} {a : Act}, (∀ (j : Nat) (o : Oper), ops[j]? = some o → ∀ e ∈ o.after.toList, bindsAny e = true → e.on < ops.size) →
    RepS E β w0 σ a w → (regionT H P n ops.toList σ).sel E = some σ' → (∀ β' a' w', Ext β β' σ.nxt σ'.nxt → RepS E β' w0 σ' a' w' → Q .normal a' w') → wpAny P .any ops Q ops.size (Array.replicate ops.size false) a w
  | 0, ops, σ, a, hlt, h, hs, hQ => by cases hs
  | n + 1, ops, σ, a, hlt, h, hs, hQ => by
    simp only [regionT] at hs
    split at hs
    · rename_i r hr; exact regionC_any hH hHp hN hr h hs hQ
    · split at hs
      · cases hs
      · rename_i i tm hf
        obtain ⟨o, sv, _, ho, hu, hv, hfree, hg, rfl⟩ := takeFind_ok hf
        rw [Nat.sub_zero, Array.getElem?_toList] at ho
        have hil := (Array.getElem?_eq_some_iff.1 ho).1
        obtain ⟨hgd, hun⟩ := unwaited_ok hu
        obtain ⟨v, hrun, hrep⟩ := takeV_ok h hv
        obtain ⟨m, hm⟩ : ∃ m, ops.size = m + 1 := ⟨ops.size - 1, by omega⟩
        have hlist : (Array.replicate ops.size false).size = ops.size := by simp
        have hready : i ∈ Region.ready .any ops (Array.replicate ops.size false) := (ready_iff hlist).2 ⟨o, ho, by unfold Done; rw [Array.getElem?_replicate]; split <;> simp, fun e he hb => by rw [hun e he] at hb; cases hb⟩
        have hsize : (without ops.toList i).toArray.size = m := by
          simp only [without, List.size_toArray, List.length_map, List.length_eraseIdx, Array.length_toList]
          rw [if_pos hil]
          omega
        have hrep' : RepS E β w0 { σ with tm := putT σ.tm o.dst sv } (a.put o.dst v) w :=
          { tm := putT_rep h.tm hrep _, df := (put_defers a _ _).trans h.df, own := h.own, fresh := h.fresh, le := h.le, below := h.below, ro := h.ro, pc := h.pc }
        have hrest := regionT_any hH hHp hN hpan n (ops := (without ops.toList i).toArray) (σ := { σ with tm := putT σ.tm o.dst sv }) (a := a.put o.dst v) (fun j o' ho' e he hb => by
          rw [List.getElem?_toArray, without_get, Array.getElem?_toList] at ho'
          obtain ⟨o1, h1, rfl⟩ := Option.map_eq_some_iff.1 ho'
          simp only [relO, List.mem_map, List.mem_filter] at he
          obtain ⟨e1, ⟨h2, h3⟩, rfl⟩ := he
          have h4 := hlt _ o1 h1 e1 h2 hb
          have hne : e1.on ≠ i := by rintro h; simp [h] at h3
          rw [hsize]
          show preI i e1.on < m
          rw [preI_eq]
          split <;> omega) hrep' (by simpa using hs) hQ
        rw [show wpAny P .any ops Q ops.size (Array.replicate ops.size false) a w = wpAny P .any ops Q (m + 1) (Array.replicate ops.size false) a w by rw [← hm]]
        refine wpAny_first (v := v) ho (fun j o' cs b hj => (gFree_ok hg j o' (by simpa using hj)).1 cs b) (fun c a w h => absurd h (hpan _ _ _)) m (Array.replicate ops.size false) a w (fun j oj hj hji _ hno => ?_) hready (.inl ⟨by unfold Region.wanted; rw [hgd], hrun⟩) ?_
        · refine freeB_ok hfree j oj (by simpa using hj) (by omega) ?_
          cases hw : waitsFor i oj
          · rfl
          · exfalso
            unfold waitsFor at hw
            obtain ⟨e, he, hb⟩ := anyL_iff.1 hw
            split at hb
            · rename_i hbb
              exact hno e (by simpa using he) hbb (Nat.eq_of_beq_eq_true hb)
            · cases hb
        · rw [hsize] at hrest
          refine without_any hil hlt hg m ⟨by simp, by simp; omega, ?_, fun j hj => ?_⟩ hrest
          · unfold Done; simp [hil]
          · have nd : ∀ (k q : Nat), ¬ Done (Array.replicate k false) q := fun k q hq => by
              unfold Done at hq; rw [Array.getElem?_replicate] at hq; split at hq <;> cases hq
            rw [done_set (by simpa using hil)]
            constructor
            · rintro (e | e)
              · exact absurd e hj
              · exact absurd e (nd _ _)
            · intro e; exact absurd e (nd _ _)

theorem region_wp (hH : HndOk P E H) (hHp : HndPc E H) (hN : Named P) (hmix : P.follows .mixedOrders = true) {ops : Array Oper} {id : Nat} {draw : Bool} (h : RepS E β w0 σ a w)
    (hs : (region H P ops.toList draw σ).sel E = some σ') (hQ : ∀ β' a' w', Ext β β' σ.nxt σ'.nxt → RepS E β' w0 σ' a' w' → Q .normal a' w') : (Code.region id ops draw).wp P Q a w := by
  unfold region at hs
  split at hs
  · refine wp_region ?_
    have := seqOps_wp (Q := Q) hH hN ops.toList 0 (fun k => by simp) h hs hQ
    rwa [Array.length_toList, ← List.range_eq_range'] at this
  · refine Code.wp_mono (Q := fun e a w => match e with | .normal => Q .normal a w | _ => False) (fun e a w h => ?_) (wp_region_any hmix ?_)
    · cases e <;> first | exact h | exact h.elim
    · have hdrew : RepS E β w0 σ a { w with drawn := w.drawn + 1 } :=
        { tm := h.tm, df := h.df, own := h.own.below (Pl.le_refl _) (Below.refl _ _).drew, fresh := h.fresh, le := h.le, below := h.below.drew, ro := h.ro, pc := h.pc }
      split at hs
      · rename_i he
        refine regionT_any hH hHp hN (fun _ _ _ h => h) 8 (fun j o ho e hm hb => ?_) hdrew hs hQ
        have h1 := edges_lt he (by simpa using ho) hm hb
        have h2 := (Array.getElem?_eq_some_iff.1 ho).1
        omega
      · cases hs
end
end Go.Sx
set_option linter.unusedVariables false
set_option linter.unusedSimpArgs false
noncomputable section
namespace Go.Sx
open Go Go.RowKit

section
variable {E : Env}
theorem appC_list {r : Tm} : ∀ {ks : List SK} {cs : List SV} {u : Tm}, cellsT ks cs = some u → ((appC u r).den E).list = (u.den E).list ++ (r.den E).list
  | [], cs, u, h => by
    cases cs with
    | nil => cases h; rfl
    | cons _ _ => cases h
  | k :: ks, [], u, h => by cases h
  | k :: ks, s :: l, u, h => by
    simp only [cellsT] at h
    split at h
    · rename_i k' t u' hu
      split at h
      · cases h
        simp only [appC, Tm.den, Sc.list, List.cons_append, appC_list hu]
      · cases h
    · cases h
theorem cellsT_get : ∀ {ks : List SK} {cs : List SV} {u : Tm}, cellsT ks cs = some u → cs.length = ks.length ∧ (u.den E).list.length = ks.length ∧ ∀ (i : Nat) (x : Sc), (u.den E).list[i]? = some x → ∃ (k : SK) (t : Tm), ks[i]? = some k ∧ cs[i]? = some (.sc k t) ∧ x = .cons (.i k.n) (t.den E)
  | [], cs, u, h => by
    cases cs with
    | nil => cases h; exact ⟨rfl, rfl, fun i x hx => by simp [Tm.den, Sc.list] at hx⟩
    | cons _ _ => cases h
  | k :: ks, [], u, h => by cases h
  | k :: ks, s :: l, u, h => by
    simp only [cellsT] at h
    split at h
    · rename_i k' t u' hu
      split at h
      · rename_i hk
        cases h
        have hkk := SK.n_inj (Nat.eq_of_beq_eq_true hk)
        subst hkk
        obtain ⟨g1, g2, g3⟩ := cellsT_get hu
        refine ⟨by simp [g1], by simp only [Tm.den, Sc.list, List.length_cons, g2], fun i x hx => ?_⟩
        cases i with
        | zero =>
          simp only [Tm.den, Sc.list, List.getElem?_cons_zero, Option.some.injEq] at hx
          subst hx
          exact ⟨k, t, rfl, rfl, rfl⟩
        | succ i =>
          simp only [Tm.den, Sc.list, List.getElem?_cons_succ] at hx
          simpa using g3 i x hx
      · cases h
    · cases h
/-- A row and rows. -/
theorem RowsOk.front {ks : List SK} {l : Nat} {a b : List Sc} (h : RowsOk (kScs ks) (l : Nat) b) (ha : a.length = ks.length) (hk : ∀ (i : Nat) (x : Sc), a[i]? = some x → ∃ (k : SK) (c : Sc), ks[i]? = some k ∧ x = .cons (.i k.n) c) : RowsOk (kScs ks) ((l + 1 : Nat) : Int) (a ++ b) := by
  have hlen : (kScs ks).length = ks.length := by simp [kScs]
  have hb := h.len
  refine ⟨by rw [hlen, List.length_append, hb, ha, ← Int.natCast_mul, Nat.succ_mul, Nat.add_comm], fun i x hx => ?_⟩
  rcases Nat.lt_or_ge i a.length with hlo | hhi
  · rw [List.getElem?_append_left hlo] at hx
    obtain ⟨k, c, h1, h2⟩ := hk _ x hx
    refine ⟨c, ?_⟩
    rw [hlen, Nat.mod_eq_of_lt (by omega)]
    have : (kScs ks).getD i .nil = .i k.n := by simp [kScs, List.getD, h1]
    rw [this]; exact h2
  · rw [List.getElem?_append_right hhi] at hx
    obtain ⟨c, h1⟩ := h.2 _ x hx
    refine ⟨c, ?_⟩
    rw [h1, hlen, ha, Nat.mod_eq_sub_mod (by omega : i ≥ ks.length)]
theorem rowsC_get {ks : List SK} : ∀ {n : Nat} {cs : List SV} {t : Tm}, rowsC ks n cs = some t → RowsOk (kScs ks) (n : Nat) (t.den E).list ∧ ∀ (i : Nat) (x : Sc), (t.den E).list[i]? = some x → ∃ (k : SK) (u : Tm), cs[i]? = some (.sc k u) ∧ x = .cons (.i k.n) (u.den E)
  | 0, cs, t, h => by
    cases cs with
    | nil => cases h; exact ⟨⟨by simp [Tm.den, Sc.list], fun i x hx => by simp [Tm.den, Sc.list] at hx⟩, fun i x hx => by simp [Tm.den, Sc.list] at hx⟩
    | cons _ _ => cases h
  | n + 1, cs, t, h => by
    simp only [rowsC] at h
    split at h
    · rename_i u r hu hr
      cases h
      obtain ⟨g1, g2, g3⟩ := cellsT_get (E := E) hu
      obtain ⟨k1, k2⟩ := rowsC_get hr
      rw [appC_list hu]
      refine ⟨k1.front g2 fun i x hx => by
        obtain ⟨k, t, e1, _, e3⟩ := g3 i x hx
        exact ⟨k, _, e1, e3⟩, fun i x hx => ?_⟩
      rcases Nat.lt_or_ge i (u.den E).list.length with hlo | hhi
      · rw [List.getElem?_append_left hlo] at hx
        obtain ⟨k, t, e1, e2, e3⟩ := g3 i x hx
        rw [List.getElem?_take, if_pos (by omega)] at e2
        exact ⟨k, t, e2, e3⟩
      · rw [List.getElem?_append_right hhi] at hx
        obtain ⟨k, t, e1, e2⟩ := k2 _ x hx
        rw [List.getElem?_drop, g2, show ks.length + (i - ks.length) = i by omega] at e1
        exact ⟨k, t, e1, e2⟩
    · cases h
end
section
variable {P : Program} {E : Env} {β : Pl} {w0 w : World} {a : Act}
/-- A list that grows can be read as an open one. -/
theorem openT_ok {B : Nat} {own : Mem} {ks : List SK} {s : SV} {x : OL} {v : Value} (hown : Owns E β B own w) (hv : SV.rep E β s v) (ho : openT own ks s = some x) :
    ∃ b b', β x.j = some b ∧ (∃ sb, (x.j, sb) ∈ own) ∧ b'.blk = b.blk ∧ (∀ β' : Pl, SB.reads E β' ⟨[], some (x.e, x.z, 0)⟩ b' w) ∧ SB.owns ⟨[], some (x.e, x.z, 0)⟩ b' w ∧ B ≤ b'.blk ∧
      ∀ (β' : Pl) (m : Nat) (u : Value), β' m = some b' → SV.rep E β s u → SV.rep E β' (.og m ks x.n x.t) u := by
  unfold openT at ho
  split at ho
  · rename_i j ks' n t
    split at ho
    · rename_i sb hks hsb
      split at ho
      · rename_i e z hrow
        cases ho
        have := eqKs_eq hks
        subst this
        obtain ⟨b, hb, hr, hB, h0, arr, e2, hh, hrw⟩ := hown.ent j sb (find_mem hsb)
        rw [hrow] at hrw
        simp only at hrw
        obtain ⟨rfl, g1, g2, g3, g4⟩ := hrw
        refine ⟨b, b, hb, ⟨sb, find_mem hsb⟩, rfl, fun β' => ⟨hr.1, fun i s hi => by simp at hi, hr.3.imp id fun g => ⟨rfl, g.2⟩, fun e' s' h => by cases h; exact hr.4 _ _ hrow⟩, ⟨h0, arr, e2, hh, rfl, g1, Nat.zero_le _, g3, by simp⟩, hB, fun β' m u hm hu => ?_⟩
        simp only [SV.rep] at hu ⊢
        obtain ⟨b3, l, hb3, k⟩ := hu
        rw [hb] at hb3; cases hb3
        exact ⟨b, l, hm, k⟩
      · cases ho
    · cases ho
  · rename_i j n
    split at ho
    · rename_i sb hsb
      split at ho
      · rename_i e z k hrow
        split at ho
        · rename_i t hkn hzk hz0 hrows
          cases ho
          have e1 := Nat.eq_of_beq_eq_true hkn
          have e2 := Nat.eq_of_beq_eq_true hzk
          have e3 : 0 < z := by simpa [Nat.blt_eq] using hz0
          subst e1; subst e2
          obtain ⟨b, hb, hr, hB, h0, arr, e2, hh, hrw⟩ := hown.ent j sb (find_mem hsb)
          rw [hrow] at hrw
          simp only at hrw
          obtain ⟨rfl, g1, g2, g3, g4⟩ := hrw
          obtain ⟨r1, r2⟩ := rowsC_get (E := E) hrows
          have hval0 : b.val = [] := by
            simp only [SV.rep] at hv
            obtain ⟨b3, hb3, _, _, h4⟩ := hv
            rw [hb] at hb3; cases hb3
            exact h4
          refine ⟨b, ⟨b.blk, 0, b.cap, (t.den E).list⟩, hb, ⟨sb, find_mem hsb⟩, rfl, fun β' => ⟨hr.1, fun i s hi => by simp at hi, .inr ⟨rfl, fun i x hx => ?_⟩, fun e' s' h hnil => ?_⟩, ⟨rfl, arr, e2, hh, rfl, g1, Nat.zero_le _, g3, by simp⟩, hB, fun β' m u hm hu => ?_⟩
          · obtain ⟨kd, t', c1, c2⟩ := r2 i x hx
            obtain ⟨v', q1, q2, q3⟩ := hr.2 i _ c1
            refine ⟨v', ?_, q2, kd, t'.den E, c2, by simpa [SV.rep] using q3⟩
            rw [h0] at q1
            exact q1
          · have hl := r1.len
            simp only at hnil
            rw [hnil] at hl
            simp only [List.length_nil] at hl
            have hk0 : k = 0 := by
              rcases Nat.eq_zero_or_pos k with h | h
              · exact h
              · have := Nat.mul_pos h e3; omega
            subst hk0
            exact hr.4 _ _ hrow hval0
          · simp only [SV.rep] at hu ⊢
            obtain ⟨b3, hb3, k0, k1, k2⟩ := hu
            rw [hb] at hb3; cases hb3
            exact ⟨_, k, hm, k1, g2, Nat.le_trans g2 g3, by simp [Tm.den], rfl, r1⟩
        · cases ho
      · cases ho
    · cases ho
  · cases ho

theorem swapV_rep {β' : Pl} {s s' : SV} (hs : ∀ u, SV.rep E β s u → SV.rep E β' s' u) (hm : Pl.le β β') {u : SV} {v : Value} (h : SV.rep E β u v) : SV.rep E β' (swapV s s' u) v := by
  unfold swapV
  split
  · rename_i he
    rw [SV.beq_eq u s he] at h
    exact hs v h
  · exact SV.rep_mono hm _ _ h
theorem reps_mapB {β' : Pl} {f : SV → SV} (hf : ∀ s v, SV.rep E β s v → SV.rep E β' (f s) v) : ∀ {l : List SV} {vs : List Value}, SV.reps E β l vs → SV.reps E β' (l.map f) vs
  | [], vs, h => by simpa using h
  | s :: r, vs, h => by
    simp only [SV.reps] at h
    obtain ⟨v, rest, rfl, h1, h2⟩ := h
    simp only [List.map_cons, reps_cons]
    exact ⟨hf s v h1, reps_mapB hf h2⟩
theorem reopen_rep {σ : St} {ks : List SK} {s : SV} {x : OL} {m : Nat} (h : RepM E β w0 σ a w) (hs : ∃ v, SV.rep E β s v) (ho : openT σ.own ks s = some x) (hm : σ.nxt ≤ m) (hl : m < σ.lim) :
    ∃ β', Ext β β' σ.nxt (m + 1) ∧ RepM E β' w0 (reopen m ks s x σ) a w := by
  obtain ⟨v, hv⟩ := hs
  obtain ⟨b, b', hb, ⟨sb0, hsb0⟩, hblk, hrd, hwn, hB, hrep⟩ := openT_ok h.own hv ho
  have hnone : β m = none := h.fresh m hm hl
  have hmono : Pl.le β (upd β m b') := fun j y hy => by
    unfold upd
    split
    · rename_i e; subst e; rw [hnone] at hy; cases hy
    · exact hy
  have hat : upd β m b' m = some b' := by simp [upd]
  have old : ∀ j sb, (j, sb) ∈ dropB σ.own x.j → j ≠ x.j ∧ (j, sb) ∈ σ.own := fun j sb hj => dropB_mem hj
  refine ⟨upd β m b', ⟨hmono, fun j hj => by unfold upd; rw [if_neg (by omega)], by omega⟩, { tm := ?_, df := h.df, own := ⟨fun j sb hj => ?_, fun j sb j' sb' c c' hj hj' hne hc hc' => ?_⟩, fresh := fun j h1 h2 => ?_, le := ?_, below := h.below }⟩
  · exact reps_mapB (fun u v hu => swapV_rep (fun v' hv' => hrep _ m v' hat hv') hmono hu) h.tm
  · rcases List.mem_cons.1 hj with hj | hj
    · cases hj
      exact ⟨b', hat, hrd _, hB, hwn⟩
    · obtain ⟨_, hj⟩ := old j sb hj
      obtain ⟨c, hc, hr, hB2, hw2⟩ := h.own.ent j sb hj
      exact ⟨c, hmono j c hc, SB.reads_below hr hmono (Below.refl _ _), hB2, hw2⟩
  · have known : ∀ j sb c, (j, sb) ∈ dropB σ.own x.j → upd β m b' j = some c → c.blk ≠ b.blk := by
      intro j sb c hj hc
      obtain ⟨hjx, hj⟩ := old j sb hj
      obtain ⟨c2, hc2, _⟩ := h.own.ent j sb hj
      have := hmono j c2 hc2
      rw [hc] at this; cases this
      exact h.own.apart j sb x.j sb0 _ _ hj hsb0 hjx hc2 hb
    rcases List.mem_cons.1 hj with hj | hj <;> rcases List.mem_cons.1 hj' with hj' | hj'
    · cases hj; cases hj'; exact absurd rfl hne
    · cases hj
      rw [hat] at hc; cases hc
      rw [hblk]
      exact fun e => known j' sb' c' hj' hc' e.symm
    · cases hj'
      rw [hat] at hc'; cases hc'
      rw [hblk]
      exact known j sb c hj hc
    · obtain ⟨_, g1⟩ := old j sb hj
      obtain ⟨_, g2⟩ := old j' sb' hj'
      obtain ⟨c2, hc2, _⟩ := h.own.ent j sb g1
      obtain ⟨c3, hc3, _⟩ := h.own.ent j' sb' g2
      have e1 := hmono j c2 hc2
      have e2 := hmono j' c3 hc3
      rw [hc] at e1; rw [hc'] at e2
      cases e1; cases e2
      exact h.own.apart j sb j' sb' _ _ g1 g2 hne hc2 hc3
  · have h1' : m + 1 ≤ j := h1
    unfold upd
    rw [if_neg (by omega)]
    exact h.fresh j (by omega) h2
  · exact hl
end
end Go.Sx
