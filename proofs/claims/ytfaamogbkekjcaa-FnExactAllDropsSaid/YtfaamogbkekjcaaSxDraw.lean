/- The symbolic executor is sound, fourth part: regions whose order is open. No condition. -/
import Derived.Test.YtfaamogbkekjcaaSxPc
set_option linter.unusedVariables false
set_option linter.unusedSimpArgs false
noncomputable section
namespace Go.Sx
open Go Go.RowKit

/-! Which operations come before which -/
def anc (as : List Nat) (i : Nat) : Nat := (nth? as i).getD 0

theorem ancOf_bit {as : List Nat} : ∀ {es : List Edge} {j : Nat}, (ancOf as es).testBit j = true → ∃ e, e ∈ es ∧ bindsAny e = true ∧ (e.on = j ∨ (anc as e.on).testBit j = true)
  | [], j, h => by simp [ancOf] at h
  | e :: r, j, h => by
    simp only [ancOf] at h
    split at h
    · rename_i hb
      rw [Nat.testBit_or, Nat.testBit_or, Bool.or_eq_true, Bool.or_eq_true] at h
      rcases h with (h | h) | h
      · obtain ⟨e', h1, h2⟩ := ancOf_bit h; exact ⟨e', List.mem_cons_of_mem _ h1, h2⟩
      · rw [Nat.testBit_two_pow] at h
        exact ⟨e, List.mem_cons_self .., hb, .inl (by simpa using h)⟩
      · exact ⟨e, List.mem_cons_self .., hb, .inr h⟩
    · obtain ⟨e', h1, h2⟩ := ancOf_bit h; exact ⟨e', List.mem_cons_of_mem _ h1, h2⟩

theorem ancs_pre : ∀ (l : List Oper) (acc : List Nat), ∃ x, ancs l acc = acc ++ x ∧ x.length = l.length
  | [], acc => ⟨[], by simp [ancs], rfl⟩
  | o :: r, acc => by
    obtain ⟨x, h1, h2⟩ := ancs_pre r (acc ++ [ancOf acc o.after.toList])
    exact ⟨ancOf acc o.after.toList :: x, by simp [ancs, h1], by simp [h2]⟩
theorem ancs_get : ∀ (l : List Oper) (acc : List Nat) (i : Nat) (o : Oper), l[i]? = some o → ∃ p, (ancs l acc)[acc.length + i]? = some (ancOf p o.after.toList) ∧ p = (ancs l acc).take (acc.length + i)
  | [], acc, i, o, h => by simp at h
  | o' :: r, acc, 0, o, h => by
    simp at h
    subst h
    obtain ⟨x, h1, _⟩ := ancs_pre r (acc ++ [ancOf acc o'.after.toList])
    refine ⟨acc, ?_, ?_⟩
    · simp [ancs, h1]
    · simp [ancs, h1]
  | o' :: r, acc, i + 1, o, h => by
    obtain ⟨p, h1, h2⟩ := ancs_get r (acc ++ [ancOf acc o'.after.toList]) i o (by simpa using h)
    refine ⟨p, ?_, ?_⟩
    · simpa [ancs, Nat.add_assoc, Nat.add_comm 1 i] using h1
    · simpa [ancs, Nat.add_assoc, Nat.add_comm 1 i] using h2

/-- The order, in words: what must come before i is a direct edge's end or must come before one. -/
theorem anc_bit {l : List Oper} {i j : Nat} {o : Oper} (he : edgesOk l 0 = true) (ho : l[i]? = some o) (h : (anc (ancs l []) i).testBit j = true) :
    ∃ e, e ∈ o.after.toList ∧ bindsAny e = true ∧ e.on < i ∧ (e.on = j ∨ (anc (ancs l []) e.on).testBit j = true) := by
  obtain ⟨p, h1, h2⟩ := ancs_get l [] i o ho
  simp only [List.length_nil, Nat.zero_add] at h1 h2
  unfold anc at h
  rw [nth?_get, h1] at h
  obtain ⟨e, h3, h4, h5⟩ := ancOf_bit h
  have edges : ∀ (l : List Oper) (k : Nat), edgesOk l k = true → ∀ i o, l[i]? = some o → ∀ e ∈ o.after.toList, bindsAny e = true → e.on < k + i := by
    intro l
    induction l with
    | nil => intro k _ i o h; simp at h
    | cons x r ih =>
      intro k hk i o hi e hm hb
      simp only [edgesOk] at hk
      split at hk
      · rename_i hall
        cases i with
        | zero =>
          simp at hi
          subst hi
          have := List.all_eq_true.1 hall e hm
          simp [hb, Nat.blt_eq] at this
          simpa using this
        | succ i =>
          have := ih (k + 1) hk i o (by simpa using hi) e hm hb
          omega
      · cases hk
  have hlt : e.on < i := by simpa using edges l 0 he i o ho e h3 h4
  refine ⟨e, h3, h4, hlt, h5.imp id fun h6 => ?_⟩
  unfold anc at h6 ⊢
  rw [nth?_get] at h6 ⊢
  rw [h2, List.getElem?_take, if_pos hlt] at h6
  exact h6
theorem edges_lt {l : List Oper} {i : Nat} {o : Oper} (he : edgesOk l 0 = true) (ho : l[i]? = some o) {e : Edge} (hm : e ∈ o.after.toList) (hb : bindsAny e = true) : e.on < i := by
  have edges : ∀ (l : List Oper) (k : Nat), edgesOk l k = true → ∀ i o, l[i]? = some o → ∀ e ∈ o.after.toList, bindsAny e = true → e.on < k + i := by
    intro l
    induction l with
    | nil => intro k _ i o h; simp at h
    | cons x r ih =>
      intro k hk i o hi e hm hb
      simp only [edgesOk] at hk
      split at hk
      · rename_i hall
        cases i with
        | zero =>
          simp at hi
          subst hi
          have := List.all_eq_true.1 hall e hm
          simp [hb, Nat.blt_eq] at this
          simpa using this
        | succ i =>
          have := ih (k + 1) hk i o (by simpa using hi) e hm hb
          omega
      · cases hk
  simpa using edges l 0 he i o ho e hm hb
theorem anc_lt {l : List Oper} (he : edgesOk l 0 = true) : ∀ (i : Nat) {j : Nat}, (anc (ancs l []) i).testBit j = true → j < i := by
  intro i
  induction i using Nat.strongRecOn with
  | _ i ih =>
    intro j h
    cases ho : l[i]? with
    | none =>
      unfold anc at h
      obtain ⟨x, h1, h2⟩ := ancs_pre l []
      rw [nth?_get] at h
      have : (ancs l [])[i]? = none := by
        rw [h1]; simp; have := List.getElem?_eq_none_iff.1 ho; omega
      rw [this] at h
      simp at h
    | some o =>
      obtain ⟨e, _, _, h3, h4⟩ := anc_bit he ho h
      rcases h4 with h4 | h4
      · omega
      · have := ih e.on h3 h4; omega

/-! What has been done -/
def Done (d : Array Bool) (j : Nat) : Prop := d[j]? = some true
theorem ready_iff {ops : Array Oper} {d : Array Bool} (hd : d.size = ops.size) {i : Nat} : i ∈ Region.ready .any ops d ↔ ∃ o, ops[i]? = some o ∧ ¬ Done d i ∧ ∀ e ∈ o.after.toList, bindsAny e = true → Done d e.on := by
  unfold Region.ready Done
  simp only [List.mem_filter, List.mem_range]
  constructor
  · rintro ⟨hlt, h⟩
    rw [Bool.and_eq_true] at h
    have hi : i < d.size := by omega
    refine ⟨ops[i], Array.getElem?_eq_getElem hlt, ?_, fun e hm hb => ?_⟩
    · intro hdn
      have h1 := h.1
      simp [Array.getD_eq_getD_getElem?, hdn] at h1
    · have h2 := h.2
      rw [Array.getElem?_eq_getElem hlt] at h2
      simp only [Option.map_some, Option.getD_some, Array.all_eq_true'] at h2
      have := h2 e (by simpa using hm)
      rw [show Region.binds .any e = true from hb] at this
      simp only [Bool.not_true, Bool.false_or] at this
      cases he : d[e.on]? with
      | none => simp [Array.getD_eq_getD_getElem?, he] at this
      | some b => simp [Array.getD_eq_getD_getElem?, he] at this; rw [this]
  · rintro ⟨o, ho, hnd, he⟩
    have hlt : i < ops.size := (Array.getElem?_eq_some_iff.1 ho).1
    refine ⟨hlt, ?_⟩
    rw [Bool.and_eq_true]
    refine ⟨?_, ?_⟩
    · have hi : i < d.size := by omega
      rw [Array.getElem?_eq_getElem hi] at hnd
      simp only [Array.getD_eq_getD_getElem?, Array.getElem?_eq_getElem hi, Option.getD_some]
      cases hb : d[i] <;> simp_all
    · rw [ho]
      simp only [Option.map_some, Option.getD_some, Array.all_eq_true']
      intro e hm
      cases hb : Region.binds .any e with
      | false => rfl
      | true =>
        have := he e (by simpa using hm) hb
        simp [Array.getD_eq_getD_getElem?, this]

def Closed (as : List Nat) (d : Array Bool) : Prop := ∀ j, Done d j → ∀ q, (anc as j).testBit q = true → Done d q
theorem ready_anc {ops : Array Oper} {d : Array Bool} (hd : d.size = ops.size) (he : edgesOk ops.toList 0 = true) (hc : Closed (ancs ops.toList []) d) {i : Nat} (hi : i ∈ Region.ready .any ops d) {q : Nat} (hq : (anc (ancs ops.toList []) i).testBit q = true) : Done d q := by
  obtain ⟨o, ho, _, hall⟩ := (ready_iff hd).1 hi
  obtain ⟨e, h1, h2, h3, h4⟩ := anc_bit he (by simpa using ho) hq
  rcases h4 with rfl | h4
  · exact hall e h1 h2
  · exact hc _ (hall e h1 h2) q h4
theorem ready_some {ops : Array Oper} {d : Array Bool} (hd : d.size = ops.size) (he : edgesOk ops.toList 0 = true) {j : Nat} (hj : j < ops.size) (hn : ¬ Done d j) : Region.ready .any ops d ≠ [] := by
  -- the least that is not done is ready
  have : ∃ k, k < ops.size ∧ ¬ Done d k ∧ ∀ q, q < k → Done d q := by
    induction j using Nat.strongRecOn with
    | _ j ih =>
      by_cases h : ∀ q, q < j → Done d q
      · exact ⟨j, hj, hn, h⟩
      · simp only [Classical.not_forall] at h
        obtain ⟨q, hq, hnd⟩ := h
        exact ih q hq (by omega) hnd
  obtain ⟨k, hk, hnk, hall⟩ := this
  intro hnil
  have : k ∈ Region.ready .any ops d := (ready_iff hd).2 ⟨ops[k], Array.getElem?_eq_getElem hk, hnk, fun e hm hb => hall _ (edges_lt he (by simp [Array.getElem?_eq_getElem hk]) hm hb)⟩
  rw [hnil] at this
  cases this

theorem done_set {d : Array Bool} {i j : Nat} (hi : i < d.size) : Done (d.setIfInBounds i true) j ↔ j = i ∨ Done d j := by
  unfold Done
  rw [Array.getElem?_setIfInBounds]
  constructor
  · intro h
    split at h
    · rename_i e; exact .inl e.symm
    · exact .inr h
  · rintro (rfl | h)
    · simp [hi]
    · split
      · rename_i e; subst e; simp [hi]
      · exact h
theorem closed_set {as : List Nat} {d : Array Bool} {i : Nat} (hi : i < d.size) (hc : Closed as d) (ha : ∀ q, (anc as i).testBit q = true → Done d q) : Closed as (d.setIfInBounds i true) := by
  intro j hj q hq
  rw [done_set hi] at hj ⊢
  rcases hj with rfl | hj
  · exact .inr (ha q hq)
  · exact .inr (hc j hj q hq)

/-! The one writer of a slot -/
theorem writer_some : ∀ {l : List Oper} {t k j : Nat}, writer l t k = some j → k ≤ j ∧ ∃ o : Oper, l[j - k]? = some o ∧ o.dst = some t
  | [], t, k, j, h => by cases h
  | o :: r, t, k, j, h => by
    have rest : writer r t (k + 1) = some j → k ≤ j ∧ ∃ o' : Oper, (o :: r)[j - k]? = some o' ∧ o'.dst = some t := by
      intro h
      obtain ⟨h1, o', h2, h3⟩ := writer_some h
      refine ⟨by omega, o', ?_, h3⟩
      have : j - k = (j - (k + 1)) + 1 := by omega
      rw [this]; simpa using h2
    simp only [writer] at h
    split at h
    · rename_i d hd
      split at h
      · rename_i he
        cases h
        exact ⟨Nat.le_refl _, o, by simp, by rw [hd, Nat.eq_of_beq_eq_true he]⟩
      · exact rest h
    · exact rest h
theorem writer_none : ∀ {l : List Oper} {t k : Nat}, writer l t k = none → ∀ (i : Nat) (o : Oper), l[i]? = some o → o.dst ≠ some t
  | [], t, k, _, i, o, h => by simp at h
  | x :: r, t, k, h, i, o, hi => by
    simp only [writer] at h
    split at h
    · rename_i d hd
      split at h
      · cases h
      · rename_i hne
        cases i with
        | zero =>
          simp at hi; subst hi
          rw [hd]
          intro e
          cases e
          simp at hne
        | succ i => exact writer_none h i o (by simpa using hi)
    · rename_i hd
      cases i with
      | zero => simp at hi; subst hi; rw [hd]; simp
      | succ i => exact writer_none h i o (by simpa using hi)
theorem writer_shift : ∀ (l : List Oper) (t k : Nat), writer l t k = (writer l t 0).map (k + ·)
  | [], t, k => by simp [writer]
  | o :: r, t, k => by
    have e1 := writer_shift r t (k + 1)
    have e2 := writer_shift r t 1
    simp only [writer]
    split
    · split
      · simp
      · rw [e1, e2]; cases writer r t 0 <;> simp; omega
    · rw [e1, e2]; cases writer r t 0 <;> simp; omega
/-- Where no slot is written twice, the writer of an operation's slot is this operation. -/
theorem writer_at : ∀ {l : List Oper}, noDup l = true → ∀ {i : Nat} {o : Oper} {t : Nat}, l[i]? = some o → o.dst = some t → writer l t 0 = some i
  | [], _, i, o, t, h, _ => by simp at h
  | x :: r, hn, i, o, t, hi, hd => by
    simp only [noDup] at hn
    cases i with
    | zero =>
      simp at hi; subst hi
      simp [writer, hd]
    | succ i =>
      have hi' : r[i]? = some o := by simpa using hi
      have hr : noDup r = true := by
        split at hn
        · exact hn
        · split at hn
          · exact hn
          · cases hn
      have ih := writer_at hr hi' hd
      simp only [writer]
      cases hx : x.dst with
      | none => simp only; rw [writer_shift, ih]; simp; omega
      | some d =>
        simp only
        have hne : Nat.beq d t = false := by
          cases hb : Nat.beq d t
          · rfl
          · have := Nat.eq_of_beq_eq_true hb
            subst this
            rw [hx] at hn
            simp only [ih] at hn
            cases hn
        rw [hne]
        simp only
        rw [writer_shift, ih]; simp; omega

end Go.Sx
