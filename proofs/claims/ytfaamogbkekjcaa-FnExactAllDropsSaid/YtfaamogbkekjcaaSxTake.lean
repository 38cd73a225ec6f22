/- The symbolic executor is sound: operations of slots alone that may come first in a region whose order is open. No condition. -/
import Derived.Test.YtfaamogbkekjcaaSxDrawT
set_option linter.unusedVariables false
set_option linter.unusedSimpArgs false
noncomputable section
namespace Go.Sx
open Go Go.RowKit

theorem anyL_iff {α : Type} {f : α → Bool} : ∀ {l : List α}, anyL f l = true ↔ ∃ x, x ∈ l ∧ f x = true
  | [] => by simp [anyL]
  | a :: r => by
    simp only [anyL]
    split
    · rename_i h; exact ⟨fun _ => ⟨a, List.mem_cons_self .., h⟩, fun _ => rfl⟩
    · rename_i h
      rw [anyL_iff]
      constructor
      · rintro ⟨x, h1, h2⟩; exact ⟨x, List.mem_cons_of_mem _ h1, h2⟩
      · rintro ⟨x, h1, h2⟩
        rcases List.mem_cons.1 h1 with rfl | h1
        · rw [h] at h2; cases h2
        · exact ⟨x, h1, h2⟩
theorem anyL_not {α : Type} {f : α → Bool} {l : List α} (h : anyL f l = false) {x : α} (hx : x ∈ l) : f x = false := by
  cases hf : f x
  · rfl
  · rw [anyL_iff.2 ⟨x, hx, hf⟩] at h; cases h

theorem looksB_ok {ops : Array Oper} {o : Oper} {d : Tmp} (h : looksB ops.toList o d = false) : d ∉ o.looksAt ops := by
  unfold looksB at h
  split at h
  · cases h
  · rename_i h1
    intro hm
    unfold Oper.looksAt at hm
    rcases List.mem_append.1 hm with hm | hm
    · obtain ⟨x, hx, hx2⟩ := List.mem_filterMap.1 hm
      have h2 := anyL_not h1 hx
      cases x with
      | tmp t => simp only [Option.some.injEq] at hx2; subst hx2; simp [readsT] at h2
      | _ => simp at hx2
    · cases hg : o.guard with
      | none => rw [hg] at hm; cases hm
      | some gw =>
        obtain ⟨g, b⟩ := gw
        rw [hg] at hm h
        simp only [dstOf_get] at h
        simp only [Option.mem_toList] at hm
        rw [hm] at h
        simp at h

theorem apartB_ok {ops : Array Oper} {x y : Oper} (h : apartB ops.toList x y = true) : x.apart ops y = true := by
  unfold apartB at h
  split at h
  · cases h
  · rename_i d hd
    split at h
    · rename_i h1 h2
      have g1 := looksB_ok h1
      have g2 : (y.dst != some d) = true := by
        unfold dstIs at h2
        cases hy : y.dst with
        | none => rfl
        | some e =>
          rw [hy] at h2
          simp only at h2
          simp only [bne_iff_ne, ne_eq, Option.some.injEq]
          rintro rfl
          simp at h2
      unfold Oper.apart
      simp only [hd, g2, Bool.and_true, Bool.and_eq_true, Bool.not_eq_true']
      refine ⟨by simpa using g1, ?_⟩
      cases hy : y.dst with
      | none => rfl
      | some e =>
        rw [hy] at h
        simp only [Bool.not_eq_true'] at h
        have g3 := looksB_ok h
        simpa using g3
    · cases h

theorem freeB_ok {ops : Array Oper} {x : Oper} {i : Nat} : ∀ {l : List Oper} {k : Nat}, freeB ops.toList x i l k = true → ∀ (j : Nat) (y : Oper), l[j]? = some y → k + j ≠ i → waitsFor i y = false → x.apart ops y = true
  | [], k, _, j, y, h, _, _ => by simp at h
  | z :: r, k, h, j, y, hj, hne, hw => by
    have rest : freeB ops.toList x i r (k + 1) = true → j ≠ 0 → x.apart ops y = true := by
      intro h hj0
      obtain ⟨q, rfl⟩ := Nat.exists_eq_succ_of_ne_zero hj0
      exact freeB_ok h q y (by simpa using hj) (by omega) hw
    simp only [freeB] at h
    by_cases hj0 : j = 0
    · subst hj0
      simp at hj
      subst hj
      split at h
      · rename_i hb; have := Nat.eq_of_beq_eq_true hb; omega
      · split at h
        · rename_i hb; rw [hw] at hb; cases hb
        · split at h
          · rename_i hb; exact apartB_ok hb
          · cases h
    · split at h
      · exact rest h hj0
      · split at h
        · exact rest h hj0
        · split at h
          · exact rest h hj0
          · cases h

theorem gFree_ok {i : Nat} : ∀ {l : List Oper}, gFree i l = true → ∀ (j : Nat) (o : Oper), l[j]? = some o → (∀ cs b, o.op ≠ .select cs b) ∧ ∀ g b, o.guard = some (g, b) → g ≠ i
  | [], _, j, o, h => by simp at h
  | z :: r, h, j, o, hj => by
    simp only [gFree] at h
    split at h
    · cases h
    · rename_i hsel
      cases j with
      | zero =>
        simp at hj
        subst hj
        refine ⟨hsel, fun g b hg => ?_⟩
        rw [hg] at h
        simp only at h
        rintro rfl
        simp at h
      | succ j =>
        split at h
        · split at h
          · cases h
          · exact gFree_ok h j o (by simpa using hj)
        · exact gFree_ok h j o (by simpa using hj)

theorem unwaited_ok {o : Oper} (h : unwaited o = true) : o.guard = none ∧ ∀ e ∈ o.after.toList, bindsAny e = false := by
  unfold unwaited at h
  split at h
  · cases h
  · rename_i hg
    exact ⟨hg, fun e he => anyL_not (by simpa using h) he⟩

/-! A region without one of its operations -/
theorem without_get {ops : List Oper} {i p : Nat} : (without ops i)[p]? = (ops[if p < i then p else p + 1]?).map (relO i) := by
  unfold without
  rw [List.getElem?_map, List.getElem?_eraseIdx]
  split <;> rfl
theorem preI_eq (i j : Nat) : preI i j = if j ≤ i then j else j - 1 := by
  unfold preI
  split
  · rename_i h; rw [if_pos (Nat.le_of_ble_eq_true h)]
  · rename_i h; rw [if_neg (fun e => by rw [Nat.ble_eq_true_of_le e] at h; cases h)]
theorem without_pre {ops : List Oper} {i j : Nat} (h : j ≠ i) : (without ops i)[preI i j]? = (ops[j]?).map (relO i) := by
  rw [without_get, preI_eq]
  by_cases hj : j ≤ i
  · rw [if_pos hj, if_pos (by omega)]
  · rw [if_neg hj, if_neg (by omega)]
    congr 2
    omega
theorem preI_inj {i j k : Nat} (hj : j ≠ i) (hk : k ≠ i) (h : preI i j = preI i k) : j = k := by
  rw [preI_eq, preI_eq] at h
  split at h <;> split at h <;> omega
theorem preI_post {i p : Nat} : preI i (if p < i then p else p + 1) = p ∧ (if p < i then p else p + 1) ≠ i := by
  rw [preI_eq]
  by_cases hp : p < i
  · rw [if_pos hp, if_pos (by omega)]; exact ⟨rfl, by omega⟩
  · rw [if_neg hp, if_neg (by omega)]; exact ⟨by omega, by omega⟩

section
variable {P : Program} {E : Env} {H : Hnd} {β : Pl} {w0 w : World} {σ σ' : St} {a : Act} {Q : Exit → Act → World → Prop}

/-- What is done in the two regions is the same, but for operation i. -/
structure Wo (ops : Array Oper) (i : Nat) (d d' : Array Bool) : Prop where
  sz : d.size = ops.size
  sz' : d'.size + 1 = ops.size
  at_ : Done d i
  iff : ∀ j, j ≠ i → (Done d j ↔ Done d' (preI i j))

theorem relO_run (i : Nat) (o : Oper) (ρ : Operand → Value) : execOp ρ (relO i o) = execOp ρ o := rfl

theorem without_op {ops : Array Oper} {i j : Nat} (hg : gFree i ops.toList = true) (hj : j ≠ i) {K K' : Act → World → Prop} (hK : ∀ a w, K' a w → K a w)
    (h : wpOp P (without ops.toList i).toArray Q (preI i j) K' a w) : wpOp P ops Q j K a w := by
  have hget := without_pre (ops := ops.toList) hj
  have hof : ops.toList[j]? = ops[j]? := Array.getElem?_toList ..
  rw [hof] at hget
  cases ho : ops[j]? with
  | none =>
    rw [ho] at hget
    unfold wpOp at h ⊢
    have : (without ops.toList i).toArray[preI i j]? = none := by simpa using hget
    rw [this] at h
    rw [ho]
    exact hK _ _ h
  | some o =>
    rw [ho] at hget
    have e1 : (without ops.toList i).toArray[preI i j]? = some (relO i o) := by simpa using hget
    unfold wpOp at h ⊢
    rw [e1] at h
    rw [ho]
    simp only at h ⊢
    have hw : Region.wanted (relO i o) (yielded (without ops.toList i).toArray a.tmps) = Region.wanted o (yielded ops a.tmps) := by
      unfold Region.wanted relO
      cases hgd : o.guard with
      | none => rfl
      | some gb =>
        obtain ⟨g, b⟩ := gb
        have hne := (gFree_ok hg j o (by simpa using ho)).2 g b hgd
        simp only
        have : yielded (without ops.toList i).toArray a.tmps (preI i g) = yielded ops a.tmps g := by
          unfold yielded
          have h2 := without_pre (ops := ops.toList) hne
          have h3 : ((without ops.toList i).toArray[preI i g]?).bind (·.dst) = (ops[g]?).bind (·.dst) := by
            rw [List.getElem?_toArray, h2, Array.getElem?_toList]
            cases ops[g]? <;> rfl
          rw [h3]
        rw [this]
    rw [hw] at h
    split
    · rename_i hwt
      rw [if_pos hwt] at h
      refine h.imp (fun h => ?_) (fun h => h)
      exact Oper.wp_mono hK h
    · rename_i hwt
      rw [if_neg hwt] at h
      exact hK _ _ h

theorem without_any {ops : Array Oper} {i : Nat} (hi : i < ops.size) (hlt : ∀ (j : Nat) (o : Oper), ops[j]? = some o → ∀ e ∈ o.after.toList, bindsAny e = true → e.on < ops.size) (hg : gFree i ops.toList = true) :
    ∀ (fuel : Nat) {d d' : Array Bool} {a : Act} {w : World}, Wo ops i d d' → wpAny P .any (without ops.toList i).toArray Q fuel d' a w → wpAny P .any ops Q fuel d a w := by
  have hsize : (without ops.toList i).toArray.size + 1 = ops.size := by
    simp only [without, List.size_toArray, List.length_map, List.length_eraseIdx, Array.length_toList]
    rw [if_pos hi]
    omega
  have ready : ∀ {d d' : Array Bool}, Wo ops i d d' → ∀ j, j ∈ Region.ready .any ops d → j ≠ i ∧ preI i j ∈ Region.ready .any (without ops.toList i).toArray d' := by
    intro d d' hW j hj
    obtain ⟨o, ho, hnd, hall⟩ := (ready_iff hW.sz).1 hj
    have hji : j ≠ i := fun e => hnd (e ▸ hW.at_)
    refine ⟨hji, (ready_iff (by have := hW.sz'; omega)).2 ⟨relO i o, ?_, fun h => hnd ((hW.iff j hji).2 h), fun e hm hb => ?_⟩⟩
    · have := without_pre (ops := ops.toList) hji
      have hof : ops.toList[j]? = ops[j]? := Array.getElem?_toList ..
      rw [hof, ho] at this
      simpa using this
    · simp only [relO, List.mem_map, List.mem_filter] at hm
      obtain ⟨e', ⟨h1, h2⟩, rfl⟩ := hm
      have hne : e'.on ≠ i := by rintro h; simp [h] at h2
      exact (hW.iff _ hne).1 (hall e' h1 hb)
  have back : ∀ {d d' : Array Bool}, Wo ops i d d' → Region.ready .any ops d = [] → Region.ready .any (without ops.toList i).toArray d' = [] := by
    intro d d' hW hnil
    cases hr : Region.ready .any (without ops.toList i).toArray d' with
    | nil => rfl
    | cons p r =>
      exfalso
      have hp : p ∈ Region.ready .any (without ops.toList i).toArray d' := by rw [hr]; exact List.mem_cons_self ..
      obtain ⟨o', ho', hnd, hall⟩ := (ready_iff (by have := hW.sz'; omega)).1 hp
      obtain ⟨g1, g2⟩ := preI_post (i := i) (p := p)
      have hget := without_get (ops := ops.toList) (i := i) (p := p)
      rw [List.getElem?_toArray, hget, Array.getElem?_toList] at ho'
      obtain ⟨o, ho, rfl⟩ := Option.map_eq_some_iff.1 ho'
      have : (if p < i then p else p + 1) ∈ Region.ready .any ops d := (ready_iff hW.sz).2 ⟨o, ho, fun h => hnd (by have := (hW.iff _ g2).1 h; rwa [g1] at this), fun e hm hb => by
        by_cases hei : e.on = i
        · rw [hei]; exact hW.at_
        · rw [hW.iff _ hei]
          exact hall { e with on := preI i e.on } (by
            simp only [relO, List.mem_map, List.mem_filter]
            exact ⟨e, ⟨hm, by cases hbq : e.on.beq i with | true => exact absurd (Nat.eq_of_beq_eq_true hbq) hei | false => rfl⟩, rfl⟩) hb⟩
      rw [hnil] at this
      cases this
  intro fuel
  induction fuel with
  | zero =>
    intro d d' a w hW h
    refine ⟨?_, h.2⟩
    cases hr : Region.ready .any ops d with
    | nil => rfl
    | cons j r =>
      have hj := ready hW j (by rw [hr]; exact List.mem_cons_self ..)
      rw [h.1] at hj
      cases hj.2
  | succ fuel ih =>
    intro d d' a w hW h
    refine ⟨fun hnil => h.1 (back hW hnil), fun j hj => ?_⟩
    obtain ⟨hji, hj'⟩ := ready hW j hj
    refine without_op hg hji (fun a w hh => ih ?_ hh) (h.2 _ hj')
    obtain ⟨o, ho, hnd, _⟩ := (ready_iff hW.sz).1 hj
    have hjl : j < d.size := by rw [hW.sz]; exact (Array.getElem?_eq_some_iff.1 ho).1
    have hjl' : preI i j < d'.size := by
      have h1 := hW.sz
      have h2 := hW.sz'
      have hi' := hi
      rw [preI_eq]
      split <;> omega
    refine ⟨by simpa using hW.sz, by simpa using hW.sz', (done_set hjl).2 (.inr hW.at_), fun k hk => ?_⟩
    rw [done_set hjl, done_set hjl', hW.iff k hk]
    constructor
    · rintro (rfl | h1)
      · exact .inl rfl
      · exact .inr h1
    · rintro (h1 | h1)
      · exact .inl (preI_inj hk hji h1)
      · exact .inr h1

theorem takeV_ok (h : RepS E β w0 σ a w) {o : Oper} {sv : SV} (hv : takeV P (evalO σ.tm) o = some sv) : ∃ v, (∀ w', (execOp a.eval o).run P w' = .ok (.value v) w') ∧ SV.rep E β sv v := by
  unfold takeV at hv
  split at hv
  · rename_i x ho
    cases hv
    exact ⟨a.eval x, fun w' => by simp only [execOp, ho, Sem.run_pure], evalO_rep h.tm x⟩
  · rename_i x ho
    cases hv
    exact ⟨a.eval x, fun w' => by simp only [execOp, ho, Sem.run_pure], evalO_rep h.tm x⟩
  · rename_i t x f ho
    have hx := evalO_rep h.tm x
    split at hv
    · rename_i fs j p hu he
      rw [he] at hx
      simp only [SV.rep] at hx
      obtain ⟨b, hbj, hev⟩ := hx
      split at hv
      · rename_i fd hfd
        split at hv
        · rename_i n hn
          cases hv
          refine ⟨.pointer (some ⟨b.blk, b.off + p + fd.offset, none⟩), fun w' => ?_, ?_⟩
          · simp only [execOp, ho, hev, Sem.run_bind, fieldAt_run hu hfd hn w', Result.andThen_ok, Sem.run_pure]
          · simp only [SV.rep]
            exact ⟨b, hbj, by rw [Nat.add_assoc]⟩
        · cases hv
      · cases hv
    · cases hv
  · cases hv

theorem takeFind_ok {ops : List Oper} {tm : List SV} : ∀ {l : List Oper} {k i : Nat} {tm' : List SV}, takeFind P ops tm l k = some (i, tm') →
    ∃ o sv, k ≤ i ∧ l[i - k]? = some o ∧ unwaited o = true ∧ takeV P (evalO tm) o = some sv ∧ freeB ops o i ops 0 = true ∧ gFree i ops = true ∧ tm' = putT tm o.dst sv
  | [], k, i, tm', h => by cases h
  | o :: r, k, i, tm', h => by
    have rest : takeFind P ops tm r (k + 1) = some (i, tm') → ∃ o' sv, k ≤ i ∧ (o :: r)[i - k]? = some o' ∧ unwaited o' = true ∧ takeV P (evalO tm) o' = some sv ∧ freeB ops o' i ops 0 = true ∧ gFree i ops = true ∧ tm' = putT tm o'.dst sv := by
      intro h
      obtain ⟨o', sv, h1, h2, h3⟩ := takeFind_ok h
      refine ⟨o', sv, by omega, ?_, h3⟩
      have e : i - k = (i - (k + 1)) + 1 := by omega
      rw [e]
      simpa using h2
    simp only [takeFind] at h
    split at h
    · exact rest h
    · rename_i hu
      split at h
      · exact rest h
      · rename_i v hv
        split at h
        · rename_i hf hg
          cases h
          exact ⟨o, v, Nat.le_refl _, by simp, hu, hv, hf, hg, rfl⟩
        · exact rest h

theorem regionC_any (hH : HndOk P E H) (hHp : HndPc E H) (hN : Named P) {ops : Array Oper} {r : Out St} (hr : regionC H P ops.toList σ = some r) (h : RepS E β w0 σ a w) (hs : r.sel E = some σ')
    (hQ : ∀ β' a' w', Ext β β' σ.nxt σ'.nxt → RepS E β' w0 σ' a' w' → Q .normal a' w') : wpAny P .any ops Q ops.size (Array.replicate ops.size false) a w := by
  have hsk : ∀ l : List Oper, sinkAt H.fx l ≤ l.length := by
    intro l
    induction l with
    | nil => simp [sinkAt]
    | cons o r ih => simp only [sinkAt]; split <;> simp <;> omega
  have hskB : ∀ l : List Oper, sinkAtB H.fx l ≤ l.length := by
    intro l
    induction l with
    | nil => simp [sinkAtB]
    | cons o r ih => simp only [sinkAtB]; split <;> simp <;> omega
  have fits : ∀ {k : Nat}, fitsK H ops.toList k σ = true → sinksL ops.toList (ancs ops.toList []) k (ops.size - k) = true ∧ σ.nxt + k * σ.sz ≤ σ.lim := by
    intro k hk
    unfold fitsK at hk
    split at hk
    · rename_i h1; exact ⟨by simpa using h1, Nat.le_of_ble_eq_true hk⟩
    · cases hk
  unfold regionC at hr
  split at hr
  · rename_i he hnd
    split at hr
    · rename_i hf
      cases hr
      exact regionK_any hH hHp hN h he hnd (by have := hsk ops.toList; simpa using this) (fits hf).1 (fits hf).2 hs hQ
    · split at hr
      · rename_i hf
        cases hr
        exact regionK_any hH hHp hN h he hnd (by have := hskB ops.toList; simpa using this) (fits hf).1 (fits hf).2 hs hQ
      · cases hr
  · cases hr

theorem regionT_any (hH : HndOk P E H) (hHp : HndPc E H) (hN : Named P) (hpan : ∀ c a w, ¬ Q (.panic c) a w) : ∀ (n : Nat) {ops : Array Oper} {σ : St} {a : Act}, (∀ (j : Nat) (o : Oper), ops[j]? = some o → ∀ e ∈ o.after.toList, bindsAny e = true → e.on < ops.size) →
    RepS E β w0 σ a w → (regionT H P n ops.toList σ).sel E = some σ' → (∀ β' a' w', Ext β β' σ.nxt σ'.nxt → RepS E β' w0 σ' a' w' → Q .normal a' w') → wpAny P .any ops Q ops.size (Array.replicate ops.size false) a w
  | 0, ops, σ, a, hlt, h, hs, hQ => by cases hs
  | n + 1, ops, σ, a, hlt, h, hs, hQ => by
    simp only [regionT] at hs
    split at hs
    · rename_i r hr; exact regionC_any hH hHp hN hr h hs hQ
    · split at hs
      · cases hs
      · rename_i i tm hf
        obtain ⟨o, sv, _, ho, hu, hv, hfree, hg, rfl⟩ := takeFind_ok hf
        rw [Nat.sub_zero, Array.getElem?_toList] at ho
        have hil := (Array.getElem?_eq_some_iff.1 ho).1
        obtain ⟨hgd, hun⟩ := unwaited_ok hu
        obtain ⟨v, hrun, hrep⟩ := takeV_ok h hv
        obtain ⟨m, hm⟩ : ∃ m, ops.size = m + 1 := ⟨ops.size - 1, by omega⟩
        have hlist : (Array.replicate ops.size false).size = ops.size := by simp
        have hready : i ∈ Region.ready .any ops (Array.replicate ops.size false) := (ready_iff hlist).2 ⟨o, ho, by unfold Done; rw [Array.getElem?_replicate]; split <;> simp, fun e he hb => by rw [hun e he] at hb; cases hb⟩
        have hsize : (without ops.toList i).toArray.size = m := by
          simp only [without, List.size_toArray, List.length_map, List.length_eraseIdx, Array.length_toList]
          rw [if_pos hil]
          omega
        have hrep' : RepS E β w0 { σ with tm := putT σ.tm o.dst sv } (a.put o.dst v) w :=
          { tm := putT_rep h.tm hrep _, df := (put_defers a _ _).trans h.df, own := h.own, fresh := h.fresh, le := h.le, below := h.below, ro := h.ro, pc := h.pc }
        have hrest := regionT_any hH hHp hN hpan n (ops := (without ops.toList i).toArray) (σ := { σ with tm := putT σ.tm o.dst sv }) (a := a.put o.dst v) (fun j o' ho' e he hb => by
          rw [List.getElem?_toArray, without_get, Array.getElem?_toList] at ho'
          obtain ⟨o1, h1, rfl⟩ := Option.map_eq_some_iff.1 ho'
          simp only [relO, List.mem_map, List.mem_filter] at he
          obtain ⟨e1, ⟨h2, h3⟩, rfl⟩ := he
          have h4 := hlt _ o1 h1 e1 h2 hb
          have hne : e1.on ≠ i := by rintro h; simp [h] at h3
          rw [hsize]
          show preI i e1.on < m
          rw [preI_eq]
          split <;> omega) hrep' (by simpa using hs) hQ
        rw [show wpAny P .any ops Q ops.size (Array.replicate ops.size false) a w = wpAny P .any ops Q (m + 1) (Array.replicate ops.size false) a w by rw [← hm]]
        refine wpAny_first (v := v) ho (fun j o' cs b hj => (gFree_ok hg j o' (by simpa using hj)).1 cs b) (fun c a w h => absurd h (hpan _ _ _)) m (Array.replicate ops.size false) a w (fun j oj hj hji _ hno => ?_) hready (.inl ⟨by unfold Region.wanted; rw [hgd], hrun⟩) ?_
        · refine freeB_ok hfree j oj (by simpa using hj) (by omega) ?_
          cases hw : waitsFor i oj
          · rfl
          · exfalso
            unfold waitsFor at hw
            obtain ⟨e, he, hb⟩ := anyL_iff.1 hw
            split at hb
            · rename_i hbb
              exact hno e (by simpa using he) hbb (Nat.eq_of_beq_eq_true hb)
            · cases hb
        · rw [hsize] at hrest
          refine without_any hil hlt hg m ⟨by simp, by simp; omega, ?_, fun j hj => ?_⟩ hrest
          · unfold Done; simp [hil]
          · have nd : ∀ (k q : Nat), ¬ Done (Array.replicate k false) q := fun k q hq => by
              unfold Done at hq; rw [Array.getElem?_replicate] at hq; split at hq <;> cases hq
            rw [done_set (by simpa using hil)]
            constructor
            · rintro (e | e)
              · exact absurd e hj
              · exact absurd e (nd _ _)
            · intro e; exact absurd e (nd _ _)

theorem region_wp (hH : HndOk P E H) (hHp : HndPc E H) (hN : Named P) (hmix : P.follows .mixedOrders = true) {ops : Array Oper} {id : Nat} {draw : Bool} (h : RepS E β w0 σ a w)
    (hs : (region H P ops.toList draw σ).sel E = some σ') (hQ : ∀ β' a' w', Ext β β' σ.nxt σ'.nxt → RepS E β' w0 σ' a' w' → Q .normal a' w') : (Code.region id ops draw).wp P Q a w := by
  unfold region at hs
  split at hs
  · refine wp_region ?_
    have := seqOps_wp (Q := Q) hH hN ops.toList 0 (fun k => by simp) h hs hQ
    rwa [Array.length_toList, ← List.range_eq_range'] at this
  · refine Code.wp_mono (Q := fun e a w => match e with | .normal => Q .normal a w | _ => False) (fun e a w h => ?_) (wp_region_any hmix ?_)
    · cases e <;> first | exact h | exact h.elim
    · have hdrew : RepS E β w0 σ a { w with drawn := w.drawn + 1 } :=
        { tm := h.tm, df := h.df, own := h.own.below (Pl.le_refl _) (Below.refl _ _).drew, fresh := h.fresh, le := h.le, below := h.below.drew, ro := h.ro, pc := h.pc }
      split at hs
      · rename_i he
        refine regionT_any hH hHp hN (fun _ _ _ h => h) 8 (fun j o ho e hm hb => ?_) hdrew hs hQ
        have h1 := edges_lt he (by simpa using ho) hm hb
        have h2 := (Array.getElem?_eq_some_iff.1 ho).1
        omega
      · cases hs
end
end Go.Sx
