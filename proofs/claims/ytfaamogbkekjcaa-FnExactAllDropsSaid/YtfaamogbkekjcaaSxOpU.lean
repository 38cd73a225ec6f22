/- The symbolic executor's single operations are sound, third part: indexes, slices, literals, and all of them. No condition. -/
import Derived.Test.YtfaamogbkekjcaaSxOpT
set_option linter.unusedVariables false
set_option linter.unusedSimpArgs false
noncomputable section
namespace Go.Sx
open Go Go.RowKit

section
variable {P : Program} {E : Env} {β : Pl} {m : Mm} {w : World} {pc : PC} {r : Res}

theorem enumI_sel {α : Type} {t : Tm} {f : PC → Nat → Out α} {a : α} : ∀ (k i : Nat) {pc : PC}, PcOk E pc → (i : Int) ≤ (t.den E).toI → (t.den E).toI ≤ (i + k : Nat) →
    (enumI pc t f i k).sel E = some a → ∃ pc' j, PcOk E pc' ∧ (t.den E).toI = (j : Nat) ∧ (f pc' j).sel E = some a
  | 0, i, pc, hp, h1, h2, h => by
    have he : (t.den E).toI = (i : Nat) := by omega
    exact ⟨_, i, hp.cons (by simp [Tm.den, Opc.den, he]), he, h⟩
  | k + 1, i, pc, hp, h1, h2, h => by
    simp only [enumI] at h
    obtain ⟨pc', hp', h⟩ := fork_sel hp h
    rcases h with ⟨hz, h⟩ | ⟨hz, h⟩
    · have he : (t.den E).toI = (i : Nat) := of_decide_eq_true hz
      exact ⟨pc', i, hp', he, h⟩
    · have he : ¬ (t.den E).toI = (i : Nat) := of_decide_eq_false hz
      exact enumI_sel k (i + 1) hp' (by omega) (by omega) h

theorem pickE_ok (hp : PcOk E pc) : ∀ {t u : Tm} {a b : Nat}, pickE pc t = some (u, a, b) → (a : Int) ≤ (u.den E).toI ∧ (u.den E).toI ≤ (b : Nat) := by
  intro t
  induction t with
  | op o x y ihx ihy =>
    intro u a b h
    unfold pickE at h
    split at h
    · rename_i h1 h2 _
      cases h
      exact ⟨loB_ok hp h1, hiB_ok hp h2⟩
    · simp only at h
      split at h
      · rename_i z hz; cases h; exact ihx hz
      · exact ihy h
  | _ =>
    intro u a b h
    unfold pickE at h
    split at h
    · rename_i h1 h2 _
      cases h
      exact ⟨loB_ok hp h1, hiB_ok hp h2⟩
    · cases h

theorem idx_sel {α : Type} {n : Nat} {f : PC → Nat → Out α} {a : α} : ∀ (fuel : Nat) {pc : PC} {t : Tm}, PcOk E pc → (idx n f fuel pc t).sel E = some a →
    ∃ pc' i, PcOk E pc' ∧ i < n ∧ (t.den E).toI = (i : Nat) ∧ (f pc' i).sel E = some a
  | 0, _, _, _, h => by cases h
  | fuel + 1, pc, t, hp, h => by
    simp only [idx] at h
    split at h
    · rename_i i hi
      split at h
      · rename_i hlt
        exact ⟨pc, i, hp, by simpa [Nat.blt_eq] using hlt, litI_ok hp hi, h⟩
      · cases h
    · cases h
    · split at h
      · rename_i c x y
        obtain ⟨pc', hp', h⟩ := fork_sel hp h
        rcases h with ⟨hz, h⟩ | ⟨hz, h⟩
        · obtain ⟨pc2, i, h1, h2, h3, h4⟩ := idx_sel fuel hp' h
          exact ⟨pc2, i, h1, h2, by simp only [Tm.den, hz, if_true]; exact h3, h4⟩
        · obtain ⟨pc2, i, h1, h2, h3, h4⟩ := idx_sel fuel hp' h
          exact ⟨pc2, i, h1, h2, by simp only [Tm.den, hz, Bool.false_eq_true, if_false]; exact h3, h4⟩
      · split at h
        · rename_i u x y hpk
          split at h
          · rename_i hle
            obtain ⟨b1, b2⟩ := pickE_ok hp hpk
            have hle' : x ≤ y := Nat.le_of_ble_eq_true hle
            obtain ⟨pc', j, hp', _, h'⟩ := enumI_sel (y - x) x hp b1 (by rw [Nat.add_sub_cancel' hle']; exact b2) h
            exact idx_sel fuel hp' h'
          · cases h
        · cases h

/-! Literals of structs and arrays -/
theorem fold_lay (o : Nat) : ∀ (vs : List Value) (k : Nat) (arr : Array Value), o + k + vs.length ≤ arr.size →
    ((vs.zipIdx k).foldl (fun cs p => cs.setIfInBounds (o + p.2) p.1) arr).toList = arr.toList.take (o + k) ++ vs ++ arr.toList.drop (o + k + vs.length)
  | [], k, arr, _ => by simp
  | v :: r, k, arr, h => by
    simp only [List.length_cons] at h
    simp only [List.zipIdx_cons, List.foldl_cons]
    rw [fold_lay o r (k + 1) (arr.setIfInBounds (o + k) v) (by simp; omega)]
    simp only [Array.toList_setIfInBounds, List.length_cons]
    have h1 : (arr.toList.set (o + k) v).take (o + (k + 1)) = arr.toList.take (o + k) ++ [v] := by
      rw [← Nat.add_assoc, List.take_succ_eq_append_getElem (by simp; omega)]
      simp [List.take_set_of_le]
    have h2 : (arr.toList.set (o + k) v).drop (o + (k + 1) + r.length) = arr.toList.drop (o + k + (r.length + 1)) := by
      rw [List.drop_set_of_lt (by omega)]
      congr 1
      omega
    rw [h1, h2]
    simp

theorem lay_rep {cs xs : List SV} {vs us : List Value} (h : SV.reps E β cs vs) (k : SV.reps E β xs us) (o : Nat) :
    SV.reps E β (lay cs o xs) (vs.take o ++ us ++ vs.drop (o + us.length)) := by
  unfold lay
  rw [reps_length k]
  exact reps_append (reps_append (reps_take h o) k) (reps_drop h _)

theorem fill_run {size : Nat → Option (Nat × Nat)} {ev : Operand → SV} {ρ : Operand → Value} (hev : ∀ x, SV.rep E β (ev x) (ρ x)) :
    ∀ (ps : List (Nat × Operand)) {cs out : List SV} {arr : Array Value}, SV.reps E β cs arr.toList → (∀ v ∈ arr.toList, v.oneCell' = true) →
      fillS size cs (ps.map fun p => (p.1, ev p.2)) = some out →
      ∃ arr', Instr.fill size arr (ps.map fun p => (p.1, ρ p.2)) = some arr' ∧ SV.reps E β out arr'.toList ∧ (∀ v ∈ arr'.toList, v.oneCell' = true)
  | [], cs, out, arr, hr, h1, h => by
    simp only [List.map_nil, fillS, Option.some.injEq] at h
    subst h
    exact ⟨arr, rfl, hr, h1⟩
  | (i, x) :: ps, cs, out, arr, hr, h1, h => by
    simp only [List.map_cons, fillS] at h
    split at h
    · rename_i o n xs hsz hcs
      split at h
      · rename_i hn hfit
        obtain ⟨hc, hc1⟩ := cells_rep hcs (hev x)
        have e1 : (ρ x).cells.size = n := by
          have := reps_length hc
          rw [Array.length_toList] at this
          rw [this]; exact Nat.eq_of_beq_eq_true hn
        have e2 := reps_length hr
        rw [Array.length_toList] at e2
        have hxl := reps_length hc
        rw [Array.length_toList] at hxl
        have hle : o + (ρ x).cells.size ≤ arr.size := by
          have := Nat.le_of_ble_eq_true hfit
          omega
        have hfold : ((ρ x).cells.zipIdx.foldl (fun cs p => cs.setIfInBounds (o + p.2) p.1) arr).toList = arr.toList.take o ++ (ρ x).cells.toList ++ arr.toList.drop (o + (ρ x).cells.toList.length) := by
          have := fold_lay o (ρ x).cells.toList 0 arr (by simpa using hle)
          rw [← Array.foldl_toList, Array.toList_zipIdx]
          simpa using this
        have hl := lay_rep hr hc o
        have ih := fill_run (size := size) (ev := ev) (ρ := ρ) hev ps (cs := lay cs o xs) (out := out) (arr := (ρ x).cells.zipIdx.foldl (fun cs p => cs.setIfInBounds (o + p.2) p.1) arr)
          (by rw [hfold]; exact hl) (by
            rw [hfold]
            intro v hv
            rcases List.mem_append.1 hv with hv | hv
            · rcases List.mem_append.1 hv with hv | hv
              · exact h1 v (List.mem_of_mem_take hv)
              · exact hc1 v hv
            · exact h1 v (List.mem_of_mem_drop hv)) h
        obtain ⟨arr', h3, h4⟩ := ih
        refine ⟨arr', ?_, h4⟩
        simp only [List.map_cons, Instr.fill, hsz]
        rw [if_neg (by simp [e1]; omega)]
        exact h3
      · cases h
    · cases h


theorem fieldPlaces_run : ∀ (fs : List Field) {pl : List (Nat × Nat)}, fieldPlaces P fs = some pl → ∀ w, (fs.mapM (fun f => do pure (f.offset, ← sizeOf f.type) : Field → Sem (Nat × Nat))).run P w = .ok pl w
  | [], pl, h, w => by cases h; rfl
  | f :: r, pl, h, w => by
    simp only [fieldPlaces] at h
    split at h
    · rename_i n x hn hx
      cases h
      have ih := fieldPlaces_run r hx w
      simp only [List.mapM_cons, Sem.run_bind, szT_run hn, Result.andThen_ok, Sem.run_pure, ih]
    · cases h

theorem rep_zero {z : List SV} {vz : Array Value} (hz : SV.reps E β z vz.toList) (hpos : 0 < z.length) : ∀ (n : Nat), SV.reps E β (rep n z) (((Array.range (n * z.length)).map (fun i => vz[i % vz.size]!)).toList) := by
  have hlen : vz.size = z.length := by have := reps_length hz; simpa using this
  intro n
  have key : ∀ n, (((Array.range (n * z.length)).map (fun i => vz[i % vz.size]!)).toList) = (List.replicate n vz.toList).flatten := by
    intro n
    induction n with
    | zero => simp
    | succ n ih =>
      rw [List.replicate_succ', List.flatten_append, ← ih]
      simp only [Array.toList_map, Array.toList_range, List.flatten_singleton, Nat.succ_mul, List.range_add, List.map_append, List.map_map]
      congr 1
      apply List.ext_getElem?
      intro i
      simp only [List.getElem?_map, Array.getElem?_toList]
      by_cases hi : i < z.length
      · have hm : (n * z.length + i) % vz.size = i := by rw [hlen, Nat.mul_comm, Nat.mul_add_mod, Nat.mod_eq_of_lt hi]
        simp only [List.getElem?_range, hi, if_true, Option.map_some, Function.comp, hm]
        rw [getElem!_pos vz i (by omega)]
        simp [hlen, hi]
      · simp [hi, hlen]
  rw [key]
  induction n with
  | zero => simp [rep]
  | succ n ih =>
    simp only [rep, List.replicate_succ, List.flatten_cons]
    exact reps_append hz ih

/-- What is shown of an operation without a call, in the machine's own words. -/
def OpOkN (P : Program) (E : Env) (β : Pl) (n l : Nat) (w : World) (s : Sem Next) (r : Res) : Prop :=
  PcOk E r.pc ∧ r.nxt ≤ l ∧ ∃ v w' β', s.run P w = .ok (.value v) w' ∧ SV.rep E β' r.v v ∧ Step E β β' w w' n r.nxt r.nb
theorem OpOk.next {n l : Nat} {s : Sem Value} (h : OpOk P E β n l w s r) : OpOkN P E β n l w (do pure (.value (← s))) r := by
  obtain ⟨h1, h2, v, w', β', h3, h4, h5⟩ := h
  exact ⟨h1, h2, v, w', β', by simp [h3], h4, h5⟩

theorem newB_ok {s : Sem Value} {cs : List SV} {f : Nat → SV} {arr : Array Value} {e : TypeId} {v : Value} (cap : Nat) (hf : Fresh β m.nxt m.lim) (hp : PcOk E pc)
    (hr : SV.reps E β cs arr.toList) (h1 : ∀ v ∈ arr.toList, v.oneCell' = true) (hs : s.run P w = .ok v (w.alloc (.cells arr e)))
    (hv : ∀ β' : Pl, β' m.nxt = some ⟨w.heap.size, 0, cap, []⟩ → SV.rep E β' (f m.nxt) v) (h : (newB m pc cs f).sel E = some r) : OpOk P E β m.nxt m.lim w s r := by
  unfold newB at h
  split at h
  · cases h
  · rename_i hlt
    simp only [Out.sel, Option.some.injEq] at h
    subst h
    have hlt' : m.nxt < m.lim := by
      rcases Nat.lt_or_ge m.nxt m.lim with h | h
      · exact h
      · rw [Nat.ble_eq_true_of_le h] at hlt; cases hlt
    exact ⟨hp, hlt', v, _, upd β m.nxt ⟨w.heap.size, 0, cap, []⟩, hs, hv _ (by simp [upd]), step_new hf hlt' e cap hr h1⟩

theorem newE_ok {s : Sem Value} {cs : List SV} {arr : Array Value} {e size : Nat} (hf : Fresh β m.nxt m.lim) (hp : PcOk E pc)
    (hr : SV.reps E β cs arr.toList) (hs : s.run P w = .ok (.slice (some ⟨w.heap.size, 0, none⟩) 0 0) (w.alloc (.cells arr e)))
    (h : (newE m pc e size cs).sel E = some r) : OpOk P E β m.nxt m.lim w s r := by
  unfold newE at h
  split at h
  · rename_i hlt
    simp only [Out.sel, Option.some.injEq] at h
    subst h
    have hlt' : m.nxt < m.lim := by
      rcases Nat.lt_or_ge m.nxt m.lim with h | h
      · exact h
      · rw [Nat.ble_eq_true_of_le h] at hlt; cases hlt
    simp only [reps_nil] at hr
    have hsz : arr.size = 0 := by rw [← Array.length_toList, hr]; rfl
    exact ⟨hp, hlt', _, _, upd β m.nxt ⟨w.heap.size, 0, 0, []⟩, hs, by simp only [SV.rep]; exact ⟨⟨w.heap.size, 0, 0, []⟩, by simp [upd], rfl, rfl, rfl⟩,
      step_newR hf hlt' e 0 (some (e, size, 0)) (by simp [hr]) (fun v hv => by rw [hr] at hv; cases hv) ⟨rfl, by simp [hsz], Nat.le_refl _, Nat.zero_le _, by simp⟩ (fun _ _ _ => rfl)⟩
  · cases h

theorem litNat_rep {s : SV} {n : Nat} {v : Value} (h : litNat s = some n) (hr : SV.rep E β s v) : ∃ k, v = .int k (n : Nat) := by
  unfold litNat at h
  split at h
  · cases h; exact ⟨_, int_rep hr⟩
  · cases h

theorem bound_run {ev : Operand → SV} {ρ : Operand → Value} (hev : ∀ x, SV.rep E β (ev x) (ρ x)) {x : Option Operand} {d n : Nat} (h : bound ev x d = some n) :
    (x = none ∧ n = d) ∨ ∃ y k, x = some y ∧ ρ y = .int k (n : Nat) := by
  unfold bound at h
  split at h
  · cases h; exact .inl ⟨rfl, rfl⟩
  · rename_i y
    obtain ⟨k, hk⟩ := litNat_rep h (hev y)
    exact .inr ⟨y, k, rfl, hk⟩

theorem sliceBounds_run {ev : Operand → SV} {ρ : Operand → Value} (hev : ∀ x, SV.rep E β (ev x) (ρ x)) {lo hi : Option Operand} {n l h c : Nat} (isS : Bool)
    (hl : bound ev lo 0 = some l) (hh : bound ev hi n = some h) (h1 : l ≤ h) (h2 : h ≤ c) (w : World) :
    (Instr.sliceBounds isS n c (lo.map ρ) (hi.map ρ) none).run P w = .ok (l, h, c) w := by
  have sb : ∀ (k : IntKind) (i y : Nat) (code : BoundsCode), i ≤ y → (Instr.sliceBound (.int k (i : Nat)) y code).run P w = .ok i w := by
    intro k i y code hle
    simp [Instr.sliceBound, asIntOf, hle]
  unfold Instr.sliceBounds
  rcases bound_run hev hl with ⟨rfl, rfl⟩ | ⟨x, k, rfl, hx⟩ <;> rcases bound_run hev hh with ⟨rfl, rfl⟩ | ⟨y, k', rfl, hy⟩
  · simp
  · simp [hy, sb _ _ _ _ h2]
  · simp [hx, sb _ _ _ _ h1]
  · simp [hx, hy, sb _ _ _ _ h1, sb _ _ _ _ h2]

theorem sliceS_ok {t : TypeId} {x : Operand} {ev : Operand → SV} {ρ : Operand → Value} (hev : ∀ x, SV.rep E β (ev x) (ρ x)) {lo hi : Option Operand} {j o n : Nat} {e : TypeId}
    (hb : idxBase P t (ev x) = some (j, o, n, e)) (hp : PcOk E pc) (hl : m.nxt ≤ m.lim)
    (h : (sliceS P m pc t (ev x) (bound ev lo 0) (bound ev hi n)).sel E = some r) :
    OpOk P E β m.nxt m.lim w (Instr.sliceAt t (ρ x) (lo.map ρ) (hi.map ρ) none) r := by
  have hx := hev x
  unfold sliceS at h
  split at h
  · rename_i n' e' j' o' l h' ht hex hlo hhi
    rw [hex] at hx hb
    simp only [idxBase, ht, Option.some.injEq, Prod.mk.injEq] at hb
    obtain ⟨rfl, rfl, rfl, rfl⟩ := hb
    simp only [SV.rep] at hx
    obtain ⟨b, hbj, hv⟩ := hx
    split at h
    · rename_i s hs h1 h2 h3
      have h1' := Nat.le_of_ble_eq_true h1
      have h2' := Nat.le_of_ble_eq_true h2
      have h3' : l < n' := by simpa [Nat.blt_eq] using h3
      have hr := sliceBounds_run (P := P) hev false hlo hhi h1' h2' w
      refine .val (v := .slice (some ⟨b.blk, b.off + (o' + l * s), none⟩) (h' - l) (n' - l)) hl hp ?_ ?_ h
      · simp only [Instr.sliceAt, Sem.run_bind, run_underlying ht, Result.andThen_ok, hv, Instr.sureAddr, Sem.run_pure, hr, szT_run hs]
        rw [if_neg (by omega), add_at, Nat.add_assoc]
      · simp only [SV.rep]
        exact ⟨b, _, hbj, rfl, by omega⟩
    · cases h
  · rename_i e' j' o' n' l h' ht hex hlo hhi
    rw [hex] at hx hb
    simp only [idxBase, ht, Option.some.injEq, Prod.mk.injEq] at hb
    obtain ⟨rfl, rfl, rfl, rfl⟩ := hb
    simp only [SV.rep] at hx
    obtain ⟨b, c, hbj, hv, hc⟩ := hx
    split at h
    · rename_i s hs h1 h2 h3
      have h1' := Nat.le_of_ble_eq_true h1
      have h2' := Nat.le_of_ble_eq_true h2
      have h3' : l < n' := by simpa [Nat.blt_eq] using h3
      have hr := sliceBounds_run (P := P) (c := c) hev true hlo hhi h1' (by omega) w
      refine .val (v := .slice (some ⟨b.blk, b.off + (o' + l * s), none⟩) (h' - l) (c - l)) hl hp ?_ ?_ h
      · simp only [Instr.sliceAt, Sem.run_bind, run_underlying ht, Result.andThen_ok, hv, Instr.slice, hr, szT_run hs]
        rw [if_neg (by omega)]
        simp only [Option.map_some, add_at, Nat.add_assoc]
        rfl
      · simp only [SV.rep]
        exact ⟨b, _, hbj, rfl, by omega⟩
    · cases h
  · cases h

end
end Go.Sx
