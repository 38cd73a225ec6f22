/- Contracts of functions that give a new short list of single cells and a code. No condition. -/
import Derived.Test.YtamljpeicecbjaaSxAgr
set_option linter.unusedVariables false
set_option linter.unusedSimpArgs false
noncomputable section
namespace Go.Sx
open Go Go.RowKit
/-- The list's cells: their kind, their type, how many; is the list of a failure nil? -/
structure Fr where
  kd : SK
  e : Nat
  n : Nat
  nl : Bool
def zerosL : Nat → List Tm
  | 0 => []
  | m + 1 => .nil :: zerosL m
def isZ : Tm → Bool
  | .il n => ieq n 0
  | _ => false
/-- The cells and the code of an answer. -/
def leafL (F : Fr) (r : Res) : Option (List Tm) :=
  match r.v with
  | .tup [s, .sc k c] => match beqK k (.int .i64) with
    | false => none
    | true => match s with
      | .gs j m => match find r.nb j with
        | some sb => match sb.row with
          | some (e', z, m') => match Nat.beq e' F.e, Nat.beq z 1, Nat.beq m m' with
            | true, true, true => match Nat.beq m F.n with
              | true => match Nat.blt 0 F.n, isZ c, matchKs (List.replicate F.n F.kd) sb.cs with
                | true, true, some ts => some (ts ++ [c])
                | _, _, _ => none
              | false => match Nat.beq m 0, F.nl, prove false 60 r.pc (.op .eqi c (.il 0)) with
                | true, false, true => some (zerosL F.n ++ [c])
                | _, _, _ => none
            | _, _, _ => none
          | none => none
        | none => none
      | .nils => match F.nl, prove false 60 r.pc (.op .eqi c (.il 0)) with
        | true, true => some (zerosL F.n ++ [c])
        | _, _ => none
      | _ => none
  | _ => none
def treeL (F : Fr) : Out Res → Option Tm
  | .ret r => match leafL F r with
    | some ts => some (listT ts)
    | none => none
  | .br t x y => match treeL F x, treeL F y with
    | some a, some b => some (.ite t a b)
    | _, _ => none
  | .bad _ => none
def treeIsL (F : Fr) (o : Out Res) (D : Tm) : Bool :=
  match treeL F o with
  | some T => T.beq D
  | none => false
theorem treeL_sel {E : Env} {F : Fr} : ∀ {o : Out Res} {T : Tm}, treeL F o = some T → ∃ r ts, o.sel E = some r ∧ leafL F r = some ts ∧ T.den E = (listT ts).den E
  | .ret r, T, h => by
    simp only [treeL] at h
    split at h
    · rename_i ts hts; cases h; exact ⟨r, ts, rfl, hts, rfl⟩
    · cases h
  | .bad _, T, h => by cases h
  | .br t x y, T, h => by
    simp only [treeL] at h
    split at h
    · rename_i a b ha hb
      cases h
      obtain ⟨r, ts, h1, h2, h3⟩ := treeL_sel (E := E) ha
      obtain ⟨r', ts', g1, g2, g3⟩ := treeL_sel (E := E) hb
      cases ht : (t.den E).toB with
      | true => exact ⟨r, ts, by simp [Out.sel, ht, h1], h2, by simp only [Tm.den, ht, if_true]; exact h3⟩
      | false => exact ⟨r', ts', by simp [Out.sel, ht, g1], g2, by simp only [Tm.den, ht, Bool.false_eq_true, if_false]; exact g3⟩
    · cases h
def codeF (F : Fr) (A : Tm) : Tm := .op .eqi (.nth F.n A) (.il 0)
def okF (F : Fr) (A : Tm) (m : Mm) (pc : PC) : Res := ⟨.tup [.gs m.nxt F.n, .sc (.int .i64) (.il 0)], [(m.nxt, ⟨(nths A F.n 0).map (.sc F.kd), some (F.e, 1, F.n)⟩)], m.nxt + 1, (codeF F A, true) :: pc⟩
def erF (F : Fr) (A : Tm) (m : Mm) (pc : PC) : Res :=
  match F.nl with
  | true => ⟨.tup [.nils, .sc (.int .i64) (.nth F.n A)], [], m.nxt, (codeF F A, false) :: pc⟩
  | false => ⟨.tup [.gs m.nxt 0, .sc (.int .i64) (.nth F.n A)], [(m.nxt, ⟨[], some (F.e, 1, 0)⟩)], m.nxt + 1, (codeF F A, false) :: pc⟩
/-- The contract: a list of single cells, each a part of the named function's value. -/
def sumN (F : Fr) (id : Nat) (ps : List Pa) (els : Sum) : Sum := fun args m pc =>
  match matchP m.mem pc ps args, Nat.blt m.nxt m.lim with
  | some ts, true => match decB pc (codeF F (.app id (listT ts))) with
    | some true => .ret (okF F (.app id (listT ts)) m pc)
    | some false => .ret (erF F (.app id (listT ts)) m pc)
    | none => .br (codeF F (.app id (listT ts))) (.ret (okF F (.app id (listT ts)) m pc)) (.ret (erF F (.app id (listT ts)) m pc))
  | _, _ => els args m pc
section
variable {P : Program} {E : Env}
theorem zerosL_length : ∀ n, (zerosL n).length = n
  | 0 => rfl
  | n + 1 => by simp [zerosL, zerosL_length]
theorem isZ_eq {c : Tm} (h : isZ c = true) : c = .il 0 := by
  unfold isZ at h
  split at h
  · rw [ieq_eq h]
  · cases h
theorem matchKs_len : ∀ {ks : List SK} {cs : List SV} {ts : List Tm}, matchKs ks cs = some ts → cs.length = ks.length
  | [], [], _, _ => rfl
  | [], _ :: _, ts, h => by simp [matchKs] at h
  | _ :: _, [], ts, h => by simp [matchKs] at h
  | k :: ks, s :: cs, ts, h => by
    simp only [matchKs] at h
    split at h
    · split at h
      · rename_i hh; simp [matchKs_len hh]
      · cases h
    · cases h
theorem leafL_len : ∀ {ks : List SK} {cs : List SV} {ts : List Tm}, matchKs ks cs = some ts → ts.length = ks.length
  | [], [], ts, h => by simp [matchKs] at h; subst h; rfl
  | [], _ :: _, ts, h => by simp [matchKs] at h
  | _ :: _, [], ts, h => by simp [matchKs] at h
  | k :: ks, s :: cs, ts, h => by
    simp only [matchKs] at h
    split at h
    · split at h
      · rename_i hh; cases h; simp [leafL_len hh]
      · cases h
    · cases h
theorem matchKs_cell {F : Fr} : ∀ {n : Nat} {cs : List SV} {ts : List Tm}, matchKs (List.replicate n F.kd) cs = some ts → ∀ {i : Nat}, i < (List.replicate n F.kd).length → ∃ s t, cs[i]? = some s ∧ ts[i]? = some t ∧ s = .sc F.kd t
  | 0, cs, ts, h, i, hi => by simp at hi
  | n + 1, [], ts, h, i, hi => by simp [matchKs, List.replicate_succ] at h
  | n + 1, s :: cs, ts, h, i, hi => by
    simp only [List.replicate_succ, matchKs] at h
    split at h
    · rename_i k' t
      split at h
      · rename_i ts' hk hm
        cases h
        cases i with
        | zero => exact ⟨_, t, rfl, rfl, by rw [beqK_eq hk]⟩
        | succ i =>
          obtain ⟨s2, t2, h1, h2, h3⟩ := matchKs_cell hm (i := i) (by simpa using hi)
          exact ⟨s2, t2, by simpa using h1, by simpa using h2, h3⟩
      · cases h
    · cases h
theorem leafL_code {F : Fr} {r : Res} {ts : List Tm} (h : leafL F r = some ts) : ts.length = F.n + 1 ∧ ∃ c, ts[F.n]? = some c := by
  have len : ts.length = F.n + 1 := by
    unfold leafL at h
    repeat' split at h
    all_goals first
      | (cases h; done)
      | (cases h; simp only [List.length_append, zerosL_length, List.length_singleton]; done)
      | skip
    all_goals
      rename_i hm
      cases h
      have : ∀ {ks : List SK} {cs : List SV} {ts : List Tm}, matchKs ks cs = some ts → ts.length = ks.length := by
        intro ks
        induction ks with
        | nil => intro cs ts h; cases cs <;> simp [matchKs] at h; subst h; rfl
        | cons k ks ih =>
          intro cs ts h
          cases cs with
          | nil => simp [matchKs] at h
          | cons s cs =>
            simp only [matchKs] at h
            split at h
            · split at h
              · rename_i hh; cases h; simp [ih hh]
              · cases h
            · cases h
      simp [this hm]
  exact ⟨len, _, List.getElem?_eq_getElem (by omega)⟩
theorem step_new1 {β β' : Pl} {w w' : World} {n l : Nat} (hf : Fresh β n l) (hl : n < l) {sb : SB} {b : Bs} (hbel : Below w.heap.size w w') (hr : SB.reads E (upd β n b) sb b w') (hb : w.heap.size ≤ b.blk) (ho : SB.owns sb b w') :
    Step E β (upd β n b) w w' n (n + 1) [(n, sb)] := by
  refine ⟨hbel, upd_le hf hl _, fun j hj => ?_, Nat.le_succ _, ⟨fun j sb' hj => ?_, fun j sb' j' sb2 b1 b2 hj hj' hne => ?_⟩⟩
  · have hj' : j < n ∨ n + 1 ≤ j := hj
    simp only [upd]
    rw [if_neg (by omega)]
  · rcases List.mem_cons.1 hj with hj | hj
    · cases hj
      exact ⟨b, by simp [upd], hr, hb, ho⟩
    · cases hj
  · rcases List.mem_cons.1 hj with hj | hj
    · rcases List.mem_cons.1 hj' with hj' | hj'
      · cases hj; cases hj'; exact absurd rfl hne
      · cases hj'
    · cases hj
/-- What an answer's leaf says, said of the named function's value. -/
theorem leafL_ok {E' : Env} {F : Fr} {r0 : Res} {l : List Tm} {A : Tm} {m : Mm} {pc : PC} {β β'' β0 : Pl} {w w' : World} {v : Value} {n0 : Nat} (hl : leafL F r0 = some l) (hA : ∀ (i : Nat) (t : Tm), l[i]? = some t → (A.den E).at_ i = t.den E') (hp0 : PcOk E' r0.pc)
    (hv : SV.rep E' β'' r0.v v) (hst : Step E' β0 β'' w w' n0 r0.nxt r0.nb) (hf : Fresh β m.nxt m.lim) (hlt : m.nxt < m.lim) :
    (((codeF F A).den E).toB = true → ∃ β2, SV.rep E β2 (okF F A m pc).v v ∧ Step E β β2 w w' m.nxt (okF F A m pc).nxt (okF F A m pc).nb) ∧
    (((codeF F A).den E).toB = false → ∃ β2, SV.rep E β2 (erF F A m pc).v v ∧ Step E β β2 w w' m.nxt (erF F A m pc).nxt (erF F A m pc).nb) := by
  have hcode : ∀ c, l[F.n]? = some c → ((codeF F A).den E).toB = decide ((c.den E').toI = 0) := by
    intro c hc
    show decide (((A.den E).at_ F.n).toI = 0) = _
    rw [hA _ _ hc]
  unfold leafL at hl
  split at hl
  · rename_i s k c hrv
    rw [hrv] at hv
    simp only [SV.rep, SV.reps] at hv
    obtain ⟨vs, rfl, hvs⟩ := hv
    obtain ⟨v1, rest1, e1, hv1, v2, rest2, e2, hv2, e3⟩ := hvs
    subst e3; subst e2
    split at hl
    · cases hl
    · rename_i hk
      have hk' := beqK_eq hk
      subst hk'
      simp only [SV.rep, SK.rep] at hv2
      subst hv2
      have htup : ∀ (β2 : Pl) (s2 : SV) (t2 : Tm), SV.rep E β2 s2 v1 → (t2.den E).toI = (c.den E').toI → SV.rep E β2 (.tup [s2, .sc (.int .i64) t2]) (.tuple vs) := by
        intro β2 s2 t2 h1 h2
        simp only [SV.rep, SV.reps]
        exact ⟨vs, rfl, v1, _, e1, h1, _, _, rfl, by simp only [SK.rep]; rw [h2], rfl⟩
      split at hl
      · rename_i j mm
        simp only [SV.rep] at hv1
        obtain ⟨b, hb, hoff, hv1⟩ := hv1
        split at hl
        · rename_i sb hsb
          obtain ⟨b2, hb2, hreads, hB, h0, arr, e, hh, hrw⟩ := hst.new.ent j sb (find_mem hsb)
          rw [hb] at hb2; cases hb2
          split at hl
          · rename_i e' z m' hrow
            split at hl
            · rename_i he hz hm
              have he' := Nat.eq_of_beq_eq_true he
              have hz' := Nat.eq_of_beq_eq_true hz
              have hm' := Nat.eq_of_beq_eq_true hm
              subst he'; subst hz'; subst hm'
              rw [hrow] at hrw
              simp only at hrw
              split at hl
              · rename_i hmn
                have hmn' := Nat.eq_of_beq_eq_true hmn
                subst hmn'
                split at hl
                · rename_i ts hpos hz0 hts
                  cases hl
                  have hz1 := isZ_eq hz0
                  subst hz1
                  have hpos' : 0 < F.n := Nat.le_of_ble_eq_true hpos
                  have htl : ts.length = F.n := by
                    have := leafL_len hts
                    simpa using this
                  have hc0 := hcode (.il 0) (by rw [List.getElem?_append_right (by omega), htl]; simp)
                  have hc1 : ((codeF F A).den E).toB = true := by rw [hc0]; exact decide_eq_true rfl
                  refine ⟨fun _ => ⟨upd β m.nxt b, htup _ _ _ ?_ rfl, step_new1 (β' := β'') hf hlt hst.below ⟨hreads.1, fun i s2 hi => ?_, ?_, fun e2 s2 h => ?_⟩ hB ⟨h0, arr, e, hh, ?_⟩⟩, fun h => by rw [hc1] at h; cases h⟩
                  · simp only [SV.rep]
                    exact ⟨b, by simp [upd], hoff, hv1⟩
                  · simp only [List.getElem?_map, Option.map_eq_some_iff] at hi
                    obtain ⟨u, hu, rfl⟩ := hi
                    have eu := nths_get hu
                    rw [Nat.zero_add] at eu
                    subst eu
                    have hi' : i < F.n := by have := (List.getElem?_eq_some_iff.1 hu).1; rw [nths_length] at this; exact this
                    obtain ⟨s3, t3, g1, g2, g3⟩ := matchKs_cell hts (i := i) (by simp; exact hi')
                    obtain ⟨v, c1, c2, c3⟩ := hreads.2 i s3 g1
                    refine ⟨v, c1, c2, ?_⟩
                    subst g3
                    simp only [SV.rep] at c3 ⊢
                    have : (Tm.nth i A).den E = t3.den E' := hA i t3 (by rw [List.getElem?_append_left (by omega)]; exact g2)
                    rw [this]; exact c3
                  · rcases hreads.3 with h | ⟨h, _⟩
                    · exact .inl h
                    · exfalso
                      have := matchKs_len hts
                      rw [h] at this
                      simp at this
                      omega
                  · simp only [Option.some.injEq, Prod.mk.injEq] at h
                    omega
                  · simp only
                    refine ⟨hrw.1, hrw.2.1, hrw.2.2.1, hrw.2.2.2.1, ?_⟩
                    simp [nths_length]
                · cases hl
              · split at hl
                · rename_i hm0 hnl hne
                  cases hl
                  have hm0' := Nat.eq_of_beq_eq_true hm0
                  subst hm0'
                  have hc0 := hcode c (by rw [List.getElem?_append_right (by rw [zerosL_length]; exact Nat.le_refl _), zerosL_length]; simp)
                  have hcne : ¬ (c.den E').toI = 0 := by
                    have := prove_ok 60 hp0 hne
                    exact of_decide_eq_false this
                  have hc1 : ((codeF F A).den E).toB = false := by rw [hc0]; exact decide_eq_false hcne
                  refine ⟨fun h => (by rw [hc1] at h; cases h), fun _ => ?_⟩
                  unfold erF
                  rw [hnl]
                  refine ⟨upd β m.nxt b, htup _ _ _ ?_ ?_, step_new1 (β' := β'') hf hlt hst.below ⟨hreads.1, fun i s2 hi => by simp at hi, ?_, fun e2 s2 h => ?_⟩ hB ⟨h0, arr, e, hh, ?_⟩⟩
                  · simp only [SV.rep]
                    exact ⟨b, by simp [upd], hoff, hv1⟩
                  · show ((A.den E).at_ F.n).toI = _
                    rw [hA F.n c (by rw [List.getElem?_append_right (by rw [zerosL_length]; exact Nat.le_refl _), zerosL_length]; simp)]
                  · rcases hreads.3 with h | ⟨h, hg⟩
                    · exact .inl h
                    · exact .inr ⟨rfl, hg⟩
                  · cases h
                    exact hreads.zc _ _ hrow
                  · simp only
                    exact ⟨hrw.1, hrw.2.1, hrw.2.2.1, hrw.2.2.2.1, by simp⟩
                · cases hl
            · cases hl
          · cases hl
        · cases hl
      · split at hl
        · rename_i hnl hne
          cases hl
          have hc0 := hcode c (by rw [List.getElem?_append_right (by rw [zerosL_length]; exact Nat.le_refl _), zerosL_length]; simp)
          have hcne : ¬ (c.den E').toI = 0 := by
            have := prove_ok 60 hp0 hne
            exact of_decide_eq_false this
          have hc1 : ((codeF F A).den E).toB = false := by rw [hc0]; exact decide_eq_false hcne
          refine ⟨fun h => (by rw [hc1] at h; cases h), fun _ => ?_⟩
          unfold erF
          rw [hnl]
          refine ⟨β, htup _ _ _ ?_ ?_, Step.same _ hst.below⟩
          · simpa only [SV.rep] using hv1
          · show ((A.den E).at_ F.n).toI = _
            rw [hA F.n c (by rw [List.getElem?_append_right (by rw [zerosL_length]; exact Nat.le_refl _), zerosL_length]; simp)]
        · cases hl
      · cases hl
  · cases hl
theorem sumN_ok {ctx : Ctx} {n f id : Nat} {ps : List Pa} {F : Fr} {D : Tm} {els : Sum} (hC : ∀ E' : Env, E'.fn = E.fn → CtxOk P E' ctx ∧ CtxPc E' ctx)
    (hN : Named P) (hmix : P.follows .mixedOrders = true) (hD : ∀ c, E.fn id c = D.den ⟨fun i => c.at_ i, E.fn⟩)
    (hj : (Nat.ble (bldP ps 0 0).j 1000 && D.under (bldP ps 0 0).n) = true) (hk : treeIsL F (callQ P ctx n f ps []) D = true) (hels : SumOk P E f els) : SumOk P E f (sumN F id ps els) := by
  simp only [Bool.and_eq_true] at hj
  intro args m pc r hr β w vals hreps hm hf hl hp
  unfold sumN at hr
  split at hr
  · rename_i ts hts hlt0
    have hlt : m.nxt < m.lim := Nat.le_of_ble_eq_true hlt0
    obtain ⟨e1, bss, e2, hall⟩ := matchP_ok P hp hm (n := 0) (j := 0) hts hreps
    rw [Nat.zero_add] at e1 e2
    let E' : Env := ⟨fun i => (ts[i]?.map (Tm.den E)).getD .nil, E.fn⟩
    let β' : Pl := fun i => bss[i]?
    have hE : ∀ (i : Nat) (t : Tm), ts[i]? = some t → E'.v i = t.den E := fun i t hi => by simp [E', hi]
    obtain ⟨g1, g2, g3⟩ := hall E' β' (fun i t hi => by rw [Nat.zero_add]; exact hE i t hi) (fun i x hi => by rw [Nat.zero_add]; exact hi)
    unfold treeIsL at hk
    split at hk
    · rename_i T hT
      have e := Tm.beq_eq hk
      subst e
      obtain ⟨r0, l, h1, h2, h3⟩ := treeL_sel (E := E') hT
      have hpx : PcOk E' ([] ++ (bldP ps 0 0).pc) := fun p hp => g3 p (by simpa using hp)
      obtain ⟨hp0, _, hfn, hcalls⟩ := call_ok (hC E' rfl).1 (hC E' rfl).2 hN hmix n f (bldP ps 0 0).svs ⟨(bldP ps 0 0).mem, (bldP ps 0 0).j, 2 ^ 256, 2 ^ 200⟩ ([] ++ (bldP ps 0 0).pc) r0 h1 β' w vals g1 g2
        (fun i hi _ => by simp only [β']; exact List.getElem?_eq_none (by simp only at hi; omega)) (Nat.le_trans (Nat.le_of_ble_eq_true hj.1) (show 1000 ≤ 2 ^ 256 by decide)) hpx
      have hA : ∀ (i : Nat) (t : Tm), l[i]? = some t → ((Tm.app id (listT ts)).den E).at_ i = t.den E' := by
        intro i t hi
        simp only [Tm.den]
        rw [hD]
        have e3 : T.den E' = T.den ⟨fun i => ((listT ts).den E).at_ i, E.fn⟩ := under_den (E := E') (E' := ⟨fun i => ((listT ts).den E).at_ i, E.fn⟩) (n := (bldP ps 0 0).n) (fun i hi => by
          rw [e1] at hi
          have ht : ts[i]? = some ts[i] := List.getElem?_eq_getElem hi
          rw [hE i _ ht]
          exact (listT_at ht).symm) rfl hj.2
        rw [← e3, h3]
        exact listT_at hi
      have ok : ((codeF F (.app id (listT ts))).den E).toB = true → r = okF F (.app id (listT ts)) m pc → PcOk E r.pc ∧ r.nxt ≤ m.lim ∧ (∃ fn, P.funcs[f]? = some fn ∧ fn.body.isSome = true) ∧ Calls P f vals.toArray w fun e w' => ∃ v β2, e = .returned v ∧ SV.rep E β2 r.v v ∧ Step E β β2 w w' m.nxt r.nxt r.nb := by
        rintro hc rfl
        refine ⟨hp.cons hc, hlt, hfn, hcalls.mono fun e w' ⟨v, β'', he, hv, hst⟩ => ?_⟩
        obtain ⟨β2, q1, q2⟩ := (leafL_ok (m := m) (pc := pc) (β := β) h2 hA hp0 hv hst hf hlt).1 hc
        exact ⟨v, β2, he, q1, q2⟩
      have er : ((codeF F (.app id (listT ts))).den E).toB = false → r = erF F (.app id (listT ts)) m pc → PcOk E r.pc ∧ r.nxt ≤ m.lim ∧ (∃ fn, P.funcs[f]? = some fn ∧ fn.body.isSome = true) ∧ Calls P f vals.toArray w fun e w' => ∃ v β2, e = .returned v ∧ SV.rep E β2 r.v v ∧ Step E β β2 w w' m.nxt r.nxt r.nb := by
        rintro hc rfl
        refine ⟨?_, ?_, hfn, hcalls.mono fun e w' ⟨v, β'', he, hv, hst⟩ => ?_⟩
        · unfold erF; split <;> exact hp.cons hc
        · unfold erF; split
          · exact hl
          · exact hlt
        · obtain ⟨β2, q1, q2⟩ := (leafL_ok (m := m) (pc := pc) (β := β) h2 hA hp0 hv hst hf hlt).2 hc
          exact ⟨v, β2, he, q1, q2⟩
      split at hr
      · rename_i hd
        simp only [Out.sel, Option.some.injEq] at hr
        exact ok (decB_ok hp _ hd) hr.symm
      · rename_i hd
        simp only [Out.sel, Option.some.injEq] at hr
        exact er (decB_ok hp _ hd) hr.symm
      · simp only [Out.sel] at hr
        split at hr
        · rename_i hc
          simp only [Option.some.injEq] at hr
          exact ok hc hr.symm
        · rename_i hc
          simp only [Option.some.injEq] at hr
          exact er (by simpa using hc) hr.symm
    · cases hk
  · exact hels args m pc r hr β w vals hreps hm hf hl hp
theorem sumN_pc {F : Fr} {id : Nat} {ps : List Pa} {els : Sum} (hels : ∀ args m pc, PcOk E pc → Pcs E Res.pc (els args m pc)) (args : List SV) (m : Mm) (pc : PC) (hp : PcOk E pc) : Pcs E Res.pc (sumN F id ps els args m pc) := by
  have ok : ∀ (A : Tm), ((codeF F A).den E).toB = true → PcOk E (okF F A m pc).pc := fun A hc => hp.cons hc
  have er : ∀ (A : Tm), ((codeF F A).den E).toB = false → PcOk E (erF F A m pc).pc := fun A hc => by unfold erF; split <;> exact hp.cons hc
  intro r hr
  unfold sumN at hr
  split at hr
  · split at hr
    · rename_i hd
      simp only [Out.sel, Option.some.injEq] at hr
      subst hr; exact ok _ (decB_ok hp _ hd)
    · rename_i hd
      simp only [Out.sel, Option.some.injEq] at hr
      subst hr; exact er _ (decB_ok hp _ hd)
    · simp only [Out.sel] at hr
      split at hr
      · rename_i hc
        simp only [Option.some.injEq] at hr
        subst hr; exact ok _ hc
      · rename_i hc
        simp only [Option.some.injEq] at hr
        subst hr; exact er _ (by simpa using hc)
  · exact hels args m pc hp r hr
end
end Go.Sx
