/- The symbolic executor is sound: what it reckons of a call is what the call does. No condition. -/
import Derived.Test.YtfdpcmijifdfeaaGreatSxExec
set_option linter.unusedVariables false
set_option linter.unusedSimpArgs false
noncomputable section
namespace Go.Sx
open Go Go.RowKit

section
variable {P : Program} {E : Env} {β : Pl} {w0 w : World} {a : Act} {ctx : Ctx}

theorem keepB_sub {lo : Nat} {l : List Nat} : ∀ {mem : Mem} {x : Nat × SB}, x ∈ keepB lo l mem → x ∈ mem
  | [], _, h => by cases h
  | (j, sb) :: r, x, h => by
    simp only [keepB] at h
    split at h
    · rcases List.mem_cons.1 h with rfl | h
      · exact List.mem_cons_self ..
      · exact List.mem_cons_of_mem _ (keepB_sub h)
    · split at h
      · rcases List.mem_cons.1 h with rfl | h
        · exact List.mem_cons_self ..
        · exact List.mem_cons_of_mem _ (keepB_sub h)
      · exact List.mem_cons_of_mem _ (keepB_sub h)
theorem gc_rep {σ : St} (h : RepS E β w0 σ a w) : RepS E β w0 (gc σ) a w :=
  { tm := h.tm, df := h.df, own := h.own.sub fun _ hx => keepB_sub hx, fresh := h.fresh, le := h.le, below := h.below, ro := h.ro, pc := h.pc }
def readRes (tmps : Array Value) : ResultVar → Sem Value
  | .tmp t => pure (tmps.getD t undef)
  | .cell x t => do loadVar t (← asAddr (tmps.getD x undef))
theorem resultsS_run {σ : St} (h : RepS E β w0 σ a w) : ∀ (rs : List ResultVar) {vs : List SV}, resultsS P σ rs = some vs →
    ∃ us : List Value, (rs.mapM (readRes a.tmps)).run P w = .ok us w ∧ SV.reps E β vs us
  | [], vs, hv => by cases hv; exact ⟨[], rfl, by simp⟩
  | .tmp t :: r, vs, hv => by
    simp only [resultsS] at hv
    split at hv
    · rename_i x hx
      cases hv
      obtain ⟨us, h1, h2⟩ := resultsS_run h r hx
      refine ⟨a.tmps.getD t undef :: us, ?_, ?_⟩
      · simp only [List.mapM_cons, readRes, Sem.run_bind, Sem.run_pure, Result.andThen_ok, h1]
      · rw [reps_cons]; exact ⟨(by have := evalO_rep h.tm (.tmp t); simp only [evalO, kGet_eq] at this; exact this), h2⟩
    · cases hv
  | .cell x t :: r, vs, hv => by
    simp only [resultsS] at hv
    split at hv
    · rename_i j o hp
      split at hv
      · rename_i sb hsb
        split at hv
        · rename_i v y hpart hy
          cases hv
          obtain ⟨us, h1, h2⟩ := resultsS_run h r hy
          have hrep := evalO_rep h.tm (.tmp x)
          simp only [evalO, kGet_eq, hp, SV.rep, Act.eval] at hrep
          obtain ⟨b, hb, hval⟩ := hrep
          obtain ⟨b', hb', hreads⟩ := h.reads j sb (find_mem hsb)
          rw [hb] at hb'; cases hb'
          obtain ⟨u, hu, hur⟩ := loadVar_run (P := P) hreads hpart
          refine ⟨u :: us, ?_, ?_⟩
          · simp only [List.mapM_cons, readRes, Sem.run_bind, hval, asAddr, Sem.run_pure, Result.andThen_ok, hu, h1]
          · rw [reps_cons]; exact ⟨hur, h2⟩
        · cases hv
      · cases hv
    · cases hv

theorem results_run {σ : St} {fn : Func} (h : RepS E β w0 σ a w) {vs : List SV} (hv : resultsS P σ fn.results.toList = some vs) :
    ∃ v, (results fn a.tmps).run P w = .ok v w ∧ SV.rep E β (oneOr vs) v := by
  obtain ⟨us, h1, h2⟩ := resultsS_run h _ hv
  have hm : (fn.results.mapM (readRes a.tmps)).run P w = .ok us.toArray w := by
    rw [Array.mapM_eq_mapM_toList, Sem.run_map, h1]; rfl
  have hlen := reps_length h2
  refine ⟨if h : us.toArray.size = 1 then us.toArray[0] else .tuple us.toArray, ?_, ?_⟩
  · have e : results fn a.tmps = (do let vs ← fn.results.mapM (readRes a.tmps); pure (if h : vs.size = 1 then vs[0] else .tuple vs)) := by
      unfold results
      congr 1
    rw [e, Sem.run_bind, hm]
    rfl
  · cases vs with
    | nil =>
      have : us = [] := List.eq_nil_of_length_eq_zero hlen
      subst this
      simp [oneOr, SV.rep]
    | cons s r =>
      cases r with
      | nil =>
        simp only [SV.reps] at h2
        obtain ⟨v, rest, rfl, h3, rfl⟩ := h2
        simpa [oneOr] using h3
      | cons s2 r2 =>
        have : us.toArray.size ≠ 1 := by simp [hlen]
        rw [dif_neg this]
        simp only [oneOr, SV.rep]
        exact ⟨_, rfl, by simpa using h2⟩

/-- What is to be shown of the executor with so much fuel. -/
def ExecOk (P : Program) (E : Env) (run : Code → St → Out (Ex × St)) : Prop := ∀ c : Code, CodeOk P E c (run c)

theorem callH_ok {run : Code → St → Out (Ex × St)} (hC : CtxOk P E ctx) (hCp : CtxPc E ctx) (hr : ExecOk P E run) (hrp : ∀ c σ, PcOk E σ.pc → Pcs E (fun x => x.2.pc) (run c σ)) :
    ∀ f args m pc r, (callH run ctx P f args m pc).sel E = some r → CallOk P E f args m pc r := by
  intro f args m pc r h
  have hpcs := fun hp : PcOk E pc => (callWith_pc (P := P) hCp hrp).h f args m pc hp r h
  unfold callH at h
  split at h
  · rename_i S hS; exact hC.sum f S hS args m pc r h
  · split at h
    · cases h
    · rename_i fn hfn
      split at h
      · cases h
      · rename_i c hbody
        intro β w vals hreps hm hf hl hp
        -- the way of the body
        have body : ∀ r0, ((run c ⟨args ++ List.replicate (fn.ntmps - args.length) undefS, [], m.mem, m.nxt, m.nxt, m.lim, m.sz, pc, ctx.ap, []⟩).bind (ending P fn m)).sel E = some r0 →
            r0.nxt ≤ m.lim ∧ Calls P f vals.toArray w fun e w' => ∃ v β', e = .returned v ∧ SV.rep E β' r0.v v ∧ Step E β β' w w' m.nxt r0.nxt r0.nb := by
          intro r0 h0
          obtain ⟨res, h1, h2⟩ := Out.sel_bind_some h0
          have hlen := reps_length hreps
          have hstart : RepS E β w ⟨args ++ List.replicate (fn.ntmps - args.length) undefS, [], m.mem, m.nxt, m.nxt, m.lim, m.sz, pc, ctx.ap, []⟩ { tmps := vals.toArray ++ Array.replicate (fn.ntmps - vals.toArray.size) undef, defers := [] } w := by
            refine { tm := ?_, df := rfl, own := Owns.nil _ _ _ _, fresh := hf, le := hl, below := Below.refl _ _, ro := hm, pc := hp }
            simp only [Array.toList_append, Array.toList_replicate, List.size_toArray, hlen]
            refine reps_append (by simpa using hreps) ?_
            generalize fn.ntmps - args.length = k
            induction k with
            | zero => simp
            | succ k ih => simp only [List.replicate_succ, reps_cons]; exact ⟨undef_rep, ih⟩
          -- what the ending says
          unfold ending at h2
          have fin : res.1 = .normal ∨ res.1 = .ret := by
            cases hx : res.1 with
            | normal => exact .inl rfl
            | ret => exact .inr rfl
            | exit id => rw [hx] at h2; cases h2
          have h2' : ∃ vs, resultsS P res.2 fn.results.toList = some vs ∧ ((SV.flat (oneOr vs) = true ∧ r0 = ⟨oneOr vs, [], m.nxt, res.2.pc⟩) ∨ (res.2.nxt ≤ m.lim ∧ r0 = ⟨oneOr vs, res.2.own, res.2.nxt, res.2.pc⟩)) := by
            have : (match resultsS P res.2 fn.results.toList with
              | some vs => match SV.flat (oneOr vs) with
                | true => (.ret ⟨oneOr vs, [], m.nxt, res.2.pc⟩ : Out Res)
                | false => match Nat.ble res.2.nxt m.lim with
                  | true => .ret ⟨oneOr vs, res.2.own, res.2.nxt, res.2.pc⟩
                  | false => .bad 162
              | none => .bad 161).sel E = some r0 := by
              rcases fin with hx | hx <;> rw [hx] at h2 <;> exact h2
            split at this
            · rename_i vs hvs
              refine ⟨vs, hvs, ?_⟩
              split at this
              · rename_i hfl; simp only [Out.sel, Option.some.injEq] at this; exact .inl ⟨hfl, this.symm⟩
              · split at this
                · rename_i hle; simp only [Out.sel, Option.some.injEq] at this; exact .inr ⟨Nat.le_of_ble_eq_true hle, this.symm⟩
                · cases this
            · cases this
          obtain ⟨vs, hvs, hcase⟩ := h2'
          -- the calls
          have main : (∀ β' a' w', Ext β β' m.nxt res.2.nxt → RepS E β' w res.2 a' w' → ∃ v β'', (results fn a'.tmps).run P w' = .ok v w' ∧ SV.rep E β'' r0.v v ∧ Step E β β'' w w' m.nxt r0.nxt r0.nb) →
              Calls P f vals.toArray w fun e w' => ∃ v β', e = .returned v ∧ SV.rep E β' r0.v v ∧ Step E β β' w w' m.nxt r0.nxt r0.nb := by
            intro hmain
            refine calls_of_wp hfn hbody (hr c hstart h1 _ fun β' a' w' he hrep => ?_)
            obtain ⟨v, β'', g1, g2, g3⟩ := hmain β' a' w' he hrep
            rcases fin with hx | hx <;> rw [hx] <;> exact ⟨hrep.df, v, g1, v, β'', rfl, g2, g3⟩
          rcases hcase with ⟨hfl, rfl⟩ | ⟨hle, rfl⟩
          · refine ⟨hl, main fun β' a' w' he hrep => ?_⟩
            obtain ⟨v, g1, g2⟩ := results_run (fn := fn) hrep hvs
            exact ⟨v, β, g1, SV.rep_flat _ _ hfl g2, Step.same _ hrep.below⟩
          · refine ⟨hle, main fun β' a' w' he hrep => ?_⟩
            obtain ⟨v, g1, g2⟩ := results_run (fn := fn) hrep hvs
            exact ⟨v, β', g1, g2, ⟨hrep.below, he.mono, he.dom, he.le, hrep.own⟩⟩
        have hsome : ∃ fn, P.funcs[f]? = some fn ∧ fn.body.isSome = true := ⟨fn, hfn, by simp [hbody]⟩
        have plain : ∀ r0, ((run c ⟨args ++ List.replicate (fn.ntmps - args.length) undefS, [], m.mem, m.nxt, m.nxt, m.lim, m.sz, pc, ctx.ap, []⟩).bind (ending P fn m)).sel E = some r0 → r0 = r →
            PcOk E r.pc ∧ r.nxt ≤ m.lim ∧ (∃ fn, P.funcs[f]? = some fn ∧ fn.body.isSome = true) ∧ Calls P f vals.toArray w fun e w' => ∃ v β', e = .returned v ∧ SV.rep E β' r.v v ∧ Step E β β' w w' m.nxt r.nxt r.nb := by
          rintro r0 h0 rfl
          obtain ⟨h1, h2⟩ := body _ h0
          exact ⟨hpcs hp, h1, hsome, h2⟩
        unfold merged at h
        split at h
        · rename_i t x y hbr
          split at h
          · rename_i k tm hms
            simp only [val, Out.sel, Option.some.injEq] at h
            subst h
            rw [← hbr] at hms
            obtain ⟨r0, t', h0, hv, himp⟩ := mergeS_ok (E := E) hms
            obtain ⟨_, h2⟩ := body r0 h0
            refine ⟨hp, hl, hsome, Calls.mono h2 ?_⟩
            rintro e w' ⟨v, β', rfl, g1, g2⟩
            rw [hv] at g1
            exact ⟨v, β, rfl, SV.rep_flat _ _ rfl (nameC_rep (s := .sc k tm) hp (himp g1)), g2.forget⟩
          · rw [← hbr] at h
            exact plain r h rfl
        · exact plain r h rfl

theorem callF_ok {run : Code → St → Out (Ex × St)} (hC : CtxOk P E ctx) (hr : ExecOk P E run) (f : Nat) (args : List SV) (σ : St) (r : SV × St) (hp : PcOk E σ.pc) (h : (callF run ctx P f args σ).sel E = some r) : FxOk P E f args σ r := by
  unfold callF at h
  split at h
  · rename_i o ho; exact hC.fxs f args σ o ho r h hp
  split at h
  · cases h
  · rename_i fn hfn
    split at h
    · cases h
    · rename_i c hbody
      intro β w0 w a vals hreps hrep
      refine ⟨⟨fn, hfn, by simp [hbody]⟩, ?_⟩
      obtain ⟨res, h1, h2⟩ := Out.sel_bind_some h
      have hlen := reps_length hreps
      have hstart : RepS E β w0 { σ with tm := args ++ List.replicate (fn.ntmps - args.length) undefS, lo := σ.nxt } { tmps := vals.toArray ++ Array.replicate (fn.ntmps - vals.toArray.size) undef, defers := [] } w := by
        refine { tm := ?_, df := rfl, own := hrep.own, fresh := hrep.fresh, le := hrep.le, below := hrep.below, ro := hrep.ro, pc := hrep.pc }
        simp only [Array.toList_append, Array.toList_replicate, List.size_toArray, hlen]
        refine reps_append (by simpa using hreps) ?_
        generalize fn.ntmps - args.length = k
        induction k with
        | zero => simp
        | succ k ih => simp only [List.replicate_succ, reps_cons]; exact ⟨undef_rep, ih⟩
      have fin : res.1 = .normal ∨ res.1 = .ret := by
        cases hx : res.1 with
        | normal => exact .inl rfl
        | ret => exact .inr rfl
        | exit id => rw [hx] at h2; cases h2
      have h2' : ∃ vs, resultsS P res.2 fn.results.toList = some vs ∧ res.2.lim = σ.lim ∧ r = (oneOr vs, { res.2 with sw := [] }) := by
        have : (match resultsS P res.2 fn.results.toList with
          | some vs => match Nat.beq res.2.lim σ.lim with
            | true => (.ret (oneOr vs, { res.2 with sw := [] }) : Out (SV × St))
            | false => .bad 176
          | none => .bad 175).sel E = some r := by
          rcases fin with hx | hx <;> rw [hx] at h2 <;> exact h2
        split at this
        · rename_i vs hvs
          split at this
          · rename_i hl
            simp only [Out.sel, Option.some.injEq] at this
            exact ⟨vs, hvs, Nat.eq_of_beq_eq_true hl, this.symm⟩
          · cases this
        · cases this
      obtain ⟨vs, hvs, hlim, rfl⟩ := h2'
      refine calls_of_wp hfn hbody (hr c hstart h1 _ fun β' a' w' he hrep' => ?_)
      obtain ⟨v, g1, g2⟩ := results_run (fn := fn) hrep' hvs
      have hfr := hrep'.fresh
      have hle := hrep'.le
      rw [hlim] at hfr hle
      rcases fin with hx | hx <;> rw [hx] <;> exact ⟨hrep'.df, v, g1, v, β', rfl, g2, he, hrep'.own, hfr, hle, hrep'.below, fun p hp => by cases hp⟩
theorem callWith_ok {run : Code → St → Out (Ex × St)} (hC : CtxOk P E ctx) (hCp : CtxPc E ctx) (hr : ExecOk P E run) (hrp : ∀ c σ, PcOk E σ.pc → Pcs E (fun x => x.2.pc) (run c σ)) :
    HndOk P E (callWith run ctx P) :=
  ⟨callH_ok hC hCp hr hrp, fun f args σ r h hp => ⟨(callWith_pc (P := P) hCp hrp).fr f args σ hp r h, callF_ok hC hr f args σ r hp h⟩⟩

set_option maxRecDepth 100000 in
theorem exec_ok (hC : CtxOk P E ctx) (hCp : CtxPc E ctx) (hN : Named P) (hmix : P.follows .mixedOrders = true) : ∀ n : Nat, ExecOk P E (exec ctx P n) ∧
    ∀ (c : Code) {σ : St} {res : Ex × St} {β : Pl} {w0 : World} {a : Act} {w : World}, ctx.cc c = none → RepS E β w0 σ a w → (exec ctx P n (.loop c) σ).sel E = some res →
      ∀ Q : Exit → Act → World → Prop, (∀ β' a' w', Ext β β' σ.nxt res.2.nxt → RepS E β' w0 res.2 a' w' → Q (exOf res.1) a' w') → Code.rounds P c Q n a w
  | 0 => ⟨fun _ _ _ _ _ _ _ _ h => (by cases h), fun _ _ _ _ _ _ _ _ _ h => (by cases h)⟩
  | n + 1 => by
    obtain ⟨ih, ihl⟩ := exec_ok hC hCp hN hmix n
    have hpc := fun (c : Code) (σ : St) (hp : PcOk E σ.pc) => exec_pc (P := P) hCp n c σ hp
    have hH : HndOk P E (callWith (exec ctx P n) ctx P) := callWith_ok hC hCp ih hpc
    have hHp : HndPc E (callWith (exec ctx P n) ctx P) := callWith_pc hCp hpc
    have loops : ∀ (c : Code) {σ : St} {res : Ex × St} {β : Pl} {w0 : World} {a : Act} {w : World}, ctx.cc c = none → RepS E β w0 σ a w → (exec ctx P (n + 1) (.loop c) σ).sel E = some res →
        ∀ Q : Exit → Act → World → Prop, (∀ β' a' w', Ext β β' σ.nxt res.2.nxt → RepS E β' w0 res.2 a' w' → Q (exOf res.1) a' w') → Code.rounds P c Q (n + 1) a w := by
      intro c σ res β w0 a w hcc h hs Q hQ
      simp only [exec, loopS, hcc] at hs
      obtain ⟨r, h1, h2⟩ := Out.sel_bind_some hs
      rw [rounds_succ]
      refine ih c h h1 _ fun β' a' w' he hrep => ?_
      obtain ⟨x, σ1⟩ := r
      cases x with
      | normal => simp only [fSt_eq] at h2; exact ihl c hcc (gc_rep hrep) h2 Q fun β2 a2 w2 he2 hrep2 => hQ β2 a2 w2 (he.trans he2) hrep2
      | exit id => simp only [Out.sel, Option.some.injEq] at h2; subst h2; exact hQ β' a' w' he hrep
      | ret => simp only [Out.sel, Option.some.injEq] at h2; subst h2; exact hQ β' a' w' he hrep
    refine ⟨fun c {σ res β w0 a w} h hs Q hQ => ?_, loops⟩
    cases c with
    | skip => simp only [exec, Out.sel, Option.some.injEq] at hs; subst hs; exact wp_skip (hQ β a w (Ext.refl _ _) h)
    | label l => simp only [exec, Out.sel, Option.some.injEq] at hs; subst hs; exact wp_label (hQ β a w (Ext.refl _ _) h)
    | region id ops draw =>
      simp only [exec, regS, seqS, condS, condB, blockS, loopS] at hs
      obtain ⟨s, hs1, hs2⟩ := regroup_ok (w0 := w0) h.pc hs
      obtain ⟨σ1, h1, h2⟩ := Out.sel_bind_some hs1
      simp only [Out.sel, Option.some.injEq] at h2
      subst h2
      rcases hs2 with rfl | ⟨_, g0, g1, g2, g3⟩
      · exact region_wp hH hHp hN hmix h h1 hQ
      · obtain ⟨ex, σ2⟩ := res
        simp only at g0 g1 g2 g3
        subst g0
        refine region_wp hH hHp hN hmix h h1 fun β' a' w' he hrep => ?_
        obtain ⟨β2, g6, g5⟩ := g3 hrep.toRepM
        exact hQ β2 a' w' (he.trans g6) { g5 with ro := by rw [g2]; exact h.ro.below (Pl.le_trans he.mono g6.mono) (Below.refl _ _), pc := by rw [g1]; exact h.pc }
    | seq x y =>
      simp only [exec, regS, seqS, condS, condB, blockS, loopS] at hs
      obtain ⟨r, h1, h2⟩ := Out.sel_bind_some hs
      refine wp_seq (ih x h h1 _ fun β' a' w' he hrep => ?_)
      obtain ⟨ex, σ1⟩ := r
      cases ex with
      | normal => exact ih y hrep h2 Q fun β2 a2 w2 he2 hrep2 => hQ β2 a2 w2 (he.trans he2) hrep2
      | exit id => simp only [Out.sel, Option.some.injEq] at h2; subst h2; exact hQ β' a' w' he hrep
      | ret => simp only [Out.sel, Option.some.injEq] at h2; subst h2; exact hQ β' a' w' he hrep
    | cond c x y =>
      simp only [exec, regS, seqS, condS, condB, blockS, loopS] at hs
      split at hs
      · rename_i t hc
        have hcv := evalO_rep h.tm c
        rw [hc] at hcv
        have hcv' := bool_rep hcv
        split at hs
        · rename_i hd
          have ht := decT_ok h.pc hd
          exact wp_cond_true (by rw [hcv', ht]) (ih x h hs Q hQ)
        · rename_i hd
          have ht := decT_ok h.pc hd
          exact wp_cond_false (by rw [hcv', ht]) (ih y h hs Q hQ)
        · have two : ∀ (res : Ex × St) (Q : Exit → Act → World → Prop), (Out.br t (exec ctx P n x { σ with pc := addF σ.pc t true }) (exec ctx P n y { σ with pc := addF σ.pc t false })).sel E = some res →
              (∀ β' a' w', Ext β β' σ.nxt res.2.nxt → RepS E β' w0 res.2 a' w' → Q (exOf res.1) a' w') → (Code.cond c x y).wp P Q a w := by
            intro res Q hs hQ
            simp only [Out.sel] at hs
            split at hs
            · rename_i ht
              exact wp_cond_true (by rw [hcv', ht]) (ih x (σ := { σ with pc := addF σ.pc t true }) { h with pc := addF_ok t h.pc ht } hs Q hQ)
            · rename_i ht
              have ht' : (t.den E).toB = false := by simpa using ht
              exact wp_cond_false (by rw [hcv', ht']) (ih y (σ := { σ with pc := addF σ.pc t false }) { h with pc := addF_ok t h.pc ht' } hs Q hQ)
          split at hs
          · rename_i σm hm
            simp only [Out.sel, Option.some.injEq] at hs
            subst hs
            obtain ⟨s, g1, g2⟩ := mergeN_rep (E := E) (w0 := w0) hm
            obtain ⟨g3, g4⟩ := mergeN_keeps hm
            refine two _ Q g1 fun β' a' w' he hrep => ?_
            obtain ⟨β2, g6, g5⟩ := g2 hrep.toRepM
            exact hQ β2 a' w' (he.trans g6) { nameSt_rep (by rw [g3]; exact h.pc) g5 with ro := by show Reads E β2 σm.ro w0; rw [g4]; exact h.ro.below (Pl.le_trans he.mono g6.mono) (Below.refl _ _), pc := by show PcOk E σm.pc; rw [g3]; exact h.pc }
          · obtain ⟨s, hs1, hs2⟩ := settle_ok (w0 := w0) h.pc hs
            rcases hs2 with rfl | ⟨k1, k2, k3, k4, k5⟩
            · exact two s Q hs1 hQ
            · refine two s Q hs1 fun β' a' w' he hrep => ?_
              obtain ⟨β2, g6, g5⟩ := k5 hrep.toRepM
              have := hQ β2 a' w' (he.trans g6) { g5 with ro := by rw [k4]; exact h.ro.below (Pl.le_trans he.mono g6.mono) (Below.refl _ _), pc := k3 }
              rw [k2] at this
              rw [k1]; exact this
      · cases hs
    | block id c =>
      simp only [exec, regS, seqS, condS, condB, blockS, loopS] at hs
      obtain ⟨r', hs1, hs2⟩ := settle_ok (w0 := w0) h.pc hs
      have key : ∀ (res : Ex × St), ((exec ctx P n c σ).bind fun r => match r with
          | (.exit i, σ) => match Nat.beq i id with
            | true => .ret (.normal, σ)
            | false => .ret (.exit i, σ)
          | r => .ret r).sel E = some res → ∀ Q : Exit → Act → World → Prop, (∀ β' a' w', Ext β β' σ.nxt res.2.nxt → RepS E β' w0 res.2 a' w' → Q (exOf res.1) a' w') → (Code.block id c).wp P Q a w := ?_
      · rcases hs2 with rfl | ⟨k1, k2, k3, k4, k5⟩
        · exact key _ hs1 Q hQ
        · refine key _ hs1 Q fun β' a' w' he hrep => ?_
          obtain ⟨β2, g6, g5⟩ := k5 hrep.toRepM
          have := hQ β2 a' w' (he.trans g6) { g5 with ro := by rw [k4]; exact h.ro.below (Pl.le_trans he.mono g6.mono) (Below.refl _ _), pc := k3 }
          rw [k2] at this
          rw [k1]; exact this
      clear hs hs1 hs2 hQ Q
      intro res hs Q hQ
      obtain ⟨r, h1, h2⟩ := Out.sel_bind_some hs
      refine wp_block (ih c h h1 _ fun β' a' w' he hrep => ?_)
      obtain ⟨ex, σ1⟩ := r
      cases ex with
      | normal => simp only [Out.sel, Option.some.injEq] at h2; subst h2; exact hQ β' a' w' he hrep
      | exit i =>
        simp only at h2
        split at h2
        · rename_i hi
          simp only [Out.sel, Option.some.injEq] at h2; subst h2
          simp only [exOf, Exit.inBlock, Nat.eq_of_beq_eq_true hi, if_true]
          exact hQ β' a' w' he hrep
        · rename_i hi
          simp only [Out.sel, Option.some.injEq] at h2; subst h2
          have hne : i ≠ id := by rintro rfl; simp at hi
          simp only [exOf, Exit.inBlock, if_neg hne]
          exact hQ β' a' w' he hrep
      | ret => simp only [Out.sel, Option.some.injEq] at h2; subst h2; exact hQ β' a' w' he hrep
    | loop c =>
      cases hcc : ctx.cc c with
      | none => exact wp_loop_rounds (n + 1) (loops c hcc h hs Q hQ)
      | some L =>
        simp only [exec, loopS, hcc] at hs
        exact hC.cc c L hcc h hs Q hQ
    | exit id => simp only [exec, Out.sel, Option.some.injEq] at hs; subst hs; exact wp_exit (hQ β a w (Ext.refl _ _) h)
    | ret => simp only [exec, Out.sel, Option.some.injEq] at hs; subst hs; exact wp_ret (hQ β a w (Ext.refl _ _) h)
    | rangeFunc f p x y => cases hs
    | scope c => cases hs
    | goto l => cases hs
    | refuse s => cases hs

/-- WHAT THE EXECUTOR RECKONS OF A CALL IS WHAT THE CALL DOES. -/
theorem call_ok (hC : CtxOk P E ctx) (hCp : CtxPc E ctx) (hN : Named P) (hmix : P.follows .mixedOrders = true) (n : Nat) : ∀ f args m pc r, (call ctx P n f args m pc).sel E = some r → CallOk P E f args m pc r :=
  callH_ok hC hCp (exec_ok hC hCp hN hmix n).1 (exec_pc hCp n)
theorem call_pc (hCp : CtxPc E ctx) (n : Nat) : ∀ f args m pc, PcOk E pc → Pcs E Res.pc (call ctx P n f args m pc) := (callWith_pc hCp (exec_pc hCp n)).h

theorem allTrue_ok : ∀ {o : Out Res} {pc : PC}, allTrue o = true → Pcs E Res.pc o → ∃ r t, o.sel E = some r ∧ r.v = .sc .bool t ∧ (t.den E).toB = true
  | .ret r, _, h, hp => by
    simp only [allTrue] at h
    split at h
    · rename_i t ht; exact ⟨r, t, rfl, ht, prove_ok _ (hp r rfl) h⟩
    · cases h
  | .bad _, _, h, _ => by cases h
  | .br c x y, pc, h, hp => by
    simp only [allTrue] at h
    split at h
    · rename_i hx
      cases hc : (c.den E).toB with
      | true =>
        obtain ⟨r, t, h1, h2, h3⟩ := allTrue_ok (o := x) (pc := pc) hx (fun r hr => hp r (by simp [Out.sel, hc, hr]))
        exact ⟨r, t, by simp [Out.sel, hc, h1], h2, h3⟩
      | false =>
        obtain ⟨r, t, h1, h2, h3⟩ := allTrue_ok (o := y) (pc := pc) h (fun r hr => hp r (by simp [Out.sel, hc, hr]))
        exact ⟨r, t, by simp [Out.sel, hc, h1], h2, h3⟩
    · cases h
end
end Go.Sx
