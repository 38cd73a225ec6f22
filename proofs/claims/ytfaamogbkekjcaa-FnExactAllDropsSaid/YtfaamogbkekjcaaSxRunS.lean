/- The symbolic executor is sound, first part: one operation of a function, with calls and with stores. No condition. -/
import Derived.Test.YtfaamogbkekjcaaSxRun
import Derived.Test.YtfaamogbkekjcaaSxOpV
import Derived.Test.YtfaamogbkekjcaaSxExt
set_option linter.unusedVariables false
set_option linter.unusedSimpArgs false
noncomputable section
namespace Go.Sx
open Go Go.RowKit

theorem eqKs_eq : ∀ {x y : List SK}, eqKs x y = true → x = y
  | [], y, h => by
    cases y with
    | nil => rfl
    | cons _ _ => simp [eqKs] at h
  | k :: r, y, h => by
    cases y with
    | nil => simp [eqKs] at h
    | cons k' r' =>
      simp only [eqKs] at h
      split at h
      · rename_i hk
        rw [SK.n_inj (Nat.eq_of_beq_eq_true hk), eqKs_eq h]
      · cases h
theorem beqK_eq {a b : SK} (h : beqK a b = true) : a = b := SK.n_inj (Nat.eq_of_beq_eq_true h)
mutual
theorem SV.beq_eq : ∀ (x y : SV), SV.beq x y = true → x = y
  | .un, y, h => by cases y <;> simp [SV.beq] at h; rfl
  | .sc k t, y, h => by
    cases y <;> simp only [SV.beq, Bool.false_eq_true] at h
    split at h
    · rename_i hk; rw [beqK_eq hk, Tm.beq_eq h]
    · cases h
  | .ptr j o, y, h => by
    cases y <;> simp only [SV.beq, Bool.false_eq_true] at h
    split at h
    · rename_i hk; rw [Nat.eq_of_beq_eq_true hk, Nat.eq_of_beq_eq_true h]
    · cases h
  | .nilp, y, h => by cases y <;> simp [SV.beq] at h; rfl
  | .sl j o n, y, h => by
    cases y <;> simp only [SV.beq, Bool.false_eq_true] at h
    split at h
    · rename_i h1 h2; rw [Nat.eq_of_beq_eq_true h1, Nat.eq_of_beq_eq_true h2, Nat.eq_of_beq_eq_true h]
    · cases h
  | .nils, y, h => by cases y <;> simp [SV.beq] at h; rfl
  | .gs j n, y, h => by
    cases y <;> simp only [SV.beq, Bool.false_eq_true] at h
    split at h
    · rename_i hk; rw [Nat.eq_of_beq_eq_true hk, Nat.eq_of_beq_eq_true h]
    · cases h
  | .os j n t, y, h => by
    cases y <;> simp only [SV.beq, Bool.false_eq_true] at h
    split at h
    · rename_i h1 h2; rw [Nat.eq_of_beq_eq_true h1, Tm.beq_eq h2, Tm.beq_eq h]
    · cases h
  | .og j ks n t, y, h => by
    cases y <;> simp only [SV.beq, Bool.false_eq_true] at h
    split at h
    · rename_i h1 h2 h3; rw [Nat.eq_of_beq_eq_true h1, Tm.beq_eq h2, eqKs_eq h3, Tm.beq_eq h]
    · cases h
  | .rp j ks t i o, y, h => by cases y <;> simp [SV.beq] at h
  | .fn f a c, y, h => by
    cases y <;> simp only [SV.beq, Bool.false_eq_true] at h
    split at h
    · split at h
      · rename_i h1 h2; rw [Nat.eq_of_beq_eq_true h1, SV.beqs_eq a _ h2, SV.beqs_eq c _ h]
      · cases h
    · cases h
  | .nilf, y, h => by cases y <;> simp [SV.beq] at h; rfl
  | .nili, y, h => by cases y <;> simp [SV.beq] at h; rfl
  | .agg cs, y, h => by
    cases y <;> simp only [SV.beq, Bool.false_eq_true] at h
    rw [SV.beqs_eq cs _ h]
  | .tup cs, y, h => by
    cases y <;> simp only [SV.beq, Bool.false_eq_true] at h
    rw [SV.beqs_eq cs _ h]
theorem SV.beqs_eq : ∀ (x y : List SV), SV.beqs x y = true → x = y
  | [], y, h => by cases y <;> simp [SV.beqs] at h; rfl
  | a :: x, y, h => by
    cases y <;> simp only [SV.beqs, Bool.false_eq_true] at h
    split at h
    · rename_i h1; rw [SV.beq_eq a _ h1, SV.beqs_eq x _ h]
    · cases h
end


theorem swapP_rep {E : Env} {β β' : Pl} (hm : Pl.le β β') {u : SV} {v : Value} (h : SV.rep E β u v) : ∀ {sw : List (SV × SV)}, (∀ p, p ∈ sw → ∀ u, SV.rep E β p.1 u → SV.rep E β' p.2 u) → SV.rep E β' (swapP sw u) v
  | [], _ => SV.rep_mono hm _ _ h
  | (a, b) :: r, hs => by
    simp only [swapP]
    split
    · rename_i he
      have := SV.beq_eq u a he
      subst this
      exact hs _ (List.mem_cons_self ..) v h
    · exact swapP_rep hm h (fun p hp => hs p (List.mem_cons_of_mem _ hp))
theorem swapS_rep {E : Env} {β β' : Pl} (hm : Pl.le β β') {sw : List (SV × SV)} (hs : ∀ p, p ∈ sw → ∀ u, SV.rep E β p.1 u → SV.rep E β' p.2 u) : ∀ {tm : List SV} {vs : List Value}, SV.reps E β tm vs → SV.reps E β' (swapS sw tm) vs := by
  intro tm vs h
  unfold swapS
  split
  · exact SV.reps_mono hm _ _ h
  · induction tm generalizing vs with
    | nil => simpa using h
    | cons t r ih =>
      simp only [SV.reps] at h
      obtain ⟨v, rest, rfl, h1, h2⟩ := h
      simp only [List.map_cons, reps_cons]
      exact ⟨swapP_rep hm h1 hs, ih h2⟩
/-- What is shown of a call. -/
def CallOk (P : Program) (E : Env) (f : Nat) (args : List SV) (m : Mm) (pc : PC) (r : Res) : Prop :=
  ∀ (β : Pl) (w : World) (vals : List Value), SV.reps E β args vals → Reads E β m.mem w → Fresh β m.nxt m.lim → m.nxt ≤ m.lim → PcOk E pc →
    PcOk E r.pc ∧ r.nxt ≤ m.lim ∧ (∃ fn, P.funcs[f]? = some fn ∧ fn.body.isSome = true) ∧
    Calls P f vals.toArray w fun e w' => ∃ v β', e = .returned v ∧ SV.rep E β' r.v v ∧ Step E β β' w w' m.nxt r.nxt r.nb
/-- What a symbolic state says of a run: all but what may only be read, and what is known. -/
structure RepM (E : Env) (β : Pl) (w0 : World) (σ : St) (a : Act) (w : World) : Prop where
  tm : SV.reps E β σ.tm a.tmps.toList
  df : a.defers = []
  own : Owns E β w0.heap.size σ.own w
  fresh : Fresh β σ.nxt σ.lim
  le : σ.nxt ≤ σ.lim
  below : Below w0.heap.size w0 w
structure RepS (E : Env) (β : Pl) (w0 : World) (σ : St) (a : Act) (w : World) : Prop extends RepM E β w0 σ a w where
  ro : Reads E β σ.ro w0
  pc : PcOk E σ.pc

/-- What is shown of a call in its caller's own memory. -/
def FxOk (P : Program) (E : Env) (f : Nat) (args : List SV) (σ : St) (r : SV × St) : Prop :=
  ∀ (β : Pl) (w0 w : World) (a : Act) (vals : List Value), SV.reps E β args vals → RepS E β w0 σ a w →
    (∃ fn, P.funcs[f]? = some fn ∧ fn.body.isSome = true) ∧
    Calls P f vals.toArray w fun e w' => ∃ v β', e = .returned v ∧ SV.rep E β' r.1 v ∧ Ext β β' σ.nxt r.2.nxt ∧ Owns E β' w0.heap.size r.2.own w' ∧ Fresh β' r.2.nxt σ.lim ∧ r.2.nxt ≤ σ.lim ∧ Below w0.heap.size w0 w' ∧ ∀ p, p ∈ r.2.sw → ∀ u, SV.rep E β p.1 u → SV.rep E β' p.2 u
structure HndOk (P : Program) (E : Env) (H : Hnd) : Prop where
  h : ∀ f args m pc r, (H.h f args m pc).sel E = some r → CallOk P E f args m pc r
  fr : ∀ f args σ r, (H.fr f args σ).sel E = some r → PcOk E σ.pc → PcOk E r.2.pc ∧ FxOk P E f args σ r
def SumOk (P : Program) (E : Env) (f : Nat) (S : Sum) : Prop := ∀ args m pc r, (S args m pc).sel E = some r → CallOk P E f args m pc r
def exOf : Ex → Exit
  | .normal => .normal
  | .exit id => .exit id
  | .ret => .ret
/-- What is shown of a piece of code. -/
def CodeOk (P : Program) (E : Env) (c : Code) (L : St → Out (Ex × St)) : Prop :=
  ∀ {σ : St} {res : Ex × St} {β : Pl} {w0 : World} {a : Act} {w : World}, RepS E β w0 σ a w → (L σ).sel E = some res →
    ∀ Q : Exit → Act → World → Prop, (∀ β' a' w', Ext β β' σ.nxt res.2.nxt → RepS E β' w0 res.2 a' w' → Q (exOf res.1) a' w') → c.wp P Q a w
structure CtxOk (P : Program) (E : Env) (ctx : Ctx) : Prop where
  sum : ∀ f S, ctx.sum f = some S → SumOk P E f S
  cc : ∀ c L, ctx.cc c = some L → CodeOk P E (.loop c) L
  fxs : ∀ f args σ o, ctx.fxs f args σ = some o → ∀ r, o.sel E = some r → PcOk E σ.pc → FxOk P E f args σ r

section
variable {P : Program} {E : Env} {β : Pl} {w : World} {H : Hnd}

theorem reps_map {ev : Operand → SV} {ρ : Operand → Value} (hev : ∀ x, SV.rep E β (ev x) (ρ x)) : ∀ l : List Operand, SV.reps E β (l.map ev) (l.map ρ)
  | [] => by simp
  | x :: r => by simp only [List.map_cons, reps_cons]; exact ⟨hev x, reps_map hev r⟩

theorem opP_wp (hH : HndOk P E H) (hN : Named P) {m : Mm} {pc : PC} {r : Res} {o : Oper} {a : Act} {ev : Operand → SV} (hev : ∀ x, SV.rep E β (ev x) (a.eval x))
    (hm : Reads E β m.mem w) (hf : Fresh β m.nxt m.lim) (hl : m.nxt ≤ m.lim) (hp : PcOk E pc) (h : (opP H P m pc ev o.op).sel E = some r) :
    PcOk E r.pc ∧ r.nxt ≤ m.lim ∧ ∀ (K : Act → World → Prop) (Q : Exit → Act → World → Prop), (∀ v w' β', SV.rep E β' r.v v → Step E β β' w w' m.nxt r.nxt r.nb → K (a.put o.dst v) w') → o.wp P a w K Q := by
  unfold opP at h
  split at h
  · rename_i f args hc
    split at h
    · rename_i g as hca
      obtain ⟨dst, op, ty, pos, after, guard⟩ := o
      simp only at hc ⊢
      unfold isCall at hc
      split at hc
      · rename_i c
        split at hc
        · rename_i f' hcal
          cases hc
          obtain ⟨callee, cargs, argTypes⟩ := c
          simp only at hcal
          subst hcal
          have hfv := hev f
          unfold callArgs at hca
          split at hca
          · rename_i g' fa ca hevf
            cases hca
            rw [hevf] at hfv
            simp only [SV.rep] at hfv
            obtain ⟨avs, cvs, hv, ha, hcv⟩ := hfv
            have hreps : SV.reps E β (fa ++ (cargs.toList.map ev ++ ca)) (avs.toList ++ (cargs.toList.map a.eval ++ cvs.toList)) :=
              reps_append ha (reps_append (reps_map hev _) hcv)
            have e1 : avs ++ cargs.map a.eval ++ cvs = (avs.toList ++ (cargs.toList.map a.eval ++ cvs.toList)).toArray := by
              apply Array.ext'
              simp
            split at h
            · obtain ⟨h1, h2, ⟨fn, hfn, hbody⟩, hcalls⟩ := hH.h _ _ _ _ _ h β w _ hreps hm hf hl hp
              refine ⟨h1, h2, fun K Q hK => ?_⟩
              have hrun : (execOp a.eval ⟨dst, .call { callee := .value f, args := cargs, argTypes }, ty, pos, after, guard⟩).run P w =
                  .ok (.enter g (avs.toList ++ (cargs.toList.map a.eval ++ cvs.toList)).toArray) w := by
                have e1 : avs ++ cargs.map a.eval ++ cvs = (avs.toList ++ (cargs.toList.map a.eval ++ cvs.toList)).toArray := by
                  apply Array.ext'
                  simp
                have hb : fn.body.isNone = false := by cases hbd : fn.body <;> simp_all
                simp only [execOp, resolve, hv, Deferred.ofValue, Sem.run_bind, Sem.run_pure, Result.andThen_ok, invoke, callFunc, run_program, hfn, hN g fn hfn, hb]
                simp only [Bool.false_eq_true, if_false, Sem.run_pure]
                rw [e1]
              unfold Oper.wp
              rw [hrun]
              refine Calls.mono hcalls ?_
              rintro e w' ⟨v, β', rfl, hrep, hst⟩
              exact hK v w' β' hrep hst
            · rename_i k hk
              obtain ⟨h1, h2, v, w', hcall, hrep, hst⟩ := ext_ok (w := w) hN hk hreps hl hp h
              refine ⟨h1, h2, fun K Q hK => ?_⟩
              have hrun : (execOp a.eval ⟨dst, .call { callee := .value f, args := cargs, argTypes }, ty, pos, after, guard⟩).run P w = .ok (.value v) w' := by
                simp only [execOp, resolve, hv, Deferred.ofValue, Sem.run_bind, Sem.run_pure, Result.andThen_ok, invoke]
                rw [e1]
                exact hcall
              unfold Oper.wp
              rw [hrun]
              exact hK v w' β hrep hst
          · cases hca
        · cases hc
      · cases hc
    · cases h
  · obtain ⟨h1, h2, v, w', β', h3, h4, h5⟩ := opx_ok (P := P) (o := o) hev hm hf hl hp h
    refine ⟨h1, h2, fun K Q hK => ?_⟩
    unfold Oper.wp
    rw [h3]
    exact hK v w' β' h4 h5
end

section
variable {P : Program} {E : Env} {β : Pl} {w0 w : World} {H : Hnd} {σ σ' : St} {a : Act}

theorem RepS.reads (h : RepS E β w0 σ a w) : Reads E β (σ.own ++ σ.ro) w := h.own.reads.append (h.ro.below (Pl.le_refl _) h.below)

theorem reps_set {ss : List SV} {vs : List Value} (h : SV.reps E β ss vs) {s : SV} {v : Value} (hs : SV.rep E β s v) (d : Nat) : SV.reps E β (ss.set d s) (vs.set d v) := by
  induction ss generalizing vs d with
  | nil => simp at h; subst h; simp
  | cons x r ih =>
    simp only [SV.reps] at h
    obtain ⟨y, rest, rfl, h1, h2⟩ := h
    cases d with
    | zero => simp only [List.set_cons_zero, reps_cons]; exact ⟨hs, h2⟩
    | succ d => simp only [List.set_cons_succ, reps_cons]; exact ⟨h1, ih h2 d⟩
theorem putT_rep {tm : List SV} (h : SV.reps E β tm a.tmps.toList) {s : SV} {v : Value} (hs : SV.rep E β s v) (d : Option Tmp) : SV.reps E β (putT tm d s) (a.put d v).tmps.toList := by
  cases d with
  | none => exact h
  | some d => simp only [putT, kSet_eq, Act.put, Array.toList_setIfInBounds]; exact reps_set h hs d
theorem put_defers (a : Act) (d : Option Tmp) (v : Value) : (a.put d v).defers = a.defers := by cases d <;> rfl
theorem undef_rep : SV.rep E β undefS undef := by simp [undefS, undef, SV.rep]

/-- Behind an operation that writes to no old memory. -/
theorem RepS.after (h : RepS E β w0 σ a w) {r : Res} {β' : Pl} {v : Value} {w' : World} (d : Option Tmp) (hs : Step E β β' w w' σ.nxt r.nxt r.nb) (hl : r.nxt ≤ σ.lim) (hp : PcOk E r.pc) (hv : SV.rep E β' r.v v) :
    RepS E β' w0 (afterR σ d r) (a.put d v) w' := by
  have hsz := h.below.size
  refine { tm := putT_rep (SV.reps_mono hs.mono _ _ h.tm) hv d, df := (put_defers a d v).trans h.df, own := h.own.step hs hsz, fresh := fun j h1 h2 => ?_, le := hl, below := h.below.trans (hs.below.mono hsz), ro := h.ro.below hs.mono (Below.refl _ _), pc := hp }
  have hle := hs.le
  have h1' : r.nxt ≤ j := h1
  rw [hs.dom j (.inr h1')]
  exact h.fresh j (Nat.le_trans hle h1') h2

theorem setB_mem : ∀ {mem : Mem} {j : Nat} {sb : SB} {x : Nat × SB}, x ∈ setB mem j sb → (x.1 = j ∧ x.2 = sb) ∨ (x.1 ≠ j ∧ x ∈ mem)
  | [], _, _, _, h => by cases h
  | (i, y) :: r, j, sb, x, h => by
    simp only [setB] at h
    split at h
    · rename_i hij
      have e := Nat.eq_of_beq_eq_true hij
      rcases List.mem_cons.1 h with rfl | h
      · exact .inl ⟨e, rfl⟩
      · rcases setB_mem h with h | ⟨h1, h2⟩
        · exact .inl h
        · exact .inr ⟨h1, List.mem_cons_of_mem _ h2⟩
    · rename_i hij
      rcases List.mem_cons.1 h with rfl | h
      · refine .inr ⟨fun e => ?_, List.mem_cons_self ..⟩
        simp only at e
        subst e
        simp at hij
      · rcases setB_mem h with h | ⟨h1, h2⟩
        · exact .inl h
        · exact .inr ⟨h1, List.mem_cons_of_mem _ h2⟩

theorem storeVar_run {t : TypeId} {n g o : Nat} {v : Value} {arr : Array Value} {e : TypeId} (hn : szT P t = some n) (hv : v.cells.size = n) (h1 : ∀ x ∈ v.cells.toList, x.oneCell' = true)
    (hg : w.heap[g]? = some (.cells arr e (0, 0))) (hfit : o + n ≤ arr.size) :
    (storeVar t ⟨g, o, none⟩ v).run P w = .ok () (w.setRow g (arr.toList.take o ++ v.cells.toList ++ arr.toList.drop (o + n)).toArray) := by
  unfold storeVar
  have := run_storeCells_at P g o e v.cells.toList 0 arr w hg (by simp [hv]; omega) h1
  simp only [Nat.add_zero, Array.length_toList, hv] at this
  simp [szT_run hn, hv, this]

theorem storeS_wp {o : Oper} {t : TypeId} {x y : Operand} (ho : o.op = .store t x y) (h : RepS E β w0 σ a w) (hs : (storeS P σ o.dst t (evalO σ.tm x) (evalO σ.tm y)).sel E = some σ')
    (K : Act → World → Prop) (Q : Exit → Act → World → Prop) (hK : ∀ a' w', Ext β β σ.nxt σ'.nxt → RepS E β w0 σ' a' w' → K a' w') : o.wp P a w K Q := by
  unfold storeS at hs
  simp only [layK_eq] at hs
  split at hs
  · rename_i j p hx
    have hax := evalO_rep h.tm x
    rw [hx] at hax
    simp only [SV.rep] at hax
    obtain ⟨b, hbj, hav⟩ := hax
    split at hs
    · rename_i sb hsb
      split at hs
      · rename_i xs n hcs hn
        split at hs
        · rename_i hlen hfit hpos
          simp only [Out.sel, Option.some.injEq] at hs
          subst hs
          have hay := evalO_rep h.tm y
          obtain ⟨hc, hc1⟩ := cells_rep hcs hay
          have hmem := find_mem hsb
          obtain ⟨b', hb', hreads, hB, h0, arr, e, hheap, hrow⟩ := h.own.ent j sb hmem
          rw [hbj] at hb'; cases hb'
          have hlen' : xs.length = n := Nat.eq_of_beq_eq_true hlen
          have hfit' : p + n ≤ sb.cs.length := Nat.le_of_ble_eq_true hfit
          have hpos' : 0 < n := Nat.le_of_ble_eq_true hpos
          have hvs : (a.eval y).cells.size = n := by have := reps_length hc; rw [Array.length_toList] at this; omega
          -- the block is as long as its known cells
          have hcell : ∀ i v, w.cell? ⟨b.blk, b.off + i, none⟩ = some v → arr[i]? = some v := by
            intro i v hv
            simpa [World.cell?, hheap, h0] using hv
          have hsz : sb.cs.length ≤ arr.size := by
            rcases Nat.eq_zero_or_pos sb.cs.length with hz | hz
            · omega
            · obtain ⟨v, hv, _⟩ := hreads.2 (sb.cs.length - 1) _ (List.getElem?_eq_getElem (by omega))
              have := (Array.getElem?_eq_some_iff.1 (hcell _ _ hv)).1
              omega
          have hrun := storeVar_run (P := P) (w := w) (g := b.blk) (o := p) hn hvs hc1 hheap (by omega)
          generalize hnew : (arr.toList.take p ++ (a.eval y).cells.toList ++ arr.toList.drop (p + n)).toArray = new at hrun
          have hnewsz : new.size = arr.size := by
            rw [← hnew]; simp [hvs]; omega
          have hlt := hreads.1
          -- the world behind the store
          have other : ∀ k, k ≠ b.blk → (w.setRow b.blk new).heap[k]? = w.heap[k]? := fun k hk => setRow_other w b.blk k new hk
          have here : (w.setRow b.blk new).heap[b.blk]? = some (.cells new e (0, 0)) := setRow_heap w b.blk arr new e _ hheap
          have hw0 : w0.heap.size ≤ b.blk := hB
          have hbelow : Below w0.heap.size w0 (w.setRow b.blk new) :=
            h.below.trans ⟨rfl, rfl, rfl, by simp [World.setRow], fun k hk => other k (by omega)⟩
          have cellOther : ∀ (q : Addr), q.block ≠ b.blk → (w.setRow b.blk new).cell? q = w.cell? q := fun q hq => World.cell?_of_block (other q.block hq)
          unfold Oper.wp
          have hexec : (execOp a.eval o).run P w = .ok .skip (w.setRow b.blk new) := by
            have h0' : b.off + p = p := by omega
            simp only [execOp, ho, Instr.storeAt, hav, Instr.sureAddr, Sem.run_bind, Sem.run_pure, Result.andThen_ok, h0', hrun]
          rw [hexec]
          refine hK _ _ (Ext.refl _ _) { tm := putT_rep h.tm undef_rep _, df := (put_defers a _ _).trans h.df, own := ?_, fresh := h.fresh, le := h.le, below := hbelow, ro := h.ro, pc := h.pc }
          refine ⟨fun i sbi hi => ?_, fun i sbi i' sbi' bi bi' hi hi' hne hbi hbi' => ?_⟩
          · rcases setB_mem hi with ⟨h1, h2⟩ | ⟨h1, h2⟩
            · simp only at h1 h2
              subst h1; subst h2
              refine ⟨b, hbj, ⟨by simpa [World.setRow] using hlt, fun q s hq => ?_, hreads.3.imp id fun ⟨g1, _⟩ => by rw [g1] at hfit'; simp at hfit'; omega, hreads.4⟩, hB, h0, new, e, here, ?_⟩
              · -- the cells, new and old
                have harr : SV.reps E β sb.cs (arr.toList.take sb.cs.length) := reps_iff.2 ⟨by simp; omega, fun q s hq => by
                  obtain ⟨v, hv, _, hrep⟩ := hreads.2 q s hq
                  have hq' := (List.getElem?_eq_some_iff.1 hq).1
                  exact ⟨v, by rw [List.getElem?_take, if_pos hq', Array.getElem?_toList]; exact hcell _ _ hv, hrep⟩⟩
                have hone : ∀ v ∈ arr.toList.take sb.cs.length, v.oneCell' = true := by
                  intro v hv
                  obtain ⟨q, hq, rfl⟩ := List.getElem_of_mem hv
                  have hq2 : q < sb.cs.length := by simp at hq; omega
                  obtain ⟨v', hv', h1', _⟩ := hreads.2 q _ (List.getElem?_eq_getElem hq2)
                  have := hcell _ _ hv'
                  rw [← Array.getElem?_toList] at this
                  have e2 : (arr.toList.take sb.cs.length)[q] = v' := by
                    rw [List.getElem_take]
                    rw [List.getElem?_eq_getElem (by simp; omega)] at this
                    exact Option.some.inj this
                  rw [e2]; exact h1'
                change (lay sb.cs p xs)[q]? = some s at hq
                have hlay := lay_rep harr hc p
                have hl2 : (lay sb.cs p xs).length = sb.cs.length := by simp [lay]; omega
                obtain ⟨v, hv, hrep⟩ := reps_get hlay hq
                have hq' : q < sb.cs.length := by have := (List.getElem?_eq_some_iff.1 hq).1; omega
                have hnv : new.toList[q]? = some v := by
                  rw [← hnew]
                  rw [← hv]
                  simp only [Array.length_toList, hvs]
                  have ht : (arr.toList.take sb.cs.length).take p = arr.toList.take p := by rw [List.take_take]; congr 1; omega
                  rw [ht]
                  generalize hL : arr.toList.take p ++ (a.eval y).cells.toList = L
                  have hLl : L.length = p + n := by rw [← hL]; simp [hvs]; omega
                  by_cases hqq : q < L.length
                  · rw [List.getElem?_append_left hqq, List.getElem?_append_left hqq]
                  · rw [List.getElem?_append_right (by omega), List.getElem?_append_right (by omega), List.getElem?_drop, List.getElem?_drop, List.getElem?_take, if_pos (by omega)]
                refine ⟨v, ?_, ?_, hrep⟩
                · rw [Array.getElem?_toList] at hnv
                  simpa [World.cell?, here, h0] using hnv
                · have hvm : v ∈ (arr.toList.take sb.cs.length).take p ++ (a.eval y).cells.toList ++ (arr.toList.take sb.cs.length).drop (p + (a.eval y).cells.toList.length) := List.mem_of_getElem? hv
                  rcases List.mem_append.1 hvm with hvm | hvm
                  · rcases List.mem_append.1 hvm with hvm | hvm
                    · exact hone v (List.mem_of_mem_take hvm)
                    · exact hc1 v hvm
                  · exact hone v (List.mem_of_mem_drop hvm)
              · split
                · trivial
                · rename_i e' size k hr
                  rw [hr] at hrow
                  simp only at hrow
                  refine ⟨hrow.1, by rw [hnewsz]; exact hrow.2.1, hrow.2.2.1, hrow.2.2.2.1, ?_⟩
                  have hl2 : (lay sb.cs p xs).length = sb.cs.length := by simp [lay]; omega
                  rw [hl2]; exact hrow.2.2.2.2
            · obtain ⟨bi, hbi, hri, hBi, h0i, arri, ei, hhi, hrowi⟩ := h.own.ent i sbi h2
              have hne := h.own.apart i sbi j sb bi b h2 hmem h1 hbi hbj
              exact ⟨bi, hbi, ⟨by simpa [World.setRow] using hri.1, fun q s hq => by
                obtain ⟨v, hv, hv1, hv2⟩ := hri.2 q s hq
                exact ⟨v, by rw [cellOther _ hne]; exact hv, hv1, hv2⟩, hri.3.imp id fun ⟨g1, g2⟩ => ⟨g1, fun q x hq => by
                obtain ⟨v, hv, hv1⟩ := g2 q x hq
                exact ⟨v, by rw [cellOther _ hne]; exact hv, hv1⟩⟩, hri.4⟩, hBi, h0i, arri, ei, by rw [other _ hne]; exact hhi, hrowi⟩
          · have key : ∀ {i sbi}, (i, sbi) ∈ setB σ.own j ⟨lay sb.cs p xs, sb.row⟩ → ∃ sb2, (i, sb2) ∈ σ.own := by
              intro i sbi hi
              rcases setB_mem hi with ⟨h1, _⟩ | ⟨_, h2⟩
              · simp only at h1; subst h1; exact ⟨sb, hmem⟩
              · exact ⟨sbi, h2⟩
            obtain ⟨s1, m1⟩ := key hi
            obtain ⟨s2, m2⟩ := key hi'
            exact h.own.apart i s1 i' s2 bi bi' m1 m2 hne hbi hbi'
        · cases hs
      · cases hs
    · cases hs
  · cases hs
end
end Go.Sx
