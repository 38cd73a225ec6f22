/- The symbolic executor is sound, first part: one operation of a function, with calls and with stores. No condition. -/
import Derived.Test.YtfdpcmijifdfeaaGreatSxRun
import Derived.Test.YtfdpcmijifdfeaaGreatSxOpS
import Derived.Test.YtfdpcmijifdfeaaGreatSxExt
import Derived.Orders
set_option linter.unusedVariables false
set_option linter.unusedSimpArgs false
noncomputable section
namespace Go.Sx
open Go Go.RowKit

theorem eqKs_eq : ∀ {x y : List SK}, eqKs x y = true → x = y
  | [], y, h => by
    cases y with
    | nil => rfl
    | cons _ _ => simp [eqKs] at h
  | k :: r, y, h => by
    cases y with
    | nil => simp [eqKs] at h
    | cons k' r' =>
      simp only [eqKs] at h
      split at h
      · rename_i hk
        rw [SK.n_inj (Nat.eq_of_beq_eq_true hk), eqKs_eq h]
      · cases h
theorem beqK_eq {a b : SK} (h : beqK a b = true) : a = b := SK.n_inj (Nat.eq_of_beq_eq_true h)
mutual
theorem SV.beq_eq : ∀ (x y : SV), SV.beq x y = true → x = y
  | .un, y, h => by cases y <;> simp [SV.beq] at h; rfl
  | .sc k t, y, h => by
    cases y <;> simp only [SV.beq, Bool.false_eq_true] at h
    split at h
    · rename_i hk; rw [beqK_eq hk, Tm.beq_eq h]
    · cases h
  | .ptr j o, y, h => by
    cases y <;> simp only [SV.beq, Bool.false_eq_true] at h
    split at h
    · rename_i hk; rw [Nat.eq_of_beq_eq_true hk, Nat.eq_of_beq_eq_true h]
    · cases h
  | .nilp, y, h => by cases y <;> simp [SV.beq] at h; rfl
  | .sl j o n, y, h => by
    cases y <;> simp only [SV.beq, Bool.false_eq_true] at h
    split at h
    · rename_i h1 h2; rw [Nat.eq_of_beq_eq_true h1, Nat.eq_of_beq_eq_true h2, Nat.eq_of_beq_eq_true h]
    · cases h
  | .nils, y, h => by cases y <;> simp [SV.beq] at h; rfl
  | .gs j n, y, h => by
    cases y <;> simp only [SV.beq, Bool.false_eq_true] at h
    split at h
    · rename_i hk; rw [Nat.eq_of_beq_eq_true hk, Nat.eq_of_beq_eq_true h]
    · cases h
  | .os j n t, y, h => by
    cases y <;> simp only [SV.beq, Bool.false_eq_true] at h
    split at h
    · rename_i h1 h2; rw [Nat.eq_of_beq_eq_true h1, Tm.beq_eq h2, Tm.beq_eq h]
    · cases h
  | .og j ks n t, y, h => by
    cases y <;> simp only [SV.beq, Bool.false_eq_true] at h
    split at h
    · rename_i h1 h2 h3; rw [Nat.eq_of_beq_eq_true h1, Tm.beq_eq h2, eqKs_eq h3, Tm.beq_eq h]
    · cases h
  | .rp j ks t i o, y, h => by cases y <;> simp [SV.beq] at h
  | .fn f a c, y, h => by
    cases y <;> simp only [SV.beq, Bool.false_eq_true] at h
    split at h
    · split at h
      · rename_i h1 h2; rw [Nat.eq_of_beq_eq_true h1, SV.beqs_eq a _ h2, SV.beqs_eq c _ h]
      · cases h
    · cases h
  | .nilf, y, h => by cases y <;> simp [SV.beq] at h; rfl
  | .nili, y, h => by cases y <;> simp [SV.beq] at h; rfl
  | .agg cs, y, h => by
    cases y <;> simp only [SV.beq, Bool.false_eq_true] at h
    rw [SV.beqs_eq cs _ h]
  | .tup cs, y, h => by
    cases y <;> simp only [SV.beq, Bool.false_eq_true] at h
    rw [SV.beqs_eq cs _ h]
theorem SV.beqs_eq : ∀ (x y : List SV), SV.beqs x y = true → x = y
  | [], y, h => by cases y <;> simp [SV.beqs] at h; rfl
  | a :: x, y, h => by
    cases y <;> simp only [SV.beqs, Bool.false_eq_true] at h
    split at h
    · rename_i h1; rw [SV.beq_eq a _ h1, SV.beqs_eq x _ h]
    · cases h
end


theorem swapP_rep {E : Env} {β β' : Pl} (hm : Pl.le β β') {u : SV} {v : Value} (h : SV.rep E β u v) : ∀ {sw : List (SV × SV)}, (∀ p, p ∈ sw → ∀ u, SV.rep E β p.1 u → SV.rep E β' p.2 u) → SV.rep E β' (swapP sw u) v
  | [], _ => SV.rep_mono hm _ _ h
  | (a, b) :: r, hs => by
    simp only [swapP]
    split
    · rename_i he
      have := SV.beq_eq u a he
      subst this
      exact hs _ (List.mem_cons_self ..) v h
    · exact swapP_rep hm h (fun p hp => hs p (List.mem_cons_of_mem _ hp))
theorem swapS_rep {E : Env} {β β' : Pl} (hm : Pl.le β β') {sw : List (SV × SV)} (hs : ∀ p, p ∈ sw → ∀ u, SV.rep E β p.1 u → SV.rep E β' p.2 u) : ∀ {tm : List SV} {vs : List Value}, SV.reps E β tm vs → SV.reps E β' (swapS sw tm) vs := by
  intro tm vs h
  unfold swapS
  split
  · exact SV.reps_mono hm _ _ h
  · induction tm generalizing vs with
    | nil => simpa using h
    | cons t r ih =>
      simp only [SV.reps] at h
      obtain ⟨v, rest, rfl, h1, h2⟩ := h
      simp only [List.map_cons, reps_cons]
      exact ⟨swapP_rep hm h1 hs, ih h2⟩
/-- What is shown of a call. -/
def CallOk (P : Program) (E : Env) (f : Nat) (args : List SV) (m : Mm) (pc : PC) (r : Res) : Prop :=
  ∀ (β : Pl) (w : World) (vals : List Value), SV.reps E β args vals → Reads E β m.mem w → Fresh β m.nxt m.lim → m.nxt ≤ m.lim → PcOk E pc →
    PcOk E r.pc ∧ r.nxt ≤ m.lim ∧ (∃ fn, P.funcs[f]? = some fn ∧ fn.body.isSome = true) ∧
    Calls P f vals.toArray w fun e w' => ∃ v β', e = .returned v ∧ SV.rep E β' r.v v ∧ Step E β β' w w' m.nxt r.nxt r.nb
/-- What a symbolic state says of a run: all but what may only be read, and what is known. -/
structure RepM (E : Env) (β : Pl) (w0 : World) (σ : St) (a : Act) (w : World) : Prop where
  tm : SV.reps E β σ.tm a.tmps.toList
  df : a.defers = []
  own : Owns E β w0.heap.size σ.own w
  fresh : Fresh β σ.nxt σ.lim
  le : σ.nxt ≤ σ.lim
  below : Below w0.heap.size w0 w
structure RepS (E : Env) (β : Pl) (w0 : World) (σ : St) (a : Act) (w : World) : Prop extends RepM E β w0 σ a w where
  ro : Reads E β σ.ro w0
  pc : PcOk E σ.pc

/-- What is shown of a call in its caller's own memory. -/
def FxOk (P : Program) (E : Env) (f : Nat) (args : List SV) (σ : St) (r : SV × St) : Prop :=
  ∀ (β : Pl) (w0 w : World) (a : Act) (vals : List Value), SV.reps E β args vals → RepS E β w0 σ a w →
    (∃ fn, P.funcs[f]? = some fn ∧ fn.body.isSome = true) ∧
    Calls P f vals.toArray w fun e w' => ∃ v β', e = .returned v ∧ SV.rep E β' r.1 v ∧ Ext β β' σ.nxt r.2.nxt ∧ Owns E β' w0.heap.size r.2.own w' ∧ Fresh β' r.2.nxt σ.lim ∧ r.2.nxt ≤ σ.lim ∧ Below w0.heap.size w0 w' ∧ ∀ p, p ∈ r.2.sw → ∀ u, SV.rep E β p.1 u → SV.rep E β' p.2 u
structure HndOk (P : Program) (E : Env) (H : Hnd) : Prop where
  h : ∀ f args m pc r, (H.h f args m pc).sel E = some r → CallOk P E f args m pc r
  fr : ∀ f args σ r, (H.fr f args σ).sel E = some r → PcOk E σ.pc → PcOk E r.2.pc ∧ FxOk P E f args σ r
def SumOk (P : Program) (E : Env) (f : Nat) (S : Sum) : Prop := ∀ args m pc r, (S args m pc).sel E = some r → CallOk P E f args m pc r
def exOf : Ex → Exit
  | .normal => .normal
  | .exit id => .exit id
  | .ret => .ret
/-- What is shown of a piece of code. -/
def CodeOk (P : Program) (E : Env) (c : Code) (L : St → Out (Ex × St)) : Prop :=
  ∀ {σ : St} {res : Ex × St} {β : Pl} {w0 : World} {a : Act} {w : World}, RepS E β w0 σ a w → (L σ).sel E = some res →
    ∀ Q : Exit → Act → World → Prop, (∀ β' a' w', Ext β β' σ.nxt res.2.nxt → RepS E β' w0 res.2 a' w' → Q (exOf res.1) a' w') → c.wp P Q a w
structure CtxOk (P : Program) (E : Env) (ctx : Ctx) : Prop where
  sum : ∀ f S, ctx.sum f = some S → SumOk P E f S
  cc : ∀ c L, ctx.cc c = some L → CodeOk P E (.loop c) L
  fxs : ∀ f args σ o, ctx.fxs f args σ = some o → ∀ r, o.sel E = some r → PcOk E σ.pc → FxOk P E f args σ r

section
variable {P : Program} {E : Env} {β : Pl} {w : World} {H : Hnd}

theorem reps_map {ev : Operand → SV} {ρ : Operand → Value} (hev : ∀ x, SV.rep E β (ev x) (ρ x)) : ∀ l : List Operand, SV.reps E β (l.map ev) (l.map ρ)
  | [] => by simp
  | x :: r => by simp only [List.map_cons, reps_cons]; exact ⟨hev x, reps_map hev r⟩

theorem opP_wp (hH : HndOk P E H) (hN : Named P) {m : Mm} {pc : PC} {r : Res} {o : Oper} {a : Act} {ev : Operand → SV} (hev : ∀ x, SV.rep E β (ev x) (a.eval x))
    (hm : Reads E β m.mem w) (hf : Fresh β m.nxt m.lim) (hl : m.nxt ≤ m.lim) (hp : PcOk E pc) (h : (opP H P m pc ev o.op).sel E = some r) :
    PcOk E r.pc ∧ r.nxt ≤ m.lim ∧ ∀ (K : Act → World → Prop) (Q : Exit → Act → World → Prop), (∀ v w' β', SV.rep E β' r.v v → Step E β β' w w' m.nxt r.nxt r.nb → K (a.put o.dst v) w') → o.wp P a w K Q := by
  unfold opP at h
  split at h
  · rename_i f args hc
    split at h
    · rename_i g as hca
      obtain ⟨dst, op, ty, pos, after, guard⟩ := o
      simp only at hc ⊢
      unfold isCall at hc
      split at hc
      · rename_i c
        split at hc
        · rename_i f' hcal
          cases hc
          obtain ⟨callee, cargs, argTypes⟩ := c
          simp only at hcal
          subst hcal
          have hfv := hev f
          unfold callArgs at hca
          split at hca
          · rename_i g' fa ca hevf
            cases hca
            rw [hevf] at hfv
            simp only [SV.rep] at hfv
            obtain ⟨avs, cvs, hv, ha, hcv⟩ := hfv
            have hreps : SV.reps E β (fa ++ (cargs.toList.map ev ++ ca)) (avs.toList ++ (cargs.toList.map a.eval ++ cvs.toList)) :=
              reps_append ha (reps_append (reps_map hev _) hcv)
            have e1 : avs ++ cargs.map a.eval ++ cvs = (avs.toList ++ (cargs.toList.map a.eval ++ cvs.toList)).toArray := by
              apply Array.ext'
              simp
            split at h
            · obtain ⟨h1, h2, ⟨fn, hfn, hbody⟩, hcalls⟩ := hH.h _ _ _ _ _ h β w _ hreps hm hf hl hp
              refine ⟨h1, h2, fun K Q hK => ?_⟩
              have hrun : (execOp a.eval ⟨dst, .call { callee := .value f, args := cargs, argTypes }, ty, pos, after, guard⟩).run P w =
                  .ok (.enter g (avs.toList ++ (cargs.toList.map a.eval ++ cvs.toList)).toArray) w := by
                have e1 : avs ++ cargs.map a.eval ++ cvs = (avs.toList ++ (cargs.toList.map a.eval ++ cvs.toList)).toArray := by
                  apply Array.ext'
                  simp
                have hb : fn.body.isNone = false := by cases hbd : fn.body <;> simp_all
                simp only [execOp, resolve, hv, Deferred.ofValue, Sem.run_bind, Sem.run_pure, Result.andThen_ok, invoke, callFunc, run_program, hfn, hN g fn hfn, hb]
                simp only [Bool.false_eq_true, if_false, Sem.run_pure]
                rw [e1]
              unfold Oper.wp
              rw [hrun]
              refine Calls.mono hcalls ?_
              rintro e w' ⟨v, β', rfl, hrep, hst⟩
              exact hK v w' β' hrep hst
            · rename_i k hk
              obtain ⟨h1, h2, v, w', hcall, hrep, hst⟩ := ext_ok (w := w) hN hk hreps hl hp h
              refine ⟨h1, h2, fun K Q hK => ?_⟩
              have hrun : (execOp a.eval ⟨dst, .call { callee := .value f, args := cargs, argTypes }, ty, pos, after, guard⟩).run P w = .ok (.value v) w' := by
                simp only [execOp, resolve, hv, Deferred.ofValue, Sem.run_bind, Sem.run_pure, Result.andThen_ok, invoke]
                rw [e1]
                exact hcall
              unfold Oper.wp
              rw [hrun]
              exact hK v w' β hrep hst
          · cases hca
        · cases hc
      · cases hc
    · cases h
  · obtain ⟨h1, h2, v, w', β', h3, h4, h5⟩ := opx_ok (P := P) (o := o) hev hm hf hl hp h
    refine ⟨h1, h2, fun K Q hK => ?_⟩
    unfold Oper.wp
    rw [h3]
    exact hK v w' β' h4 h5
end

section
variable {P : Program} {E : Env} {β : Pl} {w0 w : World} {H : Hnd} {σ σ' : St} {a : Act}

theorem RepS.reads (h : RepS E β w0 σ a w) : Reads E β (σ.own ++ σ.ro) w := h.own.reads.append (h.ro.below (Pl.le_refl _) h.below)

theorem reps_set {ss : List SV} {vs : List Value} (h : SV.reps E β ss vs) {s : SV} {v : Value} (hs : SV.rep E β s v) (d : Nat) : SV.reps E β (ss.set d s) (vs.set d v) := by
  induction ss generalizing vs d with
  | nil => simp at h; subst h; simp
  | cons x r ih =>
    simp only [SV.reps] at h
    obtain ⟨y, rest, rfl, h1, h2⟩ := h
    cases d with
    | zero => simp only [List.set_cons_zero, reps_cons]; exact ⟨hs, h2⟩
    | succ d => simp only [List.set_cons_succ, reps_cons]; exact ⟨h1, ih h2 d⟩
theorem putT_rep {tm : List SV} (h : SV.reps E β tm a.tmps.toList) {s : SV} {v : Value} (hs : SV.rep E β s v) (d : Option Tmp) : SV.reps E β (putT tm d s) (a.put d v).tmps.toList := by
  cases d with
  | none => exact h
  | some d => simp only [putT, kSet_eq, Act.put, Array.toList_setIfInBounds]; exact reps_set h hs d
theorem put_defers (a : Act) (d : Option Tmp) (v : Value) : (a.put d v).defers = a.defers := by cases d <;> rfl
theorem undef_rep : SV.rep E β undefS undef := by simp [undefS, undef, SV.rep]

/-- Behind an operation that writes to no old memory. -/
theorem RepS.after (h : RepS E β w0 σ a w) {r : Res} {β' : Pl} {v : Value} {w' : World} (d : Option Tmp) (hs : Step E β β' w w' σ.nxt r.nxt r.nb) (hl : r.nxt ≤ σ.lim) (hp : PcOk E r.pc) (hv : SV.rep E β' r.v v) :
    RepS E β' w0 (afterR σ d r) (a.put d v) w' := by
  have hsz := h.below.size
  refine { tm := putT_rep (SV.reps_mono hs.mono _ _ h.tm) hv d, df := (put_defers a d v).trans h.df, own := h.own.step hs hsz, fresh := fun j h1 h2 => ?_, le := hl, below := h.below.trans (hs.below.mono hsz), ro := h.ro.below hs.mono (Below.refl _ _), pc := hp }
  have hle := hs.le
  have h1' : r.nxt ≤ j := h1
  rw [hs.dom j (.inr h1')]
  exact h.fresh j (Nat.le_trans hle h1') h2

theorem setB_mem : ∀ {mem : Mem} {j : Nat} {sb : SB} {x : Nat × SB}, x ∈ setB mem j sb → (x.1 = j ∧ x.2 = sb) ∨ (x.1 ≠ j ∧ x ∈ mem)
  | [], _, _, _, h => by cases h
  | (i, y) :: r, j, sb, x, h => by
    simp only [setB] at h
    split at h
    · rename_i hij
      have e := Nat.eq_of_beq_eq_true hij
      rcases List.mem_cons.1 h with rfl | h
      · exact .inl ⟨e, rfl⟩
      · rcases setB_mem h with h | ⟨h1, h2⟩
        · exact .inl h
        · exact .inr ⟨h1, List.mem_cons_of_mem _ h2⟩
    · rename_i hij
      rcases List.mem_cons.1 h with rfl | h
      · refine .inr ⟨fun e => ?_, List.mem_cons_self ..⟩
        simp only at e
        subst e
        simp at hij
      · rcases setB_mem h with h | ⟨h1, h2⟩
        · exact .inl h
        · exact .inr ⟨h1, List.mem_cons_of_mem _ h2⟩

theorem storeVar_run {t : TypeId} {n g o : Nat} {v : Value} {arr : Array Value} {e : TypeId} (hn : szT P t = some n) (hv : v.cells.size = n) (h1 : ∀ x ∈ v.cells.toList, x.oneCell' = true)
    (hg : w.heap[g]? = some (.cells arr e (0, 0))) (hfit : o + n ≤ arr.size) :
    (storeVar t ⟨g, o, none⟩ v).run P w = .ok () (w.setRow g (arr.toList.take o ++ v.cells.toList ++ arr.toList.drop (o + n)).toArray) := by
  unfold storeVar
  have := run_storeCells_at P g o e v.cells.toList 0 arr w hg (by simp [hv]; omega) h1
  simp only [Nat.add_zero, Array.length_toList, hv] at this
  simp [szT_run hn, hv, this]

theorem storeS_wp {o : Oper} {t : TypeId} {x y : Operand} (ho : o.op = .store t x y) (h : RepS E β w0 σ a w) (hs : (storeS P σ o.dst t (evalO σ.tm x) (evalO σ.tm y)).sel E = some σ')
    (K : Act → World → Prop) (Q : Exit → Act → World → Prop) (hK : ∀ a' w', Ext β β σ.nxt σ'.nxt → RepS E β w0 σ' a' w' → K a' w') : o.wp P a w K Q := by
  unfold storeS at hs
  simp only [layK_eq] at hs
  split at hs
  · rename_i j p hx
    have hax := evalO_rep h.tm x
    rw [hx] at hax
    simp only [SV.rep] at hax
    obtain ⟨b, hbj, hav⟩ := hax
    split at hs
    · rename_i sb hsb
      split at hs
      · rename_i xs n hcs hn
        split at hs
        · rename_i hlen hfit hpos
          simp only [Out.sel, Option.some.injEq] at hs
          subst hs
          have hay := evalO_rep h.tm y
          obtain ⟨hc, hc1⟩ := cells_rep hcs hay
          have hmem := find_mem hsb
          obtain ⟨b', hb', hreads, hB, h0, arr, e, hheap, hrow⟩ := h.own.ent j sb hmem
          rw [hbj] at hb'; cases hb'
          have hlen' : xs.length = n := Nat.eq_of_beq_eq_true hlen
          have hfit' : p + n ≤ sb.cs.length := Nat.le_of_ble_eq_true hfit
          have hpos' : 0 < n := Nat.le_of_ble_eq_true hpos
          have hvs : (a.eval y).cells.size = n := by have := reps_length hc; rw [Array.length_toList] at this; omega
          -- the block is as long as its known cells
          have hcell : ∀ i v, w.cell? ⟨b.blk, b.off + i, none⟩ = some v → arr[i]? = some v := by
            intro i v hv
            simpa [World.cell?, hheap, h0] using hv
          have hsz : sb.cs.length ≤ arr.size := by
            rcases Nat.eq_zero_or_pos sb.cs.length with hz | hz
            · omega
            · obtain ⟨v, hv, _⟩ := hreads.2 (sb.cs.length - 1) _ (List.getElem?_eq_getElem (by omega))
              have := (Array.getElem?_eq_some_iff.1 (hcell _ _ hv)).1
              omega
          have hrun := storeVar_run (P := P) (w := w) (g := b.blk) (o := p) hn hvs hc1 hheap (by omega)
          generalize hnew : (arr.toList.take p ++ (a.eval y).cells.toList ++ arr.toList.drop (p + n)).toArray = new at hrun
          have hnewsz : new.size = arr.size := by
            rw [← hnew]; simp [hvs]; omega
          have hlt := hreads.1
          -- the world behind the store
          have other : ∀ k, k ≠ b.blk → (w.setRow b.blk new).heap[k]? = w.heap[k]? := fun k hk => setRow_other w b.blk k new hk
          have here : (w.setRow b.blk new).heap[b.blk]? = some (.cells new e (0, 0)) := setRow_heap w b.blk arr new e _ hheap
          have hw0 : w0.heap.size ≤ b.blk := hB
          have hbelow : Below w0.heap.size w0 (w.setRow b.blk new) :=
            h.below.trans ⟨rfl, rfl, rfl, by simp [World.setRow], fun k hk => other k (by omega)⟩
          have cellOther : ∀ (q : Addr), q.block ≠ b.blk → (w.setRow b.blk new).cell? q = w.cell? q := fun q hq => World.cell?_of_block (other q.block hq)
          unfold Oper.wp
          have hexec : (execOp a.eval o).run P w = .ok .skip (w.setRow b.blk new) := by
            have h0' : b.off + p = p := by omega
            simp only [execOp, ho, Instr.storeAt, hav, Instr.sureAddr, Sem.run_bind, Sem.run_pure, Result.andThen_ok, h0', hrun]
          rw [hexec]
          refine hK _ _ (Ext.refl _ _) { tm := putT_rep h.tm undef_rep _, df := (put_defers a _ _).trans h.df, own := ?_, fresh := h.fresh, le := h.le, below := hbelow, ro := h.ro, pc := h.pc }
          refine ⟨fun i sbi hi => ?_, fun i sbi i' sbi' bi bi' hi hi' hne hbi hbi' => ?_⟩
          · rcases setB_mem hi with ⟨h1, h2⟩ | ⟨h1, h2⟩
            · simp only at h1 h2
              subst h1; subst h2
              refine ⟨b, hbj, ⟨by simpa [World.setRow] using hlt, fun q s hq => ?_, hreads.3.imp id fun ⟨g1, _⟩ => by rw [g1] at hfit'; simp at hfit'; omega, hreads.4⟩, hB, h0, new, e, here, ?_⟩
              · -- the cells, new and old
                have harr : SV.reps E β sb.cs (arr.toList.take sb.cs.length) := reps_iff.2 ⟨by simp; omega, fun q s hq => by
                  obtain ⟨v, hv, _, hrep⟩ := hreads.2 q s hq
                  have hq' := (List.getElem?_eq_some_iff.1 hq).1
                  exact ⟨v, by rw [List.getElem?_take, if_pos hq', Array.getElem?_toList]; exact hcell _ _ hv, hrep⟩⟩
                have hone : ∀ v ∈ arr.toList.take sb.cs.length, v.oneCell' = true := by
                  intro v hv
                  obtain ⟨q, hq, rfl⟩ := List.getElem_of_mem hv
                  have hq2 : q < sb.cs.length := by simp at hq; omega
                  obtain ⟨v', hv', h1', _⟩ := hreads.2 q _ (List.getElem?_eq_getElem hq2)
                  have := hcell _ _ hv'
                  rw [← Array.getElem?_toList] at this
                  have e2 : (arr.toList.take sb.cs.length)[q] = v' := by
                    rw [List.getElem_take]
                    rw [List.getElem?_eq_getElem (by simp; omega)] at this
                    exact Option.some.inj this
                  rw [e2]; exact h1'
                change (lay sb.cs p xs)[q]? = some s at hq
                have hlay := lay_rep harr hc p
                have hl2 : (lay sb.cs p xs).length = sb.cs.length := by simp [lay]; omega
                obtain ⟨v, hv, hrep⟩ := reps_get hlay hq
                have hq' : q < sb.cs.length := by have := (List.getElem?_eq_some_iff.1 hq).1; omega
                have hnv : new.toList[q]? = some v := by
                  rw [← hnew]
                  rw [← hv]
                  simp only [Array.length_toList, hvs]
                  have ht : (arr.toList.take sb.cs.length).take p = arr.toList.take p := by rw [List.take_take]; congr 1; omega
                  rw [ht]
                  generalize hL : arr.toList.take p ++ (a.eval y).cells.toList = L
                  have hLl : L.length = p + n := by rw [← hL]; simp [hvs]; omega
                  by_cases hqq : q < L.length
                  · rw [List.getElem?_append_left hqq, List.getElem?_append_left hqq]
                  · rw [List.getElem?_append_right (by omega), List.getElem?_append_right (by omega), List.getElem?_drop, List.getElem?_drop, List.getElem?_take, if_pos (by omega)]
                refine ⟨v, ?_, ?_, hrep⟩
                · rw [Array.getElem?_toList] at hnv
                  simpa [World.cell?, here, h0] using hnv
                · have hvm : v ∈ (arr.toList.take sb.cs.length).take p ++ (a.eval y).cells.toList ++ (arr.toList.take sb.cs.length).drop (p + (a.eval y).cells.toList.length) := List.mem_of_getElem? hv
                  rcases List.mem_append.1 hvm with hvm | hvm
                  · rcases List.mem_append.1 hvm with hvm | hvm
                    · exact hone v (List.mem_of_mem_take hvm)
                    · exact hc1 v hvm
                  · exact hone v (List.mem_of_mem_drop hvm)
              · split
                · trivial
                · rename_i e' size k hr
                  rw [hr] at hrow
                  simp only at hrow
                  refine ⟨hrow.1, by rw [hnewsz]; exact hrow.2.1, hrow.2.2.1, hrow.2.2.2.1, ?_⟩
                  have hl2 : (lay sb.cs p xs).length = sb.cs.length := by simp [lay]; omega
                  rw [hl2]; exact hrow.2.2.2.2
            · obtain ⟨bi, hbi, hri, hBi, h0i, arri, ei, hhi, hrowi⟩ := h.own.ent i sbi h2
              have hne := h.own.apart i sbi j sb bi b h2 hmem h1 hbi hbj
              exact ⟨bi, hbi, ⟨by simpa [World.setRow] using hri.1, fun q s hq => by
                obtain ⟨v, hv, hv1, hv2⟩ := hri.2 q s hq
                exact ⟨v, by rw [cellOther _ hne]; exact hv, hv1, hv2⟩, hri.3.imp id fun ⟨g1, g2⟩ => ⟨g1, fun q x hq => by
                obtain ⟨v, hv, hv1⟩ := g2 q x hq
                exact ⟨v, by rw [cellOther _ hne]; exact hv, hv1⟩⟩, hri.4⟩, hBi, h0i, arri, ei, by rw [other _ hne]; exact hhi, hrowi⟩
          · have key : ∀ {i sbi}, (i, sbi) ∈ setB σ.own j ⟨lay sb.cs p xs, sb.row⟩ → ∃ sb2, (i, sb2) ∈ σ.own := by
              intro i sbi hi
              rcases setB_mem hi with ⟨h1, _⟩ | ⟨_, h2⟩
              · simp only at h1; subst h1; exact ⟨sb, hmem⟩
              · exact ⟨sbi, h2⟩
            obtain ⟨s1, m1⟩ := key hi
            obtain ⟨s2, m2⟩ := key hi'
            exact h.own.apart i s1 i' s2 bi bi' m1 m2 hne hbi hbi'
        · cases hs
      · cases hs
    · cases hs
  · cases hs
end
end Go.Sx
set_option linter.unusedVariables false
set_option linter.unusedSimpArgs false
noncomputable section
namespace Go.Sx
open Go Go.RowKit

section
variable {P : Program} {E : Env} {β : Pl} {w0 w : World} {H : Hnd} {σ σ' : St} {a : Act}

/-- The cells behind a slice, as values. -/
theorem sliceCells_run (P' : Program) {mem : Mem} {size n : Nat} {s : SV} {cs : List SV} (h : sliceCells mem size s = some (n, cs)) (hm : Reads E β mem w) {v : Value} (hr : SV.rep E β s v) :
    ∃ ad c vs, v = .slice (some ad) n c ∧ vs.length = n * size ∧ SV.reps E β cs vs ∧ (∀ u ∈ vs, u.oneCell' = true) ∧ ∀ j u, vs[j]? = some u → w.cell? (ad.add j) = some u := by
  unfold sliceCells at h
  split at h
  · rename_i j o n'
    split at h
    · rename_i sb hsb
      split at h
      · rename_i x hx
        cases h
        simp only [SV.rep] at hr
        obtain ⟨b, c, hbj, rfl, _⟩ := hr
        obtain ⟨b', hb', hreads⟩ := hm j sb (find_mem hsb)
        rw [hbj] at hb'; cases hb'
        obtain ⟨vs, _, h1, h2, h3, h4⟩ := loadCells_run (P := P') hreads hx
        exact ⟨_, c, vs, rfl, h1, h2, h3, fun j u hu => by rw [add_at]; exact h4 j u hu⟩
      · cases h
    · cases h
  · rename_i j n'
    split at h
    · rename_i sb hsb
      split at h
      · rename_i x hx
        cases h
        simp only [SV.rep] at hr
        obtain ⟨b, hbj, h0, rfl, _⟩ := hr
        obtain ⟨b', hb', hreads⟩ := hm j sb (find_mem hsb)
        rw [hbj] at hb'; cases hb'
        obtain ⟨vs, _, h1, h2, h3, h4⟩ := loadCells_run (P := P') hreads hx
        refine ⟨_, _, vs, rfl, h1, h2, h3, fun j u hu => ?_⟩
        have := h4 j u hu
        rw [add_at]
        simpa [h0] using this
      · cases h
    · cases h
  · cases h

theorem append_gs {t ty e : TypeId} {i : TypeInfo} {z : Value} (ht : P.underlying t = some (.slice e)) (hi : P.info? e = some i) (hz : i.zero = some z) (hzs : z.cells.size = i.size) (hpos : 0 < i.size)
    {g k cap : Nat} {cur : Array Value} (hg : w.heap[g]? = some (.cells cur e (0, 0))) (hk : k ≤ cap) (hcm : cap ≤ maxLen) (hcs : cur.size = cap * i.size)
    {ad : Addr} {n c : Nat} {news : List Value} (hl : news.length = n * i.size) (hnews : ∀ j u, news[j]? = some u → w.cell? (ad.add j) = some u) (h1 : ∀ u ∈ news, u.oneCell' = true) (hb : (k + n) * i.bytes ≤ 140737488355328) (h63 : k + n ≤ maxLen) :
    ∃ w' g' cap' cur', (Builtin.append_ #[t, t] ty #[.slice (some ⟨g, 0, none⟩) k cap, .slice (some ad) n c]).run P w = .ok (.slice (some ⟨g', 0, none⟩) (k + n) cap') w' ∧
      w'.heap[g']? = some (.cells cur' e (0, 0)) ∧ k + n ≤ cap' ∧ cap' ≤ maxLen ∧ cur'.size = cap' * i.size ∧ cur'.toList.take ((k + n) * i.size) = cur.toList.take (k * i.size) ++ news ∧
      (g' = g ∨ g' = w.heap.size) ∧ w.grownBy w' (some g) := by
  have hown : w.ownsRow 0 e i.size (.slice (some ⟨g, 0, none⟩) k cap) k (cur.toList.take (k * i.size)) := by
    refine ⟨?_, .inr ⟨g, cap, cur, rfl, Nat.zero_le _, hg, hk, hcm, hcs, rfl⟩⟩
    rw [List.length_take, Array.length_toList, hcs]
    exact Nat.min_eq_left (Nat.mul_le_mul_right _ hk)
  obtain ⟨v', w', hrun, hown', hgr, _⟩ := run_append_own (P := P) w 0 t ty e i z i.size i.bytes ht hi hz rfl rfl hzs hpos _ k _ hown ad n c news hl hnews h1 h63 hb (Nat.zero_le _)
  have hblk : ∃ g', (∃ cap', v' = .slice (some ⟨g', 0, none⟩) (k + n) cap') ∧ (g' = g ∨ g' = w.heap.size) := by
    by_cases hroom : k + n ≤ cap
    · have hfit : k * i.size + news.length ≤ cur.size := by rw [hl, hcs, ← Nat.add_mul]; exact Nat.mul_le_mul_right _ hroom
      have hr := run_append_room (P := P) w t ty e i ht hi g k cap cur hg ad n c news hl hnews h1 hroom hfit
      rw [hrun] at hr
      simp only [Result.ok.injEq] at hr
      exact ⟨g, ⟨_, hr.1⟩, .inl rfl⟩
    · have hlen := hown.1
      have holds : ∀ j u, (cur.toList.take (k * i.size))[j]? = some u → w.cell? ((⟨g, 0, none⟩ : Addr).add j) = some u := hown.cells (g := g) rfl
      have hsmall : ((k + n : Nat) : Int) ≤ 9223372036854775807 := by simp only [maxLen] at h63; omega
      have hr := run_append_grow (P := P) w t ty e i z ht hi hz ⟨g, 0, none⟩ k cap _ hlen holds ad n c news hl hnews (by omega) hsmall (growslice_fits (by omega) hb)
      rw [hrun] at hr
      simp only [Result.ok.injEq] at hr
      exact ⟨w.heap.size, ⟨_, hr.1⟩, .inr rfl⟩
  obtain ⟨g', ⟨cap', hv'⟩, hg'⟩ := hblk
  rcases hown'.2 with ⟨hn, _⟩ | ⟨g2, cap2, cur2, hv2, _, hh2, hn2, hc2, hs2, ht2⟩
  · rw [hv'] at hn; cases hn
  · rw [hv'] at hv2
    cases hv2
    exact ⟨w', _, _, cur2, hv' ▸ hrun, hh2, hn2, hc2, hs2, ht2, hg', hgr⟩

theorem append_nil {t ty e : TypeId} {i : TypeInfo} {z : Value} (ht : P.underlying t = some (.slice e)) (hi : P.info? e = some i) (hz : i.zero = some z) (hzs : z.cells.size = i.size) (hpos : 0 < i.size)
    {ad : Addr} {n c : Nat} {news : List Value} (hl : news.length = n * i.size) (hnews : ∀ j u, news[j]? = some u → w.cell? (ad.add j) = some u) (h1 : ∀ u ∈ news, u.oneCell' = true) (hb : n * i.bytes ≤ 140737488355328) (h63 : n ≤ maxLen) :
    ∃ w', w.grownBy w' none ∧ ((n = 0 ∧ (Builtin.append_ #[t, t] ty #[.slice none 0 0, .slice (some ad) n c]).run P w = .ok (.slice none 0 0) w') ∨
      ∃ g' cap' cur', (Builtin.append_ #[t, t] ty #[.slice none 0 0, .slice (some ad) n c]).run P w = .ok (.slice (some ⟨g', 0, none⟩) n cap') w' ∧ n ≠ 0 ∧
        w'.heap[g']? = some (.cells cur' e (0, 0)) ∧ n ≤ cap' ∧ cap' ≤ maxLen ∧ cur'.size = cap' * i.size ∧ cur'.toList.take (n * i.size) = news ∧ w.heap.size ≤ g') := by
  obtain ⟨v', w', hrun, hown', hgr, hiff⟩ := run_append_own (P := P) w w.heap.size t ty e i z i.size i.bytes ht hi hz rfl rfl hzs hpos _ 0 [] (World.ownsRow_nil _ _ _ _) ad n c news hl hnews h1 (by omega) (by simpa using hb) (Nat.le_refl _)
  simp only [Nat.zero_add, List.nil_append] at hown'
  refine ⟨w', hgr, ?_⟩
  rcases hown'.2 with ⟨hv, hn⟩ | ⟨g2, cap2, cur2, hv2, hb2, hh2, hn2, hc2, hs2, ht2⟩
  · exact .inl ⟨hn, hv ▸ hrun⟩
  · refine .inr ⟨g2, cap2, cur2, hv2 ▸ hrun, ?_, hh2, hn2, hc2, hs2, ht2, hb2⟩
    intro h0
    have := hiff.2 ⟨rfl, h0⟩
    rw [hv2] at this; cases this

/-- A list of cells that begins with known values. -/
theorem row_cells {cs : List SV} {vs : List Value} {cur : Array Value} {g cap : Nat} {e : TypeId} (hr : SV.reps E β cs vs) (h1 : ∀ u ∈ vs, u.oneCell' = true) (hh : w.heap[g]? = some (.cells cur e (0, 0)))
    (ht : cur.toList.take vs.length = vs) : SB.reads E β ⟨cs, none⟩ ⟨g, 0, cap, []⟩ w := by
  refine ⟨(Array.getElem?_eq_some_iff.1 hh).1, fun i s hi => ?_, .inl rfl, fun _ _ h => by cases h⟩
  obtain ⟨v, hv, hrep⟩ := reps_get hr hi
  refine ⟨v, ?_, h1 v (List.mem_of_getElem? hv), hrep⟩
  have hlt := (List.getElem?_eq_some_iff.1 hv).1
  rw [← ht, List.getElem?_take, if_pos hlt, Array.getElem?_toList] at hv
  simpa [World.cell?, hh] using hv

theorem dropB_mem : ∀ {mem : Mem} {j : Nat} {x : Nat × SB}, x ∈ dropB mem j → x.1 ≠ j ∧ x ∈ mem
  | [], _, _, h => by cases h
  | (i, y) :: r, j, x, h => by
    simp only [dropB] at h
    split at h
    · have := dropB_mem h; exact ⟨this.1, List.mem_cons_of_mem _ this.2⟩
    · rename_i hij
      rcases List.mem_cons.1 h with rfl | h
      · exact ⟨fun e => by simp only at e; subst e; simp at hij, List.mem_cons_self ..⟩
      · have := dropB_mem h; exact ⟨this.1, List.mem_cons_of_mem _ this.2⟩

/-- A state behind an append: the block of the slice has grown, in its place or in a new one. -/
theorem RepS.grownB (h : RepS E β w0 σ a w) {w' : World} {row : Option Nat} {own : Mem} (hgr : w.grownBy w' row) (hrow : ∀ k, row = some k → w0.heap.size ≤ k)
    (hlt : σ.nxt < σ.lim) {nb : Bs} {nsb : SB} {s : SV} {v : Value} (hg : w0.heap.size ≤ nb.blk) (hrd : SB.reads E (upd β σ.nxt nb) nsb nb w') (hwn : SB.owns nsb nb w') (hsv : SV.rep E (upd β σ.nxt nb) s v)
    (hsub : ∀ x, x ∈ own → x ∈ σ.own) (hoth : ∀ j sb b, (j, sb) ∈ own → β j = some b → some b.blk ≠ row ∧ b.blk ≠ nb.blk) (d : Option Tmp) :
    RepS E (upd β σ.nxt nb) w0 { σ with tm := putT σ.tm d s, own := (σ.nxt, nsb) :: own, nxt := σ.nxt + 1 } (a.put d v) w' := by
  have hmono : Pl.le β (upd β σ.nxt nb) := upd_le h.fresh hlt _
  have hat : upd β σ.nxt nb σ.nxt = some nb := by simp [upd]
  have hB : Below w0.heap.size w w' := ⟨hgr.os, hgr.tape, hgr.output, hgr.size, fun k hk => hgr.block k (Nat.lt_of_lt_of_le hk h.below.size) (fun e => by have := hrow k e.symm; omega)⟩
  have old : ∀ j sb, (j, sb) ∈ own → ∃ b, β j = some b ∧ SB.reads E (upd β σ.nxt nb) sb b w' ∧ w0.heap.size ≤ b.blk ∧ SB.owns sb b w' := by
    intro j sb hj
    obtain ⟨b, hb, hr, hBb, h0, arr, eb, hhb, hrw⟩ := h.own.ent j sb (hsub _ hj)
    have hne := (hoth j sb b hj hb).1
    have hsame : w'.heap[b.blk]? = w.heap[b.blk]? := hgr.block _ hr.1 hne
    refine ⟨b, hb, ⟨Nat.lt_of_lt_of_le hr.1 hgr.size, fun q s hq => ?_, hr.3.imp id fun ⟨g1, g2⟩ => ⟨g1, fun q x hq => ?_⟩, hr.4⟩, hBb, h0, arr, eb, hsame.trans hhb, hrw⟩
    · obtain ⟨v, hv, hv1, hv2⟩ := hr.2 q s hq
      exact ⟨v, (World.cell?_of_block (a := ⟨b.blk, b.off + q, none⟩) hsame).trans hv, hv1, SV.rep_mono hmono _ _ hv2⟩
    · obtain ⟨v, hv, hv1⟩ := g2 q x hq
      exact ⟨v, (World.cell?_of_block (a := ⟨b.blk, b.off + q, none⟩) hsame).trans hv, hv1⟩
  refine { tm := putT_rep (SV.reps_mono hmono _ _ h.tm) hsv d, df := (put_defers a _ _).trans h.df, own := ⟨fun j sb hj => ?_, fun j sb j' sb' b b' hj hj' hne hb hb' => ?_⟩, fresh := fun j h1 h2 => ?_, le := hlt, below := h.below.trans hB, ro := h.ro.below hmono (Below.refl _ _), pc := h.pc }
  · rcases List.mem_cons.1 hj with hj | hj
    · cases hj
      exact ⟨_, hat, hrd, hg, hwn⟩
    · obtain ⟨b, hb, hrest⟩ := old j sb hj
      exact ⟨b, hmono j b hb, hrest⟩
  · rcases List.mem_cons.1 hj with hj | hj <;> rcases List.mem_cons.1 hj' with hj' | hj'
    · cases hj; cases hj'; exact absurd rfl hne
    · cases hj
      obtain ⟨x, hx, _⟩ := h.own.ent j' sb' (hsub _ hj')
      have hx' := hmono j' x hx
      rw [hb'] at hx'; cases hx'
      rw [hat] at hb; cases hb
      exact fun e => (hoth j' sb' b' hj' hx).2 e.symm
    · cases hj'
      obtain ⟨x, hx, _⟩ := h.own.ent j sb (hsub _ hj)
      have hx' := hmono j x hx
      rw [hb] at hx'; cases hx'
      rw [hat] at hb'; cases hb'
      exact (hoth j sb b hj hx).2
    · obtain ⟨x, hx, _⟩ := h.own.ent j sb (hsub _ hj)
      obtain ⟨y, hy, _⟩ := h.own.ent j' sb' (hsub _ hj')
      have hx' := hmono j x hx
      have hy' := hmono j' y hy
      rw [hb] at hx'; rw [hb'] at hy'
      cases hx'; cases hy'
      exact h.own.apart j sb j' sb' _ _ (hsub _ hj) (hsub _ hj') hne hx hy
  · have h1' : σ.nxt + 1 ≤ j := h1
    unfold upd
    rw [if_neg (by omega)]
    exact h.fresh j (by omega) h2
theorem RepS.grown (h : RepS E β w0 σ a w) {w' : World} {row : Option Nat} {own : Mem} (hgr : w.grownBy w' row) (hrow : ∀ k, row = some k → w0.heap.size ≤ k)
    (hlt : σ.nxt < σ.lim) {g cap : Nat} {cs : List SV} {e size n : Nat} {cur : Array Value} {vs : List Value} (hcs : SV.reps E β cs vs) (h1 : ∀ u ∈ vs, u.oneCell' = true)
    (hh : w'.heap[g]? = some (.cells cur e (0, 0))) (hn : n ≤ cap) (hcm : cap ≤ maxLen) (hsz : cur.size = cap * size) (htake : cur.toList.take vs.length = vs) (hlen : vs.length = n * size) (hg : w0.heap.size ≤ g) (hn0 : n ≠ 0)
    (hsub : ∀ x, x ∈ own → x ∈ σ.own) (hoth : ∀ j sb b, (j, sb) ∈ own → β j = some b → some b.blk ≠ row ∧ b.blk ≠ g) (d : Option Tmp) :
    RepS E (upd β σ.nxt ⟨g, 0, cap, []⟩) w0 { σ with tm := putT σ.tm d (.gs σ.nxt n), own := (σ.nxt, ⟨cs, some (e, size, n)⟩) :: own, nxt := σ.nxt + 1 } (a.put d (.slice (some ⟨g, 0, none⟩) n cap)) w' := by
  have hmono : Pl.le β (upd β σ.nxt ⟨g, 0, cap, []⟩) := upd_le h.fresh hlt _
  have hat : upd β σ.nxt ⟨g, 0, cap, []⟩ σ.nxt = some ⟨g, 0, cap, []⟩ := by simp [upd]
  have hr := row_cells (cap := cap) (SV.reps_mono hmono _ _ hcs) h1 hh htake
  exact h.grownB hgr hrow hlt (nb := ⟨g, 0, cap, []⟩) (nsb := ⟨cs, some (e, size, n)⟩) (s := .gs σ.nxt n) hg ⟨hr.1, hr.2, .inl rfl, fun _ _ h _ => by cases h; exact absurd rfl hn0⟩ ⟨rfl, cur, e, hh, rfl, hsz, hn, hcm, by have := reps_length hcs; show cs.length = _; omega⟩ (by simp only [SV.rep]; exact ⟨_, hat, rfl, rfl, rfl⟩) hsub hoth d
/-- Cells of these kinds, and the values that they stand for. -/
theorem cellsT_rep : ∀ {ks : List SK} {cs : List SV} {u : Tm} {vs : List Value}, cellsT ks cs = some u → SV.reps E β cs vs → (u.den E).list.length = ks.length ∧ vs.length = ks.length ∧ ∀ (i : Nat) (x : Sc), (u.den E).list[i]? = some x → ∃ v : Value, vs[i]? = some v ∧ ∃ (k : SK) (c : Sc), ks[i]? = some k ∧ x = .cons (.i k.n) c ∧ k.rep c v
  | [], cs, u, vs, h, hr => by
    cases cs with
    | nil =>
      cases h
      simp at hr
      subst hr
      exact ⟨rfl, rfl, fun i x hx => by simp [Tm.den, Sc.list] at hx⟩
    | cons _ _ => cases h
  | k :: ks, [], u, vs, h, hr => by cases h
  | k :: ks, s :: r, u, vs, h, hr => by
    simp only [cellsT] at h
    split at h
    · rename_i k' t u' hu
      split at h
      · rename_i hk
        cases h
        have hkk := SK.n_inj (Nat.eq_of_beq_eq_true hk)
        subst hkk
        simp only [SV.reps] at hr
        obtain ⟨v, rest, rfl, h1, h2⟩ := hr
        obtain ⟨g1, g3, g2⟩ := cellsT_rep hu h2
        refine ⟨by simp only [Tm.den, Sc.list, List.length_cons, g1], by simp only [List.length_cons, g3], fun i x hx => ?_⟩
        cases i with
        | zero =>
          simp only [Tm.den, Sc.list, List.getElem?_cons_zero, Option.some.injEq] at hx
          subst hx
          exact ⟨v, rfl, k, t.den E, rfl, rfl, h1⟩
        | succ i =>
          simp only [Tm.den, Sc.list, List.getElem?_cons_succ] at hx
          simpa using g2 i x hx
      · cases h
    · cases h
/-- Rows and one row more. -/
theorem RowsOk.more {ks : List SK} {l : Nat} {a b : List Sc} (h : RowsOk (kScs ks) (l : Nat) a) (hb : b.length = ks.length) (hk : ∀ (i : Nat) (x : Sc), b[i]? = some x → ∃ (k : SK) (c : Sc), ks[i]? = some k ∧ x = .cons (.i k.n) c) : RowsOk (kScs ks) ((l + 1 : Nat) : Int) (a ++ b) := by
  have hlen : (kScs ks).length = ks.length := by simp [kScs]
  have ha : a.length = l * ks.length := by
    have := h.1
    rw [hlen, ← Int.natCast_mul] at this
    exact Int.ofNat.inj this
  refine ⟨by rw [hlen, List.length_append, ha, hb, ← Int.natCast_mul, Nat.succ_mul], fun i x hx => ?_⟩
  rcases Nat.lt_or_ge i a.length with hlo | hhi
  · rw [List.getElem?_append_left hlo] at hx
    exact h.2 i x hx
  · rw [List.getElem?_append_right hhi] at hx
    obtain ⟨k, c, h1, h2⟩ := hk _ x hx
    have hlt := (List.getElem?_eq_some_iff.1 h1).1
    refine ⟨c, ?_⟩
    rw [hlen]
    have e : i % ks.length = i - a.length := by
      have : i = (i - a.length) + ks.length * l := by rw [Nat.mul_comm, ← ha]; omega
      rw [this, Nat.add_mul_mod_self_left]
      have e2 : i - a.length + ks.length * l - a.length = i - a.length := by rw [← this]
      rw [e2]
      exact Nat.mod_eq_of_lt hlt
    rw [e]
    have : (kScs ks).getD (i - a.length) .nil = .i k.n := by simp [kScs, List.getD, h1]
    rw [this]; exact h2
theorem RowsOk.len {ks : List SK} {l : Nat} {a : List Sc} (h : RowsOk (kScs ks) (l : Nat) a) : a.length = l * ks.length := by
  have hlen : (kScs ks).length = ks.length := by simp [kScs]
  have := h.1
  rw [hlen, ← Int.natCast_mul] at this
  exact Int.ofNat.inj this
/-- One element more in an open list: what is to be shown of its block. -/
theorem open_grown {b : Bs} {l size cap' g' : Nat} {arr cur' : Array Value} {e : TypeId} {news : List Value} {ks : List SK} {cs : List SV} {u : Tm} {n t : Tm} {w' : World} {β' : Pl} {j' : Nat} (hgen : b.val = [] ∨ GenOk b w) (hoff : b.off = 0) (hheap : w.heap[b.blk]? = some (.cells arr e (0, 0))) (hrows : RowsOk (kScs ks) (l : Nat) b.val) (hks : size = ks.length) (hpos : 0 < size)
    (hcs : cellsT ks cs = some u) (hnr : SV.reps E β cs news) (hn1 : ∀ v ∈ news, v.oneCell' = true) (hnl : news.length = 1 * size) (hh : w'.heap[g']? = some (.cells cur' e (0, 0))) (hsz2 : cur'.size = cap' * size) (hcm' : cap' ≤ maxLen) (hnc' : l + 1 ≤ cap')
    (htake : cur'.toList.take ((l + 1) * size) = arr.toList.take (l * size) ++ news) (has : l * size ≤ arr.size) (hval : b.val = (t.den E).list) (hln : (l : Int) = (n.den E).toI) (hl : l < 1000000) (hat : β' j' = some ⟨g', 0, cap', ((Tm.op .snoc t u).den E).list⟩) :
    SB.reads E β' ⟨[], some (e, size, 0)⟩ ⟨g', 0, cap', ((Tm.op .snoc t u).den E).list⟩ w' ∧ SB.owns ⟨[], some (e, size, 0)⟩ ⟨g', 0, cap', ((Tm.op .snoc t u).den E).list⟩ w' ∧
      SV.rep E β' (.og j' ks (succT n) (.op .snoc t u)) (.slice (some ⟨g', 0, none⟩) (l + 1) cap') := by
  have ev : ((Tm.op .snoc t u).den E).list = b.val ++ (u.den E).list := by
    rw [hval]
    show (Sc.ofList _).list = _
    exact ofList_list _
  obtain ⟨c1, c3, c2⟩ := cellsT_rep hcs hnr
  have hvl : b.val.length = l * size := by rw [hks]; exact hrows.len
  refine ⟨⟨(Array.getElem?_eq_some_iff.1 hh).1, fun i s hi => by simp at hi, .inr ⟨rfl, fun i x hi => ?_⟩, fun e' s h => ?_⟩, ⟨rfl, cur', e, hh, rfl, hsz2, Nat.zero_le _, hcm', by simp⟩, ?_⟩
  · simp only [ev] at hi
    have hcur : ∀ v, (arr.toList.take (l * size) ++ news)[i]? = some v → w'.cell? ⟨g', 0 + i, none⟩ = some v := by
      intro v hv
      rw [← htake] at hv
      have hlt := (List.getElem?_eq_some_iff.1 hv).1
      rw [List.getElem?_take, if_pos (by simp at hlt; omega), Array.getElem?_toList] at hv
      simpa [World.cell?, hh] using hv
    have hlt : (arr.toList.take (l * size)).length = l * size := by rw [List.length_take, Array.length_toList]; omega
    rcases Nat.lt_or_ge i b.val.length with hlo | hhi
    · rw [List.getElem?_append_left hlo] at hi
      rcases hgen with hnil | hg
      · rw [hnil] at hlo; simp at hlo
      · obtain ⟨v, hv, h1, h2⟩ := hg i x hi
        refine ⟨v, hcur v ?_, h1, h2⟩
        rw [List.getElem?_append_left (by omega), List.getElem?_take, if_pos (by omega), Array.getElem?_toList]
        simpa [World.cell?, hheap, hoff] using hv
    · rw [List.getElem?_append_right hhi] at hi
      obtain ⟨v, hv, k, c, h2, h3, h4⟩ := c2 _ x hi
      refine ⟨v, hcur v ?_, hn1 v (List.mem_of_getElem? hv), k, c, h3, h4⟩
      rw [List.getElem?_append_right (by omega), hlt, ← hvl]
      exact hv
  · intro hv
    simp only [ev] at hv
    have hl0 := congrArg List.length hv
    rw [List.length_append, c1, ← hks] at hl0
    simp at hl0
    omega
  · have hw : ((succT n).den E).toI = (l : Int) + 1 := by
      unfold succT
      rw [mkOp_den]
      show IntKind.i64.wrap ((n.den E).toI + 1) = _
      rw [← hln]
      exact wrap_in .i64 (by rw [← kmin_eq]; show (-9223372036854775808 : Int) ≤ _; omega) (by rw [← kmax_eq]; show _ ≤ (9223372036854775807 : Int); omega)
    simp only [SV.rep]
    refine ⟨_, l + 1, hat, rfl, hnc', Nat.le_trans hnc' hcm', by rw [hw]; omega, rfl, ?_⟩
    simp only [ev]
    exact hrows.more c1 fun i x hx => by
      obtain ⟨v, _, k, c, h2, h3, _⟩ := c2 i x hx
      exact ⟨k, c, h2, h3⟩

theorem ble_room {q b : Nat} (h : Nat.ble (q * (b + 1)) 1000000 = true) : q * b ≤ 140737488355328 ∧ q ≤ maxLen := by
  have h1 := Nat.le_of_ble_eq_true h
  rw [Nat.mul_succ] at h1
  unfold maxLen
  omega
theorem roomT_ok {pc : PC} (hp : PcOk E pc) {k : Tm} {b l : Nat} (h : roomT pc k b = true) (hl : (l : Int) = (k.den E).toI) : (l + 1) * b ≤ 140737488355328 ∧ l + 1 ≤ maxLen ∧ l < 1000000 := by
  unfold roomT at h
  split at h
  · rename_i x hh hi
    have h1 := (ivl_ok hp k _ _ hi).2
    have h2 := Nat.le_of_ble_eq_true h
    have h3 : l ≤ hh := by
      have : (l : Int) ≤ Int.ofNat hh := by omega
      exact Int.ofNat_le.1 this
    have h4 : (l + 1) * (b + 1) ≤ 1000000 := Nat.le_trans (Nat.mul_le_mul_right _ (by omega)) h2
    rw [Nat.mul_succ] at h4
    unfold maxLen
    omega
  · cases h
theorem appendS_wp {o : Oper} {t : TypeId} {s x : Operand} (ho : o.op = .call { callee := .builtin .append, args := #[s, x], argTypes := #[t, t] }) (h : RepS E β w0 σ a w)
    (hs : (appendS P σ o.dst t (evalO σ.tm s) (evalO σ.tm x)).sel E = some σ') (K : Act → World → Prop) (Q : Exit → Act → World → Prop)
    (hK : ∀ β' a' w', Ext β β' σ.nxt σ'.nxt → RepS E β' w0 σ' a' w' → K a' w') : o.wp P a w K Q := by
  unfold appendS at hs
  split at hs
  · rename_i e ht
    split at hs
    · rename_i i hi
      split at hs
      · rename_i z hz
        split at hs
        · rename_i n cs hzs hpos hcells hlt
          have hzs' : z.cells.size = i.size := Nat.eq_of_beq_eq_true hzs
          have hpos' : 0 < i.size := by simpa [Nat.blt_eq] using hpos
          have hlt' : σ.nxt < σ.lim := by simpa [Nat.blt_eq] using hlt
          obtain ⟨ad, c, news, hxv, hnl, hnr, hn1, hnc⟩ := sliceCells_run P hcells h.reads (evalO_rep h.tm x)
          have hsv := evalO_rep h.tm s
          have hexec : ∀ v w', (Builtin.append_ #[t, t] o.type #[a.eval s, a.eval x]).run P w = .ok v w' → (execOp a.eval o).run P w = .ok (.value v) w' := by
            intro v w' hr
            simp only [execOp, ho, resolve, invoke, builtin, Sem.run_bind, Sem.run_pure, Result.andThen_ok, List.map_toArray, List.map_cons, List.map_nil, hr]
          split at hs
          · rename_i hse
            rw [hse] at hsv
            simp only [SV.rep] at hsv
            split at hs
            · rename_i hb
              simp only [Out.sel, Option.some.injEq] at hs
              subst hs
              obtain ⟨w', hgr, hc⟩ := append_nil (P := P) (ty := o.type) ht hi hz hzs' hpos' (c := c) hnl hnc hn1 (ble_room hb).1 (ble_room hb).2
              rcases hc with ⟨_, hr⟩ | ⟨_, _, _, _, h0, _⟩
              · unfold Oper.wp
                rw [hexec _ _ (by rw [hsv, hxv]; exact hr)]
                have hB : Below w.heap.size w w' := ⟨hgr.os, hgr.tape, hgr.output, hgr.size, fun k hk => hgr.block k hk (by simp)⟩
                refine hK β _ _ (Ext.refl _ _) { tm := putT_rep h.tm (by simp [SV.rep]) _, df := (put_defers a _ _).trans h.df, own := h.own.below (Pl.le_refl _) hB, fresh := h.fresh, le := h.le, below := h.below.trans (hB.mono h.below.size), ro := h.ro, pc := h.pc }
              · exact absurd rfl h0
            · rename_i n' hne hb
              simp only [Out.sel, Option.some.injEq] at hs
              subst hs
              obtain ⟨w', hgr, hc⟩ := append_nil (P := P) (ty := o.type) ht hi hz hzs' hpos' (c := c) hnl hnc hn1 (ble_room hb).1 (ble_room hb).2
              rcases hc with ⟨h0, _⟩ | ⟨g', cap', cur', hr, _, hh, hnc', hcm, hsz, htake, hge⟩
              · exact absurd h0 (by intro h0; subst h0; exact hne rfl)
              · unfold Oper.wp
                rw [hexec _ _ (by rw [hsv, hxv]; exact hr)]
                refine hK _ _ _ (ext_upd h.fresh hlt' ⟨g', 0, cap', []⟩) (h.grown (row := none) hgr (by simp) hlt' hnr hn1 hh hnc' hcm hsz (by rw [hnl]; exact htake) hnl (Nat.le_trans h.below.size hge) (by intro h0; subst h0; exact hne rfl) (fun _ hx => hx) (fun j sb b hj hb => ⟨by simp, ?_⟩) _)
                obtain ⟨b', hb', hr', _⟩ := h.own.ent j sb hj
                rw [hb] at hb'; cases hb'
                have := hr'.1
                omega
            · cases hs
          · rename_i j k hse
            rw [hse] at hsv
            simp only [SV.rep] at hsv
            obtain ⟨b, hbj, hb0, hsv', _⟩ := hsv
            split at hs
            · rename_i sb hsb
              split at hs
              · rename_i e' sz' k' hrow
                split at hs
                · rename_i he hsz' hk' hb hz0
                  have hz0' : k + n ≠ 0 := fun e => by rw [e] at hz0; cases hz0
                  simp only [Out.sel, Option.some.injEq] at hs
                  subst hs
                  have he2 : e = e' := Nat.eq_of_beq_eq_true he
                  have hs2 : i.size = sz' := Nat.eq_of_beq_eq_true hsz'
                  have hk2 : k = k' := Nat.eq_of_beq_eq_true hk'
                  subst he2; subst hs2; subst hk2
                  have hmem := find_mem hsb
                  obtain ⟨b2, hb2, hreads, hB, h0, arr, e2, hheap, hrw⟩ := h.own.ent j sb hmem
                  rw [hbj] at hb2; cases hb2
                  rw [hrow] at hrw
                  simp only at hrw
                  obtain ⟨rfl, hasz, hkc, hcm, hlen⟩ := hrw
                  obtain ⟨w', g', cap', cur', hr, hh, hnc', hcm', hsz2, htake, hg', hgr⟩ := append_gs (P := P) (ty := o.type) ht hi hz hzs' hpos' hheap hkc hcm hasz (c := c) hnl hnc hn1 (ble_room hb).1 (ble_room hb).2
                  unfold Oper.wp
                  rw [hexec _ _ (by rw [hsv', hxv]; exact hr)]
                  have hcell : ∀ i v, w.cell? ⟨b.blk, b.off + i, none⟩ = some v → arr[i]? = some v := by
                    intro i v hv
                    simpa [World.cell?, hheap, h0] using hv
                  have harr : SV.reps E β sb.cs (arr.toList.take (k * i.size)) := reps_iff.2 ⟨by
                      rw [List.length_take, Array.length_toList, hasz, hlen]
                      exact Nat.min_eq_left (Nat.mul_le_mul_right _ hkc), fun q s hq => by
                    obtain ⟨v, hv, _, hrep⟩ := hreads.2 q s hq
                    have hq' := (List.getElem?_eq_some_iff.1 hq).1
                    exact ⟨v, by rw [List.getElem?_take, if_pos (by omega), Array.getElem?_toList]; exact hcell _ _ hv, hrep⟩⟩
                  have hone : ∀ v ∈ arr.toList.take (k * i.size), v.oneCell' = true := by
                    intro v hv
                    obtain ⟨q, hq, rfl⟩ := List.getElem_of_mem hv
                    have hq3 : q < arr.toList.length := Nat.lt_of_lt_of_le hq (List.length_take_le' _ _)
                    have hq2 : q < sb.cs.length := by simp at hq; omega
                    obtain ⟨v', hv', h1', _⟩ := hreads.2 q _ (List.getElem?_eq_getElem hq2)
                    have := hcell _ _ hv'
                    rw [← Array.getElem?_toList] at this
                    have e2 : (arr.toList.take (k * i.size))[q] = v' := by
                      rw [List.getElem_take]
                      rw [List.getElem?_eq_getElem hq3] at this
                      exact Option.some.inj this
                    rw [e2]; exact h1'
                  have hlen2 : (arr.toList.take (k * i.size) ++ news).length = (k + n) * i.size := by
                    rw [List.length_append, hnl, reps_length harr, hlen, Nat.add_mul]
                  refine hK _ _ _ (ext_upd h.fresh hlt' ⟨g', 0, cap', []⟩) (h.grown (row := some b.blk) hgr (fun q hq => by cases hq; exact hB) hlt' (reps_append harr hnr) (fun u hu => by
                    rcases List.mem_append.1 hu with hu | hu
                    · exact hone u hu
                    · exact hn1 u hu) hh hnc' hcm' hsz2 (by rw [hlen2]; exact htake) hlen2 ?_ hz0' (fun _ hx => (dropB_mem hx).2) (fun q sb2 b2 hq hb2 => ?_) _)
                  · rcases hg' with rfl | rfl
                    · exact hB
                    · exact h.below.size
                  · obtain ⟨hqj, hq'⟩ := dropB_mem hq
                    have hap := h.own.apart q sb2 j sb b2 b hq' hmem hqj hb2 hbj
                    obtain ⟨b3, hb3, hr3, _⟩ := h.own.ent q sb2 hq'
                    rw [hb2] at hb3; cases hb3
                    refine ⟨fun e => hap (Option.some.inj e), ?_⟩
                    rcases hg' with rfl | rfl
                    · exact hap
                    · have := hr3.1; omega
                · cases hs
              · cases hs
            · cases hs
          · rename_i j ks k c0 hse
            rw [hse] at hsv
            simp only [SV.rep] at hsv
            obtain ⟨b, l, hbj, hsv', hlc, hcml, hln, hval, hrows⟩ := hsv
            split at hs
            · rename_i sb hsb
              split at hs
              · rename_i e' sz' u hrow hcu
                split at hs
                · rename_i he hsz' hn1' hroom hks
                  simp only [Out.sel, Option.some.injEq] at hs
                  subst hs
                  have he2 : e = e' := Nat.eq_of_beq_eq_true he
                  have hs2 : i.size = sz' := Nat.eq_of_beq_eq_true hsz'
                  have hn1'' : n = 1 := Nat.eq_of_beq_eq_true hn1'
                  subst he2; subst hs2; subst hn1''
                  have hmem := find_mem hsb
                  obtain ⟨b2, hb2, hreads, hB, h0, arr, e2, hheap, hrw⟩ := h.own.ent j sb hmem
                  rw [hbj] at hb2; cases hb2
                  have hks' : i.size = ks.length := Nat.eq_of_beq_eq_true hks
                  rw [h0] at hsv'
                  rw [hrow] at hrw
                  simp only at hrw
                  obtain ⟨rfl, hasz, _, hcm, _⟩ := hrw
                  obtain ⟨r1, r2, r3⟩ := roomT_ok h.pc hroom hln
                  obtain ⟨w', g', cap', cur', hr, hh, hnc', hcm', hsz2, htake, hg', hgr⟩ := append_gs (P := P) (ty := o.type) ht hi hz (by assumption) hpos' hheap hlc hcm hasz (c := c) hnl hnc hn1 r1 r2
                  unfold Oper.wp
                  rw [hexec _ _ (by rw [hsv', hxv]; exact hr)]
                  have hat : upd β σ.nxt ⟨g', 0, cap', ((Tm.op .snoc c0 u).den E).list⟩ σ.nxt = some ⟨g', 0, cap', ((Tm.op .snoc c0 u).den E).list⟩ := by simp [upd]
                  obtain ⟨q1, q2, q3⟩ := open_grown (w := w) (n := k) (t := c0) (hreads.gen.imp id fun x => x.2) h0 hheap hrows hks' hpos' hcu hnr hn1 hnl hh hsz2 hcm' hnc' htake (by rw [hasz]; exact Nat.mul_le_mul_right _ hlc) hval hln r3 hat
                  refine hK _ _ _ (ext_upd h.fresh hlt' _) (h.grownB (row := some b.blk) hgr (fun q hq => by cases hq; exact hB) hlt' (by
                    rcases hg' with rfl | rfl
                    · exact hB
                    · exact h.below.size) q1 q2 q3 (fun _ hx => (dropB_mem hx).2) (fun q sb2 b2 hq hb2 => ?_) _)
                  obtain ⟨hqj, hq'⟩ := dropB_mem hq
                  have hap := h.own.apart q sb2 j sb b2 b hq' hmem hqj hb2 hbj
                  obtain ⟨b3, hb3, hr3, _⟩ := h.own.ent q sb2 hq'
                  rw [hb2] at hb3; cases hb3
                  refine ⟨fun e => hap (Option.some.inj e), ?_⟩
                  rcases hg' with rfl | rfl
                  · exact hap
                  · have := hr3.1; show b2.blk ≠ w.heap.size; omega
                · cases hs
              · cases hs
            · cases hs
          · cases hs
        · cases hs
      · cases hs
    · cases hs
  · cases hs

theorem isApp_eq {op : Op} {s x : Operand} {t : TypeId} (h : isApp op = some (s, x, t)) : op = .call { callee := .builtin .append, args := #[s, x], argTypes := #[t, t] } := by
  unfold isApp at h
  split at h
  · rename_i c
    split at h
    · rename_i s' x' t' u hc ha ht
      split at h
      · rename_i htu
        simp only [Option.some.injEq, Prod.mk.injEq] at h
        obtain ⟨rfl, rfl, rfl⟩ := h
        have htu' : t' = u := Nat.eq_of_beq_eq_true htu
        subst htu'
        obtain ⟨callee, args, argTypes⟩ := c
        simp only at hc ha ht
        subst hc
        have ha' : args = #[s', x'] := by rw [← Array.toArray_toList (xs := args), ha]
        have ht' : argTypes = #[t', t'] := by rw [← Array.toArray_toList (xs := argTypes), ht]
        subst ha'; subst ht'
        rfl
      · cases h
    · cases h
  · cases h
theorem uns_reps : ∀ (vs : List Value), SV.reps E β (List.replicate vs.length .un) vs
  | [] => by simp
  | v :: vs => by simp only [List.length_cons, List.replicate_succ, reps_cons]; exact ⟨by simp [SV.rep], uns_reps vs⟩
theorem append_zero {t ty e : TypeId} {i : TypeInfo} {z : Value} (ht : P.underlying t = some (.slice e)) (hi : P.info? e = some i) (hz : i.zero = some z)
    {ad : Addr} {n c : Nat} {news : List Value} (hl : news.length = n * i.size) (hnews : ∀ j u, news[j]? = some u → w.cell? (ad.add j) = some u) (hb : n * i.bytes ≤ 140737488355328) (h63 : n ≤ maxLen) (h0 : n ≠ 0) (b : Addr) :
    (Builtin.append_ #[t, t] ty #[.slice (some b) 0 0, .slice (some ad) n c]).run P w = (Builtin.append_ #[t, t] ty #[.slice none 0 0, .slice (some ad) n c]).run P w := by
  have hs : (n : Int) ≤ 9223372036854775807 := by simp only [maxLen] at h63; omega
  rw [run_append_nil (P := P) w t ty e i z ht hi hz ad n c news hl hnews (by omega) hs (by omega),
    run_append_grow (P := P) w t ty e i z ht hi hz b 0 0 [] (by simp) (by simp) ad n c news hl hnews (by omega) (by simpa using hs) (growslice_fits (by omega) (by simpa using hb))]
  simp
theorem noRoom_rep {mem : Mem} {s : SV} {v : Value} (h : noRoom mem s = true) (hm : Reads E β mem w) (hv : SV.rep E β s v) : v = .slice none 0 0 ∨ ∃ b, v = .slice (some b) 0 0 := by
  unfold noRoom at h
  split at h
  · exact .inl (by simpa only [SV.rep] using hv)
  · rename_i j
    split at h
    · rename_i sb hsb
      split at h
      · rename_i e s hrow
        obtain ⟨b, hb, hr⟩ := hm j sb (find_mem hsb)
        simp only [SV.rep] at hv
        obtain ⟨b', hb', _, rfl, hog⟩ := hv
        rw [hb] at hb'; cases hb'
        exact .inr ⟨_, by rw [hr.zc _ _ hrow hog]⟩
      · cases h
    · cases h
  · cases h
theorem appE_wp {o : Oper} {m : Mm} {pc : PC} {ev : Operand → SV} {r : Res} {s x : Operand} {t : TypeId} (hev : ∀ x, SV.rep E β (ev x) (a.eval x)) (ho : isApp o.op = some (s, x, t)) (hno : noRoom m.mem (ev s) = true)
    (hreads : Reads E β m.mem w) (hf : Fresh β m.nxt m.lim) (hp : PcOk E pc) (h : (appE P m pc t (ev x)).sel E = some r) :
    PcOk E r.pc ∧ r.nxt ≤ m.lim ∧ ∀ (K : Act → World → Prop) (Q : Exit → Act → World → Prop), (∀ v w' β', SV.rep E β' r.v v → Step E β β' w w' m.nxt r.nxt r.nb → K (a.put o.dst v) w') → o.wp P a w K Q := by
  have hop := isApp_eq ho
  unfold appE at h
  split at h
  · rename_i e ht
    split at h
    · rename_i i hi
      split at h
      · rename_i z hz
        split at h
        · rename_i n cs hzs hpos hcells hlt
          have hzs' : z.cells.size = i.size := Nat.eq_of_beq_eq_true hzs
          have hpos' : 0 < i.size := by simpa [Nat.blt_eq] using hpos
          have hlt' : m.nxt < m.lim := by simpa [Nat.blt_eq] using hlt
          obtain ⟨ad, c, news, hxv, hnl, hnr, hn1, hnc⟩ := sliceCells_run P hcells hreads (hev x)
          split at h
          · rename_i hb hn0
            have hn0' : n ≠ 0 := fun e => by rw [e] at hn0; cases hn0
            simp only [Out.sel, Option.some.injEq] at h
            subst h
            refine ⟨hp, hlt', fun K Q hK => ?_⟩
            obtain ⟨w', hgr, hc⟩ := append_nil (P := P) (ty := o.type) ht hi hz hzs' hpos' (c := c) hnl hnc hn1 (ble_room hb).1 (ble_room hb).2
            rcases hc with ⟨h0, _⟩ | ⟨g', cap', cur', hr, _, hh, hnc', hcm, hsz, htake, hge⟩
            · exact absurd h0 hn0'
            · have hrun : (Builtin.append_ #[t, t] o.type #[a.eval s, a.eval x]).run P w = .ok (.slice (some ⟨g', 0, none⟩) n cap') w' := by
                rcases noRoom_rep hno hreads (hev s) with hs | ⟨b, hs⟩
                · rw [hs, hxv]; exact hr
                · rw [hs, hxv, append_zero (P := P) (ty := o.type) ht hi hz hnl hnc (ble_room hb).1 (ble_room hb).2 hn0' b]; exact hr
              have hexec : (execOp a.eval o).run P w = .ok (.value (.slice (some ⟨g', 0, none⟩) n cap')) w' := by
                simp only [execOp, hop, resolve, invoke, builtin, Sem.run_bind, Sem.run_pure, Result.andThen_ok, List.map_toArray, List.map_cons, List.map_nil, hrun]
              unfold Oper.wp
              rw [hexec]
              have hle := upd_le hf hlt' ⟨g', 0, cap', []⟩
              have hB : Below w.heap.size w w' := ⟨hgr.os, hgr.tape, hgr.output, hgr.size, fun k hk => hgr.block k hk (by simp)⟩
              refine hK _ w' (upd β m.nxt ⟨g', 0, cap', []⟩) (by simp only [SV.rep]; exact ⟨⟨g', 0, cap', []⟩, by simp [upd], rfl, rfl, rfl⟩)
                ⟨hB, hle, fun j hj => ?_, Nat.le_succ _, ⟨fun j sb hj => ?_, fun j sb j' sb' b b' hj hj' hne => ?_⟩⟩
              · have hj2 : j < m.nxt ∨ m.nxt + 1 ≤ j := hj
                unfold upd; rw [if_neg (by omega)]
              · simp only [List.mem_singleton] at hj
                cases hj
                have hrr := row_cells (cap := cap') (SV.reps_mono hle _ _ hnr) hn1 hh (by rw [hnl]; exact htake)
                exact ⟨⟨g', 0, cap', []⟩, by simp [upd], ⟨hrr.1, hrr.2, .inl rfl, fun _ _ h => by cases h; exact absurd rfl hn0'⟩, hge, rfl, cur', e, hh, rfl, hsz, hnc', hcm, by have := reps_length hnr; show cs.length = _; omega⟩
              · simp only [List.mem_singleton] at hj hj'
                cases hj; cases hj'
                exact absurd rfl hne
          · cases h
        · cases h
      · cases h
    · cases h
  · cases h
/-- An append where the order is open. -/
theorem appD_ok {o : Oper} {own mem : Mem} {m : Mm} {pc : PC} {ev : Operand → SV} {r : Res × Option Nat} {s x : Operand} {t : TypeId} (hev : ∀ x, SV.rep E β (ev x) (a.eval x)) (ho : isApp o.op = some (s, x, t)) (hdf : a.defers = [])
    (hreads : Reads E β m.mem w) (hown : Owns E β w0.heap.size mem w) (hbel : Below w0.heap.size w0 w) (hf : Fresh β m.nxt m.lim) (hp : PcOk E pc) (h : (appD P own m pc t (ev s) (ev x)).sel E = some r) :
    ∃ j sb, r.2 = some j ∧ find own j = some sb ∧ r.1.pc = pc ∧ r.1.nxt = m.nxt + 1 ∧ m.nxt < m.lim ∧ ((j, sb) ∈ mem → ∀ (K : Act → World → Prop) (Q : Exit → Act → World → Prop),
      (∀ v w' β', SV.rep E β' r.1.v v → Pl.le β β' → (∀ i, i < m.nxt ∨ m.nxt + 1 ≤ i → β' i = β i) → Owns E β' w0.heap.size (r.1.nb ++ dropB mem j) w' → Below w0.heap.size w0 w' → K (a.put o.dst v) w') → o.wp P a w K Q) := by
  have hop := isApp_eq ho
  unfold appD at h
  split at h
  · rename_i e ht
    split at h
    · rename_i i hi
      split at h
      · rename_i z hz
        split at h
        · rename_i n cs hzs hpos hcells hlt
          have hzs' : z.cells.size = i.size := Nat.eq_of_beq_eq_true hzs
          have hpos' : 0 < i.size := by simpa [Nat.blt_eq] using hpos
          have hlt' : m.nxt < m.lim := by simpa [Nat.blt_eq] using hlt
          obtain ⟨ad, c, news, hxv, hnl, hnr, hn1, hnc⟩ := sliceCells_run P hcells hreads (hev x)
          have hsv := hev s
          have hexec : ∀ v w', (Builtin.append_ #[t, t] o.type #[a.eval s, a.eval x]).run P w = .ok v w' → (execOp a.eval o).run P w = .ok (.value v) w' := by
            intro v w' hr
            simp only [execOp, hop, resolve, invoke, builtin, Sem.run_bind, Sem.run_pure, Result.andThen_ok, List.map_toArray, List.map_cons, List.map_nil, hr]
          split at h
          · rename_i j k hse
            rw [hse] at hsv
            simp only [SV.rep] at hsv
            obtain ⟨b, hbj, hb0, hsv', _⟩ := hsv
            split at h
            · rename_i sb hsb
              split at h
              · rename_i e' sz' k' hrow
                split at h
                · rename_i he hsz' hk' hb hz0
                  have hz0' : k + n ≠ 0 := fun e => by rw [e] at hz0; cases hz0
                  simp only [Out.sel, Option.some.injEq] at h
                  subst h
                  refine ⟨j, sb, rfl, hsb, rfl, rfl, hlt', fun hmem K Q hK => ?_⟩
                  have he2 : e = e' := Nat.eq_of_beq_eq_true he
                  have hs2 : i.size = sz' := Nat.eq_of_beq_eq_true hsz'
                  have hk2 : k = k' := Nat.eq_of_beq_eq_true hk'
                  subst he2; subst hs2; subst hk2
                  obtain ⟨b2, hb2, hreads2, hB, h0, arr, e2, hheap, hrw⟩ := hown.ent j sb hmem
                  rw [hbj] at hb2; cases hb2
                  rw [hrow] at hrw
                  simp only at hrw
                  obtain ⟨rfl, hasz, hkc, hcm, hlen⟩ := hrw
                  obtain ⟨w', g', cap', cur', hr, hh, hnc', hcm', hsz2, htake, hg', hgr⟩ := append_gs (P := P) (ty := o.type) ht hi hz hzs' hpos' hheap hkc hcm hasz (c := c) hnl hnc hn1 (ble_room hb).1 (ble_room hb).2
                  unfold Oper.wp
                  rw [hexec _ _ (by rw [hsv', hxv]; exact hr)]
                  have hcell : ∀ i v, w.cell? ⟨b.blk, b.off + i, none⟩ = some v → arr[i]? = some v := by
                    intro i v hv
                    simpa [World.cell?, hheap, h0] using hv
                  have harr : SV.reps E β sb.cs (arr.toList.take (k * i.size)) := reps_iff.2 ⟨by
                      rw [List.length_take, Array.length_toList, hasz, hlen]
                      exact Nat.min_eq_left (Nat.mul_le_mul_right _ hkc), fun q s hq => by
                    obtain ⟨v, hv, _, hrep⟩ := hreads2.2 q s hq
                    have hq' := (List.getElem?_eq_some_iff.1 hq).1
                    exact ⟨v, by rw [List.getElem?_take, if_pos (by omega), Array.getElem?_toList]; exact hcell _ _ hv, hrep⟩⟩
                  have hone : ∀ v ∈ arr.toList.take (k * i.size), v.oneCell' = true := by
                    intro v hv
                    obtain ⟨q, hq, rfl⟩ := List.getElem_of_mem hv
                    have hq3 : q < arr.toList.length := Nat.lt_of_lt_of_le hq (List.length_take_le' _ _)
                    have hq2 : q < sb.cs.length := by simp at hq; omega
                    obtain ⟨v', hv', h1', _⟩ := hreads2.2 q _ (List.getElem?_eq_getElem hq2)
                    have := hcell _ _ hv'
                    rw [← Array.getElem?_toList] at this
                    have e2 : (arr.toList.take (k * i.size))[q] = v' := by
                      rw [List.getElem_take]
                      rw [List.getElem?_eq_getElem hq3] at this
                      exact Option.some.inj this
                    rw [e2]; exact h1'
                  have hlen2 : (arr.toList.take (k * i.size) ++ news).length = (k + n) * i.size := by
                    rw [List.length_append, hnl, reps_length harr, hlen, Nat.add_mul]
                  have hfake : RepS E β w0 ⟨List.replicate a.tmps.toList.length .un, mem, [], 0, m.nxt, m.lim, 0, [], false, []⟩ a w :=
                    { tm := uns_reps _, df := hdf, own := hown, fresh := hf, le := Nat.le_of_lt hlt', below := hbel, ro := fun _ _ h => (by cases h), pc := fun _ h => (by cases h) }
                  have hgrown := hfake.grown (row := some b.blk) (own := dropB mem j) hgr (fun q hq => by cases hq; exact hB) hlt' (reps_append harr hnr) (fun u hu => by
                    rcases List.mem_append.1 hu with hu | hu
                    · exact hone u hu
                    · exact hn1 u hu) hh hnc' hcm' hsz2 (by rw [hlen2]; exact htake) hlen2 (by
                      rcases hg' with rfl | rfl
                      · exact hB
                      · exact hbel.size) hz0' (fun _ hx => (dropB_mem hx).2) (fun q sb2 b2 hq hb2 => by
                      obtain ⟨hqj, hq'⟩ := dropB_mem hq
                      have hap := hown.apart q sb2 j sb b2 b hq' hmem hqj hb2 hbj
                      obtain ⟨b3, hb3, hr3, _⟩ := hown.ent q sb2 hq'
                      rw [hb2] at hb3; cases hb3
                      refine ⟨fun e => hap (Option.some.inj e), ?_⟩
                      rcases hg' with rfl | rfl
                      · exact hap
                      · have := hr3.1; omega) none
                  refine hK _ w' (upd β m.nxt ⟨g', 0, cap', []⟩) (by simp only [SV.rep]; exact ⟨⟨g', 0, cap', []⟩, by simp [upd], rfl, rfl, rfl⟩) (upd_le hf hlt' _) (fun q hq => ?_) hgrown.own hgrown.below
                  simp only [upd]
                  rw [if_neg (by omega)]
                · cases h
              · cases h
            · cases h
          · rename_i j ks k c0 hse
            rw [hse] at hsv
            simp only [SV.rep] at hsv
            obtain ⟨b, l, hbj, hsv', hlc, hcml, hln, hval, hrows⟩ := hsv
            split at h
            · rename_i sb hsb
              split at h
              · rename_i e' sz' u hrow hcu
                split at h
                · rename_i he hsz' hn1' hroom hks
                  simp only [Out.sel, Option.some.injEq] at h
                  subst h
                  refine ⟨j, sb, rfl, hsb, rfl, rfl, hlt', fun hmem K Q hK => ?_⟩
                  have he2 : e = e' := Nat.eq_of_beq_eq_true he
                  have hs2 : i.size = sz' := Nat.eq_of_beq_eq_true hsz'
                  have hn1'' : n = 1 := Nat.eq_of_beq_eq_true hn1'
                  subst he2; subst hs2; subst hn1''
                  obtain ⟨b2, hb2, hreads2, hB, h0, arr, e2, hheap, hrw⟩ := hown.ent j sb hmem
                  rw [hbj] at hb2; cases hb2
                  have hks' : i.size = ks.length := Nat.eq_of_beq_eq_true hks
                  rw [h0] at hsv'
                  rw [hrow] at hrw
                  simp only at hrw
                  obtain ⟨rfl, hasz, _, hcm, _⟩ := hrw
                  obtain ⟨r1, r2, r3⟩ := roomT_ok hp hroom hln
                  obtain ⟨w', g', cap', cur', hr, hh, hnc', hcm', hsz2, htake, hg', hgr⟩ := append_gs (P := P) (ty := o.type) ht hi hz (by assumption) hpos' hheap hlc hcm hasz (c := c) hnl hnc hn1 r1 r2
                  unfold Oper.wp
                  rw [hexec _ _ (by rw [hsv', hxv]; exact hr)]
                  have hat : upd β m.nxt ⟨g', 0, cap', ((Tm.op .snoc c0 u).den E).list⟩ m.nxt = some ⟨g', 0, cap', ((Tm.op .snoc c0 u).den E).list⟩ := by simp [upd]
                  obtain ⟨q1, q2, q3⟩ := open_grown (w := w) (n := k) (t := c0) (hreads2.gen.imp id fun x => x.2) h0 hheap hrows hks' hpos' hcu hnr hn1 hnl hh hsz2 hcm' hnc' htake (by rw [hasz]; exact Nat.mul_le_mul_right _ hlc) hval hln r3 hat
                  have hfake : RepS E β w0 ⟨List.replicate a.tmps.toList.length .un, mem, [], 0, m.nxt, m.lim, 0, [], false, []⟩ a w :=
                    { tm := uns_reps _, df := hdf, own := hown, fresh := hf, le := Nat.le_of_lt hlt', below := hbel, ro := fun _ _ h => (by cases h), pc := fun _ h => (by cases h) }
                  have hgrown := hfake.grownB (row := some b.blk) (own := dropB mem j) hgr (fun q hq => by cases hq; exact hB) hlt' (by
                    rcases hg' with rfl | rfl
                    · exact hB
                    · exact hbel.size) q1 q2 q3 (fun _ hx => (dropB_mem hx).2) (fun q sb2 b2 hq hb2 => by
                      obtain ⟨hqj, hq'⟩ := dropB_mem hq
                      have hap := hown.apart q sb2 j sb b2 b hq' hmem hqj hb2 hbj
                      obtain ⟨b3, hb3, hr3, _⟩ := hown.ent q sb2 hq'
                      rw [hb2] at hb3; cases hb3
                      refine ⟨fun e => hap (Option.some.inj e), ?_⟩
                      rcases hg' with rfl | rfl
                      · exact hap
                      · have := hr3.1; show b2.blk ≠ w.heap.size; omega) none
                  refine hK _ w' _ q3 (upd_le hf hlt' _) (fun q hq => ?_) hgrown.own hgrown.below
                  simp only [upd]
                  rw [if_neg (by omega)]
                · cases h
              · cases h
            · cases h
          · cases h
        · cases h
      · cases h
    · cases h
  · cases h
end
end Go.Sx
set_option linter.unusedVariables false
set_option linter.unusedSimpArgs false
noncomputable section
namespace Go.Sx
open Go Go.RowKit

section
variable {P : Program} {E : Env} {β : Pl} {w0 w : World} {H : Hnd} {σ σ' : St} {a : Act}

theorem stepO_wp (hH : HndOk P E H) (hN : Named P) {o : Oper} (h : RepS E β w0 σ a w) (hs : (stepO H P σ o).sel E = some σ') (K : Act → World → Prop) (Q : Exit → Act → World → Prop)
    (hK : ∀ β' a' w', Ext β β' σ.nxt σ'.nxt → RepS E β' w0 σ' a' w' → K a' w') : o.wp P a w K Q := by
  unfold stepO at hs
  split at hs
  · rename_i r he
    unfold eff at he
    simp only [effCall] at he
    split at he
    · rename_i t x y ho
      cases he
      exact storeS_wp ho h hs K Q (fun a' w' he hr => hK β a' w' he hr)
    · rename_i c ho
      split at he
      · rename_i s x t u hc ha ht
        split at he
        · rename_i htu
          cases he
          have htu' : t = u := Nat.eq_of_beq_eq_true htu
          subst htu'
          obtain ⟨callee, args, argTypes⟩ := c
          simp only at hc ha ht
          subst hc
          have ha' : args = #[s, x] := by rw [← Array.toArray_toList (xs := args), ha]
          have ht' : argTypes = #[t, t] := by rw [← Array.toArray_toList (xs := argTypes), ht]
          subst ha'; subst ht'
          exact appendS_wp ho h hs K Q hK
        · cases he; cases hs
      · rename_i g hc
        split at he
        · cases he
          obtain ⟨callee, args, argTypes⟩ := c
          simp only at hc
          subst hc
          obtain ⟨r, hr, hs⟩ := Out.sel_bind_some hs
          simp only [Out.sel, Option.some.injEq] at hs
          subst hs
          obtain ⟨hp1, hfx⟩ := hH.fr _ _ _ _ hr h.pc
          obtain ⟨⟨fn, hfn, hbody⟩, hcalls⟩ := hfx β w0 w a (args.toList.map a.eval) (reps_map (fun x => evalO_rep h.tm x) _) h
          have hrun : (execOp a.eval o).run P w = .ok (.enter g (args.toList.map a.eval).toArray) w := by
            have hb : fn.body.isNone = false := by cases hbd : fn.body <;> simp_all
            simp only [execOp, ho, resolve, Act.eval, Deferred.ofValue, Sem.run_bind, Sem.run_pure, Result.andThen_ok, invoke, callFunc, run_program, hfn, hN g fn hfn, hb]
            simp only [Bool.false_eq_true, if_false, Sem.run_pure]
            congr 3
            first | rfl | (apply Array.ext'; simp)
          unfold Oper.wp
          rw [hrun]
          refine Calls.mono hcalls ?_
          rintro e w' ⟨v, β', rfl, hrep, hext, hown, hfr, hle, hbel, hsw⟩
          exact hK β' _ _ hext { tm := putT_rep (swapS_rep hext.mono hsw h.tm) hrep _, df := (put_defers a _ _).trans h.df, own := hown, fresh := hfr, le := hle, below := hbel, ro := h.ro.below hext.mono (Below.refl _ _), pc := hp1 }
        · cases he
      · cases he
    · cases he
  · obtain ⟨r, hr, hs⟩ := Out.sel_bind_some hs
    simp only [Out.sel, Option.some.injEq] at hs
    subst hs
    obtain ⟨h1, h2, h3⟩ := opP_wp (o := o) hH hN (fun x => evalO_rep h.tm x) h.reads h.fresh h.le h.pc hr
    refine h3 K Q fun v w' β' hv hst => ?_
    exact hK β' _ _ hst.ext (h.after o.dst hst h2 h1 hv)

/-- How a guard comes out, by the symbolic value of its slot. -/
def GuardIs (E : Env) (look : Nat → Option SV) (g : Option (Nat × Bool)) (b : Bool) : Prop :=
  match g with
  | none => b = true
  | some (j, want) => ∃ s, look j = some s ∧ ((∃ t, s = .sc .bool t ∧ b = ((t.den E).toB == want)) ∨ (s = .tup [] ∧ b = false))

theorem guarded_sel {α : Type} {pc : PC} {g : Option (Nat × Bool)} {look : Nat → Option SV} {run skip : PC → Out α} {x : α} (hp : PcOk E pc) (h : (guarded pc g look run skip).sel E = some x) :
    ∃ pc' b, PcOk E pc' ∧ GuardIs E look g b ∧ ((b = true ∧ (run pc').sel E = some x) ∨ (b = false ∧ (skip pc').sel E = some x)) := by
  unfold guarded at h
  split at h
  · exact ⟨pc, true, hp, rfl, .inl ⟨rfl, h⟩⟩
  · rename_i j want
    split at h
    · rename_i t hl
      split at h
      · obtain ⟨pc', hp', h⟩ := fork_sel hp h
        rcases h with ⟨ht, h⟩ | ⟨ht, h⟩
        · exact ⟨pc', true, hp', ⟨_, hl, .inl ⟨t, rfl, by simp [ht]⟩⟩, .inl ⟨rfl, h⟩⟩
        · exact ⟨pc', false, hp', ⟨_, hl, .inl ⟨t, rfl, by simp [ht]⟩⟩, .inr ⟨rfl, h⟩⟩
      · obtain ⟨pc', hp', h⟩ := fork_sel hp h
        rcases h with ⟨ht, h⟩ | ⟨ht, h⟩
        · exact ⟨pc', false, hp', ⟨_, hl, .inl ⟨t, rfl, by simp [ht]⟩⟩, .inr ⟨rfl, h⟩⟩
        · exact ⟨pc', true, hp', ⟨_, hl, .inl ⟨t, rfl, by simp [ht]⟩⟩, .inl ⟨rfl, h⟩⟩
    · rename_i hl
      exact ⟨pc, false, hp, ⟨_, hl, .inr ⟨rfl, rfl⟩⟩, .inr ⟨rfl, h⟩⟩
    · cases h

theorem guard_wanted {ops : Array Oper} {o : Oper} {look : Nat → Option SV} {b : Bool} (hg : GuardIs E look o.guard b)
    (hl : ∀ j s, look j = some s → s ≠ .un → ∃ d v, (ops[j]?).bind (·.dst) = some d ∧ a.tmps[d]? = some v ∧ SV.rep E β s v) : Region.wanted o (yielded ops a.tmps) = b := by
  unfold Region.wanted
  cases hgd : o.guard with
  | none => rw [hgd] at hg; exact hg.symm
  | some jw =>
    obtain ⟨j, want⟩ := jw
    rw [hgd] at hg
    obtain ⟨s, hls, hc⟩ := hg
    obtain ⟨d, v, h1, h2, h3⟩ := hl j s hls (by rcases hc with ⟨t, rfl, _⟩ | ⟨rfl, _⟩ <;> simp)
    simp only [yielded, h1, Option.bind_some, h2]
    rcases hc with ⟨t, rfl, rfl⟩ | ⟨rfl, rfl⟩
    · have := bool_rep h3
      subst this
      simp only
      cases (t.den E).toB <;> cases want <;> rfl
    · simp only [SV.rep] at h3
      obtain ⟨vs, rfl, _⟩ := h3
      rfl

theorem dstOf_get (ops : Array Oper) (j : Nat) : dstOf ops.toList j = (ops[j]?).bind (·.dst) := by
  unfold dstOf
  rw [nth?_get, Array.getElem?_toList]
  cases ops[j]? <;> rfl

theorem stepG_wp (hH : HndOk P E H) (hN : Named P) {ops : Array Oper} {i : Nat} {o : Oper} (hi : ops[i]? = some o) (h : RepS E β w0 σ a w) (hs : (stepG H P ops.toList σ o).sel E = some σ')
    (K : Act → World → Prop) (Q : Exit → Act → World → Prop) (hK : ∀ β' a' w', Ext β β' σ.nxt σ'.nxt → RepS E β' w0 σ' a' w' → K a' w') : wpOp P ops Q i K a w := by
  unfold stepG at hs
  obtain ⟨pc', b, hp', hg, hc⟩ := guarded_sel h.pc hs
  have hw := guard_wanted (a := a) (β := β) (ops := ops) hg (fun j s hj _ => by
    rw [dstOf_get] at hj
    cases hd : (ops[j]?).bind (·.dst) with
    | none => rw [hd] at hj; cases hj
    | some d =>
      rw [hd] at hj
      simp only at hj
      obtain ⟨v, hv, hr⟩ := reps_get h.tm hj
      rw [Array.getElem?_toList] at hv
      exact ⟨d, v, rfl, hv, hr⟩)
  unfold wpOp
  simp only [hi, hw]
  rcases hc with ⟨rfl, hs⟩ | ⟨rfl, hs⟩
  · simp only [if_true]
    exact .inl (stepO_wp hH hN (σ := { σ with pc := pc' }) { h with pc := hp' } hs K Q hK)
  · simp only [Bool.false_eq_true, if_false]
    simp only [Out.sel, Option.some.injEq] at hs
    subst hs
    exact hK β _ _ (Ext.refl _ _) { h with tm := putT_rep h.tm undef_rep _, df := (put_defers a _ _).trans h.df, pc := hp' }

theorem seqOps_wp (hH : HndOk P E H) (hN : Named P) {ops : Array Oper} {Q : Exit → Act → World → Prop} : ∀ (rest : List Oper) (i0 : Nat) {β : Pl} {σ : St} {a : Act} {w : World}, (∀ k, rest[k]? = ops[i0 + k]?) → RepS E β w0 σ a w →
    (seqOps H P ops.toList rest σ).sel E = some σ' → (∀ β' a' w', Ext β β' σ.nxt σ'.nxt → RepS E β' w0 σ' a' w' → Q .normal a' w') → wpOps P ops Q (List.range' i0 rest.length) a w
  | [], i0, β, σ, a, w, _, h, hs, hQ => by
    simp only [seqOps, Out.sel, Option.some.injEq] at hs
    subst hs
    exact hQ β a w (Ext.refl _ _) h
  | o :: rest, i0, β, σ, a, w, hr, h, hs, hQ => by
    simp only [seqOps, fList_eq] at hs
    obtain ⟨σ1, hs1, hs2⟩ := Out.sel_bind_some hs
    simp only [List.length_cons, List.range'_succ]
    rw [wpOps_cons]
    refine stepG_wp hH hN (i := i0) (by have := hr 0; simpa using this.symm) h hs1 _ Q fun β' a' w' hle hrep => ?_
    exact seqOps_wp hH hN rest (i0 + 1) (fun k => by have := hr (k + 1); simpa [Nat.add_assoc, Nat.add_comm 1 k] using this) hrep hs2 (fun β2 a2 w2 hle2 hrep2 => hQ β2 a2 w2 (Ext.trans hle hle2) hrep2)

end
end Go.Sx
