/- What the symbolic executor takes for known on a way is true on it. No condition. -/
import Derived.Test.YtfdpcmijifdfeaaGreatSxRunS
set_option linter.unusedVariables false
set_option linter.unusedSimpArgs false
noncomputable section
namespace Go.Sx
open Go Go.RowKit

section
variable {P : Program} {E : Env}

/-- All that is known at the end of the way taken is true. -/
def Pcs {α : Type} (E : Env) (f : α → PC) (o : Out α) : Prop := ∀ r, o.sel E = some r → PcOk E (f r)
theorem Pcs.bad {α : Type} {f : α → PC} {n : Nat} : Pcs E f (.bad n) := fun _ h => by cases h
theorem Pcs.ret {α : Type} {f : α → PC} {a : α} (h : PcOk E (f a)) : Pcs E f (.ret a) := fun r hr => by
  simp only [Out.sel, Option.some.injEq] at hr; subst hr; exact h
theorem Pcs.fork {α : Type} {f : α → PC} {pc : PC} {t : Tm} {x y : PC → Out α} (hp : PcOk E pc) (hx : ∀ pc, PcOk E pc → Pcs E f (x pc)) (hy : ∀ pc, PcOk E pc → Pcs E f (y pc)) : Pcs E f (fork pc t x y) := fun r h => by
  obtain ⟨pc', hp', h⟩ := fork_sel hp h
  rcases h with ⟨_, h⟩ | ⟨_, h⟩
  · exact hx pc' hp' r h
  · exact hy pc' hp' r h
theorem Pcs.bind {α γ : Type} {f : α → PC} {g : γ → PC} {o : Out α} {k : α → Out γ} (ho : Pcs E f o) (hk : ∀ a, PcOk E (f a) → Pcs E g (k a)) : Pcs E g (o.bind k) := fun r h => by
  obtain ⟨x, h1, h2⟩ := Out.sel_bind_some h
  exact hk x (ho x h1) r h2
theorem Pcs.val {m : Mm} {pc : PC} {v : SV} (hp : PcOk E pc) : Pcs E Res.pc (val m pc v) := .ret hp
theorem Pcs.newE {m : Mm} {pc : PC} {e s : Nat} {cs : List SV} (hp : PcOk E pc) : Pcs E Res.pc (newE m pc e s cs) := by
  unfold Sx.newE; split
  · exact .ret hp
  · exact .bad
theorem Pcs.newB {m : Mm} {pc : PC} {cs : List SV} {f : Nat → SV} (hp : PcOk E pc) : Pcs E Res.pc (newB m pc cs f) := by
  unfold Sx.newB; split
  · exact .bad
  · exact .ret hp
theorem Pcs.idx {α : Type} {g : α → PC} {n : Nat} {f : PC → Nat → Out α} {fuel : Nat} {pc : PC} {t : Tm} (hp : PcOk E pc) (hf : ∀ pc i, PcOk E pc → Pcs E g (f pc i)) : Pcs E g (idx n f fuel pc t) := fun r h => by
  obtain ⟨pc', i, hp', _, _, h⟩ := idx_sel fuel hp h
  exact hf pc' i hp' r h

theorem intBin_pc {m : Mm} {pc : PC} {op : BinOp} {k : IntKind} {a b : Tm} (hp : PcOk E pc) : Pcs E Res.pc (intBin m pc op k a b) := by
  unfold intBin
  split <;> first | exact .val hp | exact .bad | exact .fork hp (fun _ _ => .bad) (fun _ h => .val h)
theorem shiftBin_pc {m : Mm} {pc : PC} {op : BinOp} {k : IntKind} {a b : Tm} (hp : PcOk E pc) : Pcs E Res.pc (shiftBin m pc op k a b) := by
  unfold shiftBin
  refine .fork hp (fun _ _ => .bad) (fun _ h => ?_)
  split <;> first | exact .val h | exact .bad
theorem floatBin_pc {m : Mm} {pc : PC} {op : BinOp} {k : FloatKind} {a b : Tm} (hp : PcOk E pc) : Pcs E Res.pc (floatBin m pc op k a b) := by
  unfold floatBin
  split <;> first | exact .val hp | exact .bad
theorem strBin_pc {m : Mm} {pc : PC} {op : BinOp} {a b : Tm} (hp : PcOk E pc) : Pcs E Res.pc (strBin m pc op a b) := by
  unfold strBin
  split <;> first | exact .val hp | exact .bad | exact .fork hp (fun _ h => .val h) (fun _ _ => .bad)
theorem binS_pc {m : Mm} {pc : PC} {op : BinOp} {t : TypeId} {x y : SV} (hp : PcOk E pc) : Pcs E Res.pc (binS P m pc op t x y) := by
  unfold binS
  split
  · split
    · exact shiftBin_pc hp
    · exact shiftBin_pc hp
    · split
      · exact intBin_pc hp
      · exact .bad
  · split
    · exact floatBin_pc hp
    · exact .bad
  · exact strBin_pc hp
  · split
    · split <;> first | exact .val hp | exact .bad
    · exact .bad
  · split
    · exact .bad
    · split <;> first | exact .val hp | exact .bad
  · unfold nilEqS
    split
    · split <;> first | exact .val hp | exact .bad
    · exact .bad
  · exact .bad
theorem unS_pc {m : Mm} {pc : PC} {op : UnOp} {x : SV} (hp : PcOk E pc) : Pcs E Res.pc (unS m pc op x) := by
  unfold unS
  split <;> first | exact .val hp | exact .bad
theorem bytesS_pc {m : Mm} {pc : PC} {s d : TypeId} {j o n : Nat} (hp : PcOk E pc) : Pcs E Res.pc (bytesS P m pc s d j o n) := by
  unfold bytesS
  repeat' split
  all_goals first | exact .val hp | exact .bad
theorem convS_pc {m : Mm} {pc : PC} {s d : TypeId} {x : SV} (hp : PcOk E pc) : Pcs E Res.pc (convS P m pc s d x) := by
  unfold convS
  split
  · exact .val hp
  · exact .val hp
  · exact .fork hp (fun _ h => .val h) (fun _ _ => .bad)
  · split
    · exact .val hp
    · split
      · exact .val hp
      · exact .fork hp (fun _ h => .val h) (fun _ _ => .bad)
  · exact .val hp
  · exact .bad
theorem sliceS_pc {m : Mm} {pc : PC} {t : TypeId} {x : SV} {lo hi : Option Nat} (hp : PcOk E pc) : Pcs E Res.pc (sliceS P m pc t x lo hi) := by
  unfold sliceS
  split
  · split <;> first | exact .val hp | exact .bad
  · split <;> first | exact .val hp | exact .bad
  · exact .bad

theorem rowAddr_pc {m : Mm} {pc : PC} {e : TypeId} {j : Nat} {ks : List SK} {n t i : Tm} (hp : PcOk E pc) : Pcs E Res.pc (rowAddr P m pc e j ks n t i) := by
  unfold rowAddr
  repeat' split
  all_goals first | exact .val hp | exact .bad
theorem opx_pc {m : Mm} {pc : PC} {ev : Operand → SV} {o : Op} (hp : PcOk E pc) : Pcs E Res.pc (opx P m pc ev o) := by
  unfold opx oPick oAlloc oBox oBuild oBuildSlice oMakeSlice oLoad oNil oConv oSlice oFieldAddr oField oIndexAddr oIndex oExtract oCall
  split
  · exact .val hp
  · exact .val hp
  · split
    · split
      · exact .val hp
      · exact .val hp
      · split
        · exact .val hp
        · intro r h
          simp only [Out.sel] at h
          split at h
          · rename_i ht; exact Pcs.val (addF_ok _ hp ht) r h
          · rename_i ht; exact Pcs.val (addF_ok _ hp (by simpa using ht)) r h
    · exact .bad
  · repeat' split
    all_goals first | exact .newB hp | exact .newE hp | exact .bad
  · repeat' split
    all_goals first | exact .newB hp | exact .newE hp | exact .bad
  · repeat' split
    all_goals first | exact .val hp | exact .bad
  · repeat' split
    all_goals first | exact .newB hp | exact .newE hp | exact .bad
  · repeat' split
    all_goals first | exact .newB hp | exact .newE hp | exact .bad
  · repeat' split
    all_goals first | exact .val hp | exact .bad
  · repeat' split
    all_goals first | exact .val hp | exact .bad
  · exact binS_pc hp
  · exact unS_pc hp
  · split
    · exact bytesS_pc hp
    · exact convS_pc hp
  · exact .val hp
  · repeat' split
    all_goals first | exact sliceS_pc hp | exact .bad
  · repeat' split
    all_goals first | exact .val hp | exact .bad
  · repeat' split
    all_goals first | exact .val hp | exact .bad
  · repeat' split
    all_goals first | exact rowAddr_pc hp | exact .idx hp (fun _ _ h => .val h) | exact .bad
  · split
    · split
      · refine .idx hp (fun _ _ h => ?_)
        split <;> first | exact .val h | exact .bad
      · exact .bad
    · exact .fork hp (fun _ h => .fork h (fun _ h => .val h) (fun _ _ => .bad)) (fun _ _ => .bad)
    · exact .bad
  · repeat' split
    all_goals first | exact .val hp | exact .bad
  · repeat' split
    all_goals first | exact .val hp | exact .bad
  · exact .bad

structure HndPc (E : Env) (H : Hnd) : Prop where
  h : ∀ f args m pc, PcOk E pc → Pcs E Res.pc (H.h f args m pc)
  fr : ∀ f args σ, PcOk E σ.pc → Pcs E (fun r => r.2.pc) (H.fr f args σ)
structure CtxPc (E : Env) (ctx : Ctx) : Prop where
  sum : ∀ f S, ctx.sum f = some S → ∀ args m pc, PcOk E pc → Pcs E Res.pc (S args m pc)
  cc : ∀ c L, ctx.cc c = some L → ∀ σ, PcOk E σ.pc → Pcs E (fun x => x.2.pc) (L σ)
  fxs : ∀ f args σ o, ctx.fxs f args σ = some o → PcOk E σ.pc → Pcs E (fun r => r.2.pc) o

variable {H : Hnd}
theorem extS_pc {k : Nat} {as : List SV} {m : Mm} {pc : PC} (hp : PcOk E pc) : Pcs E Res.pc (extS k as m pc) := by
  unfold extS
  repeat' split
  all_goals first | exact .fork hp (fun _ _ => .bad) (fun _ h => .val h) | exact .val hp | exact .bad
theorem opP_pc (hH : HndPc E H) {m : Mm} {pc : PC} {ev : Operand → SV} {o : Op} (hp : PcOk E pc) : Pcs E Res.pc (opP H P m pc ev o) := by
  unfold opP
  split
  · split
    · split
      · exact hH.h _ _ _ _ hp
      · exact extS_pc hp
    · exact .bad
  · exact opx_pc hp
theorem storeS_pc {σ : St} {d : Option Tmp} {t : TypeId} {a v : SV} (hp : PcOk E σ.pc) : Pcs E St.pc (storeS P σ d t a v) := by
  unfold storeS
  repeat' split
  all_goals first | exact .ret hp | exact .bad
theorem appendS_pc {σ : St} {d : Option Tmp} {t : TypeId} {a v : SV} (hp : PcOk E σ.pc) : Pcs E St.pc (appendS P σ d t a v) := by
  unfold appendS
  repeat' split
  all_goals first | exact .ret hp | exact .bad
theorem stepO_pc (hH : HndPc E H) {σ : St} {o : Oper} (hp : PcOk E σ.pc) : Pcs E St.pc (stepO H P σ o) := by
  unfold stepO
  split
  · rename_i r he
    unfold eff at he
    simp only [effCall] at he
    split at he
    · cases he; exact storeS_pc hp
    · split at he
      · split at he
        · cases he; exact appendS_pc hp
        · cases he; exact .bad
      · split at he
        · cases he
          exact .bind (f := fun r : SV × St => r.2.pc) (hH.fr _ _ _ hp) (fun r h => .ret h)
        · cases he
      · cases he
    · cases he
  · exact .bind (opP_pc hH hp) (fun r h => .ret h)
theorem guarded_pc {α : Type} {f : α → PC} {pc : PC} {g : Option (Nat × Bool)} {look : Nat → Option SV} {run skip : PC → Out α} (hp : PcOk E pc) (hr : ∀ pc, PcOk E pc → Pcs E f (run pc)) (hs : ∀ pc, PcOk E pc → Pcs E f (skip pc)) :
    Pcs E f (guarded pc g look run skip) := fun r h => by
  obtain ⟨pc', b, hp', _, h⟩ := guarded_sel hp h
  rcases h with ⟨_, h⟩ | ⟨_, h⟩
  · exact hr pc' hp' r h
  · exact hs pc' hp' r h
theorem stepG_pc (hH : HndPc E H) {ops : List Oper} {σ : St} {o : Oper} (hp : PcOk E σ.pc) : Pcs E St.pc (stepG H P ops σ o) := by
  unfold stepG
  exact guarded_pc hp (fun pc h => stepO_pc hH (σ := { σ with pc := pc }) h) (fun pc h => .ret h)
theorem seqOps_pc (hH : HndPc E H) {ops : List Oper} : ∀ (rest : List Oper) {σ : St}, PcOk E σ.pc → Pcs E St.pc (seqOps H P ops rest σ)
  | [], _, hp => .ret hp
  | _ :: rest, _, hp => by
    simp only [seqOps, fList_eq]
    exact .bind (stepG_pc hH hp) (fun _ h => seqOps_pc hH rest h)
theorem opD_pc (hH : HndPc E H) {own : Mem} {m : Mm} {pc : PC} {ev : Operand → SV} {o : Op} (hp : PcOk E pc) : Pcs E (fun r => r.1.pc) (opD H P own m pc ev o) := by
  unfold opD
  split
  · split
    · refine .bind (f := Res.pc) ?_ (fun _ h => .ret h)
      unfold appE
      repeat' split
      all_goals first | exact .ret hp | exact .bad
    · unfold appD
      repeat' split
      all_goals first | exact .ret hp | exact .bad
  · exact .bind (opP_pc hH hp) (fun _ h => .ret h)
theorem drawOps_pc (hH : HndPc E H) {ops : List Oper} {as : List Nat} {own : Mem} {m : Mm} {tm : List SV} : ∀ (rest : List Oper) {i : Nat} {done : List DR} {pc : PC}, PcOk E pc → Pcs E Prod.snd (drawOps H P ops as own m tm rest i done pc)
  | [], _, _, _, hp => .ret hp
  | o :: rest, _, _, _, hp => by
    simp only [drawOps, drawOne, fList_eq]
    exact .bind (f := Prod.snd) (guarded_pc hp (fun _ h => .bind (f := fun r : Res × Option Nat => r.1.pc) (opD_pc hH h) (fun _ h => .ret h)) (fun _ h => .ret h)) (fun _ h => drawOps_pc hH rest h)
theorem regionK_pc (hH : HndPc E H) {ops : List Oper} {K : List Nat} {k : Nat} {σ : St} (hp : PcOk E σ.pc) : Pcs E St.pc (regionK H P ops K k σ) := by
  unfold regionK
  simp only [fList_eq]
  refine .bind (drawOps_pc hH _ hp) (fun x hx => ?_)
  split
  · exact seqOps_pc hH _ hx
  · exact .bad
theorem regionC_pc (hH : HndPc E H) {ops : List Oper} {σ : St} (hp : PcOk E σ.pc) {r : Out St} (h : regionC H P ops σ = some r) : Pcs E St.pc r := by
  unfold regionC at h
  split at h
  · split at h
    · cases h; exact regionK_pc hH hp
    · split at h
      · cases h; exact regionK_pc hH hp
      · cases h
  · cases h
theorem regionT_pc (hH : HndPc E H) : ∀ (n : Nat) {ops : List Oper} {σ : St}, PcOk E σ.pc → Pcs E St.pc (regionT H P n ops σ)
  | 0, _, _, _ => .bad
  | n + 1, ops, σ, hp => by
    simp only [regionT]
    split
    · rename_i r h; exact regionC_pc hH hp h
    · split
      · exact .bad
      · exact regionT_pc hH n hp
theorem region_pc (hH : HndPc E H) {ops : List Oper} {draw : Bool} {σ : St} (hp : PcOk E σ.pc) : Pcs E St.pc (region H P ops draw σ) := by
  unfold region
  split
  · exact seqOps_pc hH ops hp
  · split
    · exact regionT_pc hH 8 hp
    · exact .bad
theorem merged_pc {m : Mm} {pc : PC} {o : Out Res} (hp : PcOk E pc) (h : Pcs E Res.pc o) : Pcs E Res.pc (merged m pc o) := by
  unfold merged
  split
  · split
    · exact .val hp
    · exact h
  · exact h
theorem callWith_pc {run : Code → St → Out (Ex × St)} {ctx : Ctx} (hc : CtxPc E ctx) (hr : ∀ c σ, PcOk E σ.pc → Pcs E (fun x => x.2.pc) (run c σ)) : HndPc E (callWith run ctx P) := by
  refine ⟨?_, fun f args σ hp => ?_⟩
  rotate_left
  · show Pcs E _ (callF run ctx P f args σ)
    unfold callF
    split
    · rename_i o ho; exact hc.fxs f args σ o ho hp
    split
    · exact .bad
    · split
      · exact .bad
      · refine .bind (f := fun x : Ex × St => x.2.pc) (hr _ _ hp) (fun x hx => ?_)
        split
        · exact .bad
        · split
          · split
            · exact .ret hx
            · exact .bad
          · exact .bad
  intro f args m pc hp
  show Pcs E _ (callH run ctx P f args m pc)
  unfold callH
  split
  · rename_i S hS; exact hc.sum f S hS args m pc hp
  · split
    · exact .bad
    · split
      · exact .bad
      · refine merged_pc hp (.bind (hr _ _ hp) (fun x hx => ?_))
        unfold ending
        split
        · exact .bad
        · split
          · split
            · exact .ret hx
            · split
              · exact .ret hx
              · exact .bad
          · exact .bad
theorem mergeK_keeps {k : Nat} {c : Tm} {σ x y m : St} (h : mergeK k c σ x y = some m) : m.pc = σ.pc ∧ m.ro = σ.ro := by
  unfold mergeK at h
  split at h
  · cases h; exact ⟨rfl, rfl⟩
  · cases h
theorem mergeSt0_keeps {c : Tm} {σ x y m : St} (h : mergeSt0 c σ x y = some m) : m.pc = σ.pc ∧ m.ro = σ.ro := by
  unfold mergeSt0 at h
  split at h
  · exact mergeK_keeps h
  · split at h
    · exact mergeK_keeps h
    · split at h
      · split at h
        · exact mergeK_keeps h
        · cases h
      · exact mergeK_keeps h
theorem mergeSt_eq {c : Tm} {σ x y m : St} (h : mergeSt c σ x y = some m) : mergeSt0 c σ x y = some m := by
  unfold mergeSt at h
  split at h
  · split at h
    · cases h
    · exact h
  · exact h
theorem mergeSt_keeps {c : Tm} {σ x y m : St} (h : mergeSt c σ x y = some m) : m.pc = σ.pc ∧ m.ro = σ.ro := mergeSt0_keeps (mergeSt_eq h)
theorem mergeN_pc {σ : St} {o : Out (Ex × St)} {σ' : St} (c : Tm) (x y : Out (Ex × St)) (ho : o = .br c x y) (h : mergeN σ o = some σ') : σ'.pc = σ.pc := by
  subst ho
  simp only [mergeN] at h
  split at h
  · cases h
  · split at h
    · cases h
    · exact (mergeSt_keeps h).1

theorem regroup_pc {g : Bool} {σ : St} {o : Out (Ex × St)} (hp : PcOk E σ.pc) (h : Pcs E (fun x => x.2.pc) o) : Pcs E (fun x => x.2.pc) (regroup g σ o) := by
  unfold regroup
  split
  · exact h
  · split
    · split
      · rename_i hm
        split
        · exact h
        · exact .ret (by have e := mergeN_pc _ _ _ rfl hm; show PcOk E (St.pc _); simp only [nameSt]; rw [e]; exact hp)
      · exact h
    · exact h

theorem settle_pc {σ : St} {o : Out (Ex × St)} (hp : PcOk E σ.pc) (h : Pcs E (fun x => x.2.pc) o) : Pcs E (fun x => x.2.pc) (settle σ o) := by
  have hr : ∀ {o : Out (Ex × St)} {q : Stl}, settleT σ o = some q → ∀ {x}, q.r.sel E = some x → (q.c.den E).toB = true → o.sel E = some x := by
    intro o
    induction o with
    | ret a =>
      obtain ⟨e, a⟩ := a
      intro q h x hx hc
      cases e <;> cases h
      · simp [Tm.den] at hc
      · exact hx
      · exact hx
    | bad n => intro q h; cases h
    | br t a b iha ihb =>
      intro q h x hx hc
      simp only [settleT] at h
      split at h
      · cases h
      · rename_i p hp
        split at h
        · cases h
        · rename_i p' hp'
          have main : ∀ {x}, (brO t p p').sel E = some x → ((mkIteB t p.c p'.c).den E).toB = true → (Out.br t a b).sel E = some x := by
            intro x hx hc
            rw [mkIteB_den] at hc
            unfold brO at hx
            have nf : ∀ {u : Tm}, isF u = true → (u.den E).toB = true → False := by
              intro u h1 h2
              unfold isF at h1
              split at h1
              · simp [Tm.den] at h2
              · cases h1
            cases ht : (t.den E).toB with
            | true =>
              rw [ht] at hc
              simp only [if_true] at hc
              simp only [Out.sel, ht, if_true]
              split at hx
              · rename_i hf; exact (nf hf hc).elim
              · split at hx
                · exact iha hp hx hc
                · simp only [Out.sel, ht, if_true] at hx; exact iha hp hx hc
            | false =>
              rw [ht] at hc
              simp only [Bool.false_eq_true, if_false] at hc
              simp only [Out.sel, ht, Bool.false_eq_true, if_false]
              split at hx
              · exact ihb hp' hx hc
              · split at hx
                · rename_i hf; exact (nf hf hc).elim
                · simp only [Out.sel, ht, Bool.false_eq_true, if_false] at hx; exact ihb hp' hx hc
          split at h
          · split at h
            · cases h
            · cases h; exact main hx hc
          · cases h; exact main hx hc
          · cases h; exact main hx hc
          · rename_i h1 h2
            cases h
            have allc : ∀ {o : Out (Ex × St)} {q : Stl}, settleT σ o = some q → q.n = none → (q.c.den E).toB = true := by
              intro o
              induction o with
              | ret a =>
                obtain ⟨e, a⟩ := a
                intro q h hn
                cases e <;> cases h
                · cases hn
                · rfl
                · rfl
              | bad n => intro q h; cases h
              | br t a b iha ihb =>
                intro q h hn
                simp only [settleT] at h
                split at h
                · cases h
                · split at h
                  · cases h
                  · split at h
                    · split at h
                      · cases h
                      · cases h; cases hn
                    · cases h; cases hn
                    · cases h; cases hn
                    · cases h; rfl
            simp only [Out.sel] at hx ⊢
            split at hx
            · rename_i ht; rw [if_pos ht]; exact iha hp hx (allc hp h1)
            · rename_i ht; rw [if_neg ht]; exact ihb hp' hx (allc hp' h2)
  unfold settle
  split
  · split
    · exact h
    · split
      · rename_i m c r hst
        split
        · exact h
        · split
          · exact .ret hp
          · intro x hx
            simp only [Out.sel] at hx
            split at hx
            · rename_i hc; exact h x (hr hst hx hc)
            · rename_i hc
              simp only [Option.some.injEq] at hx
              subst hx
              exact addF_ok c hp (by simpa using hc)
      · exact h
  · exact h
theorem exec_pc {ctx : Ctx} (hc : CtxPc E ctx) : ∀ (n : Nat) (c : Code) (σ : St), PcOk E σ.pc → Pcs E (fun x => x.2.pc) (exec ctx P n c σ)
  | 0, _, _, _ => .bad
  | n + 1, c, σ, hp => by
    have ih := exec_pc hc n
    have hH : HndPc E (callWith (exec ctx P n) ctx P) := callWith_pc hc ih
    unfold exec
    simp only [regS, seqS, condS, condB, blockS, loopS]
    split
    · exact .ret hp
    · exact .ret hp
    · exact regroup_pc hp (.bind (region_pc hH hp) (fun _ h => .ret h))
    · refine .bind (ih _ _ hp) (fun r hr => ?_)
      split
      · exact ih _ _ hr
      · exact .ret hr
    · split
      · split
        · exact ih _ _ hp
        · exact ih _ _ hp
        · split
          · rename_i hm
            exact .ret (by have e := mergeN_pc _ _ _ rfl hm; show PcOk E (St.pc _); simp only [nameSt]; rw [e]; exact hp)
          · refine settle_pc hp (fun r h => ?_)
            simp only [Out.sel] at h
            split at h
            · rename_i ht; exact ih _ { σ with pc := _ } (addF_ok _ hp ht) r h
            · rename_i ht; exact ih _ { σ with pc := _ } (addF_ok _ hp (by simpa using ht)) r h
      · exact .bad
    · refine settle_pc hp (.bind (ih _ _ hp) (fun r hr => ?_))
      split
      · split <;> exact .ret hr
      · exact .ret hr
    · split
      · rename_i L hL; exact hc.cc _ L hL σ hp
      · refine .bind (ih _ _ hp) (fun r hr => ?_)
        split
        · rw [fSt_eq]; exact ih _ _ hr
        · exact .ret hr
    · exact .ret hp
    · exact .ret hp
    · exact .bad
end
end Go.Sx
