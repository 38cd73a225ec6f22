/- Shifted parts are not all nought, since the parts are not. No condition. -/
import Derived.Test.YtamljpeicecbjaaSxShift
import Derived.Test.YtamljpeicecbjaaSxLite
set_option linter.unusedVariables false
set_option linter.unusedSimpArgs false
noncomputable section
namespace Go.Sx
open Go Ieee
section
variable {P : Program} {E : Env}
/-! Not all of the shifted parts are nought, since not all parts are -/
def allZ : List Tm → Tm
  | [] => .bl true
  | u :: r => mkIteB (mkFeq .f32 u (.fl 0)) (allZ r) (.bl false)
def baseOne (m u : Tm) : Tm := match u with
  | .op o a b => match b.beq m with
    | true => match Nat.beq o.n (Opc.fsub .f32).n, Nat.beq o.n (Opc.fadd .f32).n with
      | false, false => .op o a b
      | _, _ => a
    | false => .op o a b
  | u => u
def okOne (pc : PC) (m u : Tm) : Bool := match u with
  | .op o a b => match b.beq m with
    | true => match Nat.beq o.n (Opc.fsub .f32).n, Nat.beq o.n (Opc.fadd .f32).n with
      | false, false => true
      | _, _ => nnT pc .f32 a
    | false => true
  | _ => true
def isAdd (pc : PC) (m u : Tm) : Bool := match u with
  | .op o a b => match Nat.beq o.n (Opc.fadd .f32).n with
    | true => match b.beq m with
      | true => nnT pc .f32 a
      | false => false
    | false => false
  | _ => false
def okAllZ (pc : PC) (m : Tm) : List Tm → Bool
  | [] => true
  | u :: r => match okOne pc m u with | true => okAllZ pc m r | false => false
def hasAdd (pc : PC) (m : Tm) : List Tm → Bool
  | [] => false
  | u :: r => match isAdd pc m u with | true => true | false => hasAdd pc m r
def mapB (m : Tm) : List Tm → List Tm
  | [] => []
  | u :: r => baseOne m u :: mapB m r
def subM : List Tm → Option Tm
  | [] => none
  | u :: r => match u with
    | .op o _ m => match Nat.beq o.n (Opc.fsub .f32).n with
      | true => some m
      | false => subM r
    | _ => subM r
theorem eq_z {k : FloatKind} {x : Nat} : F.eq k x 0 = true ↔ x % k.format.signWeight = 0 := by
  constructor
  · intro h
    rcases Nat.eq_zero_or_pos (x % k.format.signWeight) with h0 | h0
    · exact h0
    · rw [nz_eq (by omega)] at h; cases h
  · intro h0
    have hb := binade_pos k.format
    have hr : ∃ t, k.format.read x = .number t 0 k.format.leastPlace := by
      refine ⟨x / k.format.signWeight % 2 == 1, ?_⟩
      unfold Format.read
      simp only [h0]
      rw [if_pos hb]
    obtain ⟨t, hr⟩ := hr
    unfold F.eq Format.order
    rw [hr, read_zero]
    simp [Datum.order, sg0]
theorem allZ_den {l : List Tm} : ((allZ l).den E).toB = true ↔ ∀ u, u ∈ l → (u.den E).toF % FloatKind.f32.format.signWeight = 0 := by
  induction l with
  | nil => simp [allZ, Tm.den]
  | cons u r ih =>
    simp only [allZ, mkIteB_den, mkFeq_den, List.mem_cons, forall_eq_or_imp, ← ih]
    have e0 : ((Tm.fl 0).den E).toF = 0 := rfl
    rw [e0]
    cases h : F.eq .f32 (u.den E).toF 0 with
    | true => simp [eq_z.1 h]
    | false =>
      have : ¬ (u.den E).toF % FloatKind.f32.format.signWeight = 0 := fun h0 => by rw [eq_z.2 h0] at h; cases h
      simp [this, Tm.den]
theorem hasAdd_ok {pc : PC} (hp : PcOk E pc) {m : Tm} : ∀ {l : List Tm}, hasAdd pc m l = true → ∃ a, (Tm.op (.fadd .f32) a m) ∈ l ∧ F.le .f32 0 (a.den E).toF = true
  | [], h => by cases h
  | u :: r, h => by
    simp only [hasAdd] at h
    split at h
    · rename_i hi
      unfold isAdd at hi
      split at hi
      · rename_i o a b
        split at hi
        · rename_i ho
          split at hi
          · rename_i hb
            have ho' : o = .fadd .f32 := Opc.n_inj (Nat.eq_of_beq_eq_true ho)
            subst ho'
            rw [Tm.beq_eq hb]
            exact ⟨a, List.mem_cons_self .., nnT_ok hp hi⟩
          · cases hi
        · cases hi
      · cases hi
    · obtain ⟨a, ha, hn⟩ := hasAdd_ok hp h
      exact ⟨a, List.mem_cons_of_mem _ ha, hn⟩
theorem okAllZ_mem {pc : PC} {m : Tm} : ∀ {l : List Tm}, okAllZ pc m l = true → ∀ u, u ∈ l → okOne pc m u = true
  | [], _, u, hu => by cases hu
  | v :: r, h, u, hu => by
    simp only [okAllZ] at h
    split at h
    · rename_i h1
      rcases List.mem_cons.1 hu with rfl | hu
      · exact h1
      · exact okAllZ_mem h u hu
    · cases h
theorem mapB_mem {m : Tm} : ∀ {l : List Tm} {v : Tm}, v ∈ mapB m l → ∃ u, u ∈ l ∧ v = baseOne m u
  | [], v, h => by cases h
  | u :: r, v, h => by
    simp only [mapB, List.mem_cons] at h
    rcases h with rfl | h
    · exact ⟨u, List.mem_cons_self .., rfl⟩
    · obtain ⟨u', h1, h2⟩ := mapB_mem h
      exact ⟨u', List.mem_cons_of_mem _ h1, h2⟩
theorem base_zero {pc : PC} (hp : PcOk E pc) {m u : Tm} (hm : F.le .f32 0 (m.den E).toF = true) (hok : okOne pc m u = true) (h0 : (m.den E).toF % FloatKind.f32.format.signWeight = 0) (hu : (u.den E).toF % FloatKind.f32.format.signWeight = 0) :
    ((baseOne m u).den E).toF % FloatKind.f32.format.signWeight = 0 := by
  unfold okOne at hok
  unfold baseOne
  split
  · rename_i o a b
    simp only at hok
    split
    · rename_i hb
      have hb' := Tm.beq_eq hb
      subst hb'
      rw [hb] at hok
      simp only at hok
      split
      · exact hu
      · rename_i hne
        have ha : F.le .f32 0 (a.den E).toF = true := by
          split at hok
          · rename_i q1 q2; exact absurd q2 (hne q1)
          · exact nnT_ok hp hok
        cases hs : Nat.beq o.n (Opc.fsub .f32).n with
        | true =>
          have ho : o = .fsub .f32 := Opc.n_inj (Nat.eq_of_beq_eq_true hs)
          subst ho
          rcases Nat.eq_zero_or_pos ((a.den E).toF % FloatKind.f32.format.signWeight) with hz | hz
          · exact hz
          · exact absurd h0 (sub_nz ha (by omega) hm (eq_z.2 hu))
        | false => cases hd : Nat.beq o.n (Opc.fadd .f32).n with
          | true =>
            have ho : o = .fadd .f32 := Opc.n_inj (Nat.eq_of_beq_eq_true hd)
            subst ho
            rcases Nat.eq_zero_or_pos ((a.den E).toF % FloatKind.f32.format.signWeight) with hz | hz
            · exact hz
            · exact absurd hu (add_nz ha hm (.inl (by omega)))
          | false => exact absurd hd (hne hs)
    · exact hu
  · exact hu
/-- Not all of shifted parts are nought. -/
def shiftB (pc : PC) (l : List Tm) : Bool := match subM l with
  | some m => match nnT pc .f32 m, okAllZ pc m l, hasAdd pc m l, look pc (allZ (mapB m l)) with
    | true, true, true, some false => true
    | _, _, _, _ => false
  | none => false
theorem shiftB_ok {pc : PC} (hp : PcOk E pc) {l : List Tm} (h : shiftB pc l = true) : ((allZ l).den E).toB = false := by
  unfold shiftB at h
  split at h
  · rename_i m hm
    split at h
    · rename_i q1 q2 q3 q4
      have hb := look_ok hp q4
      cases hc : ((allZ l).den E).toB with
      | false => rfl
      | true =>
        exfalso
        have hall := allZ_den.1 hc
        obtain ⟨a, ha, ha0⟩ := hasAdd_ok hp q3
        have hok := okAllZ_mem q2
        have m0 : (m.den E).toF % FloatKind.f32.format.signWeight = 0 := by
          have h1 := hall _ ha
          rcases Nat.eq_zero_or_pos ((m.den E).toF % FloatKind.f32.format.signWeight) with hz | hz
          · exact hz
          · exact absurd h1 (add_nz ha0 (nnT_ok hp q1) (.inr (by omega)))
        have : ((allZ (mapB m l)).den E).toB = true := allZ_den.2 fun v hv => by
          obtain ⟨u, hu, rfl⟩ := mapB_mem hv
          exact base_zero hp (nnT_ok hp q1) (hok u hu) m0 (hall u hu)
        rw [this] at hb
        cases hb
    · cases h
  · cases h
def shiftY (S : Sum) : Sum := fun args m pc => match shiftB pc (partsArg args) with
  | true => S args m ((allZ (partsArg args), false) :: pc)
  | false => S args m pc
theorem shiftY_ok {f : Nat} {S : Sum} (hS : SumOk P E f S) : SumOk P E f (shiftY S) := by
  intro args m pc r hr
  unfold shiftY at hr
  split at hr
  · rename_i h
    exact fun β w vals h1 h2 h3 h4 hp => hS args m _ _ hr β w vals h1 h2 h3 h4 (hp.cons (shiftB_ok hp h))
  · exact hS args m _ _ hr
theorem shiftY_pc {S : Sum} (hS : ∀ args m pc, PcOk E pc → Pcs E Res.pc (S args m pc)) (args : List SV) (m : Mm) (pc : PC) (hp : PcOk E pc) : Pcs E Res.pc (shiftY S args m pc) := by
  unfold shiftY
  split
  · rename_i h; exact hS _ _ _ (hp.cons (shiftB_ok hp h))
  · exact hS _ _ _ hp
end
end Go.Sx
set_option linter.unusedVariables false
set_option linter.unusedSimpArgs false
noncomputable section
namespace Go.Sx
open Go
def tmAt : List Tm → Nat → Tm
  | [], _ => .nil
  | t :: _, 0 => t
  | _ :: r, i + 1 => tmAt r i
theorem tmAt_get : ∀ {l : List Tm} {i : Nat} {t : Tm}, l[i]? = some t → tmAt l i = t
  | [], i, t, h => by simp at h
  | u :: r, 0, t, h => by simp at h; exact h
  | u :: r, i + 1, t, h => tmAt_get (l := r) (by simpa using h)
def selT (ts : List Tm) : List Nat → List Tm
  | [] => []
  | i :: r => tmAt ts i :: selT ts r
def selV : List Nat → List Tm
  | [] => []
  | i :: r => .var i :: selV r
def allLt (n : Nat) : List Nat → Bool
  | [] => true
  | i :: r => match Nat.blt i n with | true => allLt n r | false => false
theorem selV_get : ∀ {π : List Nat} {i : Nat} {t : Tm}, (selV π)[i]? = some t → ∃ p, π[i]? = some p ∧ t = .var p
  | [], i, t, h => by simp [selV] at h
  | p :: r, 0, t, h => by simp [selV] at h; exact ⟨p, rfl, h.symm⟩
  | p :: r, i + 1, t, h => by
    obtain ⟨q, h1, h2⟩ := selV_get (π := r) (i := i) (by simpa [selV] using h)
    exact ⟨q, by simpa using h1, h2⟩
theorem selT_get {ts : List Tm} : ∀ {π : List Nat} {i p : Nat}, π[i]? = some p → (selT ts π)[i]? = some (tmAt ts p)
  | [], i, p, h => by simp at h
  | q :: r, 0, p, h => by simp at h; subst h; rfl
  | q :: r, i + 1, p, h => by simpa [selT] using selT_get (ts := ts) (π := r) (i := i) (by simpa using h)
theorem allLt_get {n : Nat} : ∀ {π : List Nat} {i p : Nat}, allLt n π = true → π[i]? = some p → p < n
  | q :: r, i, p, h, hp => by
    simp only [allLt] at h
    split at h
    · rename_i h1
      cases i with
      | zero => simp at hp; subst hp; simpa [Nat.blt_eq] using h1
      | succ i => exact allLt_get h (by simpa using hp)
    · cases h
theorem selV_len : ∀ {π : List Nat}, (selV π).length = π.length
  | [] => rfl
  | _ :: r => by simp [selV, selV_len (π := r)]
def sumRp (ps : List Pa) (as : PC) (rp : Rp) (N id : Nat) (π : List Nat) (els : Sum) : Sum := sumQ ps as (fun ts => mkR rp (nths (.app id (listT (selT ts π))) N 0)) els
theorem sumRp_ok {P : Program} {E : Env} {ctx : Ctx} {n f N id : Nat} {π : List Nat} {ps : List Pa} {as pcx : PC} {rp : Rp} {D : Tm} {els : Sum} (hC : ∀ E' : Env, E'.fn = E.fn → CtxOk P E' ctx ∧ CtxPc E' ctx)
    (hN : Named P) (hmix : P.follows .mixedOrders = true) (hD : ∀ c, E.fn id c = D.den ⟨fun i => c.at_ i, E.fn⟩)
    (hj : ((Nat.ble (bldP ps 0 0).j 1000 && undersF (bldP ps 0 0).n as) && ((D.under π.length && Nat.beq N (sizeR rp.2)) && allLt (bldP ps 0 0).n π)) = true)
    (hx : ∀ E' : Env, E'.fn = E.fn → PcOk E' as → PcOk E' pcx)
    (hk : treeIs rp (callQ P ctx n f ps pcx) (D.subst (selV π)) = true) (hels : SumOk P E f els) : SumOk P E f (sumRp ps as rp N id π els) := by
  simp only [Bool.and_eq_true] at hj
  obtain ⟨⟨j1, j2⟩, ⟨j3, j4⟩, j5⟩ := hj
  refine sumW_ok (n := n) hC hN hmix (by simp only [j1, j2, Bool.and_self]) hx (fun E' ts hfn has hp hn hE => ?_) hels
  unfold treeIs at hk
  split at hk
  · rename_i T' hT'
    have e := Tm.beq_eq hk
    subst e
    obtain ⟨r, cs, h1, h2, h3⟩ := treeT_sel (E := E') hT'
    refine ⟨r, h1, fun β' β v hv => ?_⟩
    have hlen := unR_length h2
    have hN' : N = sizeR rp.2 := Nat.eq_of_beq_eq_true j4
    refine unR_rep h2 hv ⟨by rw [nths_length]; omega, fun i t u g1 g2 => ?_⟩
    have eu := nths_get g2
    rw [Nat.zero_add] at eu
    subst eu
    simp only [Tm.den]
    rw [hD]
    have e2 : (D.subst (selV π)).den E' = D.den ⟨fun i => ((listT (selT ts π)).den E).at_ i, E.fn⟩ := subst_den (E := E') (E' := ⟨fun i => ((listT (selT ts π)).den E).at_ i, E.fn⟩) (fun i t ht => by
      obtain ⟨p, hp', rfl⟩ := selV_get ht
      have hlt : p < ts.length := by rw [← hn]; exact allLt_get j5 hp'
      have g := selT_get (ts := ts) hp'
      have e3 := tmAt_get (List.getElem?_eq_getElem hlt)
      rw [e3] at g
      show ((listT (selT ts π)).den E).at_ i = E'.v p
      rw [hE p _ (List.getElem?_eq_getElem hlt)]
      exact listT_at g) (by rw [hfn]) (by rw [selV_len]; exact j3)
    rw [← e2, h3]
    exact listT_at g1
  · cases hk
def partsArg3 : List SV → List Tm
  | [_, .agg cs, _] => match f32s cs with
    | some l => l
    | none => []
  | _ => []
def shiftW (S : Sum) : Sum := fun args m pc => match shiftB pc (partsArg3 args) with
  | true => S args m ((allZ (partsArg3 args), false) :: pc)
  | false => S args m pc
theorem shiftW_ok {P : Program} {E : Env} {f : Nat} {S : Sum} (hS : SumOk P E f S) : SumOk P E f (shiftW S) := by
  intro args m pc r hr
  unfold shiftW at hr
  split at hr
  · rename_i h
    exact fun β w vals h1 h2 h3 h4 hp => hS args m _ _ hr β w vals h1 h2 h3 h4 (hp.cons (shiftB_ok hp h))
  · exact hS args m _ _ hr
theorem shiftW_pc {E : Env} {S : Sum} (hS : ∀ args m pc, PcOk E pc → Pcs E Res.pc (S args m pc)) (args : List SV) (m : Mm) (pc : PC) (hp : PcOk E pc) : Pcs E Res.pc (shiftW S args m pc) := by
  unfold shiftW
  split
  · rename_i h; exact hS _ _ _ (hp.cons (shiftB_ok hp h))
  · exact hS _ _ _ hp
end Go.Sx
