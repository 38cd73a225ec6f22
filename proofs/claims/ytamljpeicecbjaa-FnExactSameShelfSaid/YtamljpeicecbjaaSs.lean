/- Are two long shelves the same? The contracts of the program's own test and of the reference's. No condition. -/
import Derived.Test.YtamljpeicecbjaaCs
import Derived.Test.YtamljpeicecbjaaSxDrop
set_option linter.unusedVariables false
set_option linter.unusedSimpArgs false
set_option maxRecDepth 100000
noncomputable section
namespace Go.Proofs.Ytamljpeicecbjaa.Leaf
open Go.RowKit Go.Sx
def retB (o : Out Res) : Tm := match o with | .ret r => (match r.v with | .sc .bool t => t | _ => .nil) | _ => .nil
def D24 : Tm := retB (callP Try.prog (ctxL l3) 1000 190 [.agg f16, .agg f16])
def curveS : Sum := sumA [.agg f16, .agg f16] .bool 24
def cSm : Ctx := ctxL ((190, curveS) :: (191, curveS) :: l3)
def cl (t i : Tm) (q : Nat) : Tm := cellT t i 34 q
def cls (t i : Tm) : Nat → Nat → List Tm
  | 0, _ => []
  | m + 1, q => cl t i q :: cls t i m (q + 1)
def cv (i : Tm) (q : Nat) : Tm := .app 24 (listT (cls (.var 1) i 16 q ++ cls (.var 2) i 16 q))
def rowT (i : Tm) : Tm := .ite (.op .eqs (cl (.var 1) i 0) (cl (.var 2) i 0)) (.ite (cv i 1) (.ite (cv i 17) (.op .eqi (cl (.var 1) i 33) (cl (.var 2) i 33)) (.bl false)) (.bl false)) (.bl false)
def cnd : Tm := .ite (.op .lti (.var 100000) (.var 0)) (rowT (.var 100000)) (.bl false)
def invS : PC := [(.op .lei (.il 0) (.var 100000), true), (.op .lei (.il 0) (.var 0), true), (.op .lei (.var 0) (.il 1048576), true)]
def SS (s : Nat) : LoopSpec := { b := 100000, places := [.slot s], args := varsL 3 0, N := 920, pre := invS, inv := invS, cond := cnd, pol := false, next := [.op (.addi .i64) (.var 100000) (.il 1)] }
def cxSI : Ctx := withLoops cSm Try.prog 1000 [(4, SS 17)]
def cxSS : Ctx := withLoops cSm Try.prog 1000 [(4, SS 5)]
def m2 : Mm := ⟨[(0, ⟨[], none⟩), (1, ⟨[], none⟩)], 2, 2 ^ 256, 2 ^ 200⟩
def pcS : PC := [(.op .lei (.il 0) (.var 0), true), (.op .lei (.var 0) (.il 1048576), true)]
def og1 : SV := .og 0 pgs (.var 0) (.var 1)
def og2 : SV := .og 1 pgs (.var 0) (.var 2)
def og3 : SV := .og 1 pgs (.var 3) (.var 2)
def pcN : PC := [(.op .eqi (.var 0) (.var 3), false)]
def rI : Out Res := call cxSI Try.prog 1000 128 [og1, og2, .fn (.func 129) [] []] m2 pcS
def rIn : Out Res := call cxSI Try.prog 1000 128 [og1, og3, .fn (.func 129) [] []] m2 pcN
def t6v (n : Nat) : List SV := (varsL 6 n).map fun t => .sc (.int .i32) t
def m4 (s : SV) : Mm := ⟨[(0, ⟨[], none⟩), (1, ⟨[], none⟩), (2, ⟨og1 :: t6v 4, none⟩), (3, ⟨s :: t6v 10, none⟩)], 4, 2 ^ 256, 2 ^ 200⟩
def rS : Out Res := call cxSS Try.prog 1000 125 [.ptr 2 0, .ptr 3 0] (m4 og2) pcS
def rSn : Out Res := call cxSS Try.prog 1000 125 [.ptr 2 0, .ptr 3 0] (m4 og3) pcN
def T128 : Tm := retB rI
def T125 : Tm := retB rS
theorem kI : retV rI (.sc .bool T128) = true := by kernel_rfl
theorem kS : retV rS (.sc .bool T125) = true := by kernel_rfl
theorem kIn : retV rIn (.sc .bool (.bl false)) = true := by kernel_rfl
theorem kSn : retV rSn (.sc .bool (.bl false)) = true := by kernel_rfl
theorem uI : T128.under 3 = true := by kernel_rfl
theorem uS : T125.under 16 = true := by kernel_rfl
theorem SS_count : countB (SS 5) 3 0 true (.var 0) = true := by kernel_rfl
theorem SS_closed : (SS 5).closed 3 = true := by kernel_rfl
/-! Names -/
def Ds24 : List (Nat × Tm) := (24, D24) :: Ds
theorem asc24 : defsAsc Ds24 900 = true := by kernel_rfl
def F024 : Nat → Sc → Sc := buildF F1 Ds24
def F124 : Nat → Sc → Sc := fun k c => if k = 920 then loopN (SS 5) 3 F024 c else F1 k c
def F24 : Nat → Sc → Sc := buildF F124 Ds24
theorem buildF_eq {F F' : Nat → Sc → Sc} {B : Nat} (h : ∀ k, k < B → F k = F' k) : ∀ {l : List (Nat × Tm)} {b : Nat}, defsAsc l b = true → b ≤ B → ∀ k, k < B → buildF F l k = buildF F' l k
  | [], _, _, _, k, hk => by funext c; exact congrFun (h k hk) c
  | (id, D) :: r, b, ha, hb, k, hk => by
    simp only [defsAsc] at ha
    split at ha
    · rename_i h1 h2
      have hlt : id < b := by simp only [Nat.blt] at h1; exact Nat.le_of_ble_eq_true h1
      have ih := buildF_eq h (l := r) (b := id) ha (by omega)
      funext c
      simp only [buildF]
      split
      · have hx : ∀ k, k < id → buildF F r k = buildF F' r k := fun k hk => ih k (by omega)
        exact apps_den (v := fun i => c.at_ i) hx h2
      · exact congrFun (ih k hk) c
    · cases ha
structure FokS24 (F : Nat → Sc → Sc) : Prop extends Fok F where
  sm : ∀ c, F 24 c = D24.den ⟨fun i => c.at_ i, F⟩
  lp : ∀ c, F 920 c = loopN (SS 5) 3 F024 c
  lo : ∀ k, k < 920 → F k = F024 k
theorem Fok_F24 : FokS24 F24 where
  defs := fun _ _ h c => buildF_def asc24 (.tail _ h) c
  rows := fun c => by
    have h : F24 900 = F124 900 := buildF_base (by kernel_rfl)
    rw [h]; simp [F124, F1]
  name := fun c => by
    have h : F24 0 = F124 0 := buildF_base (by kernel_rfl)
    rw [h]; simp [F124, F1]
  size := fun c => by
    have h : F24 1 = F124 1 := buildF_base (by kernel_rfl)
    rw [h]; simp [F124, F1]
  sm := fun c => buildF_def asc24 (show (24, D24) ∈ Ds24 from .head _) c
  lp := fun c => by
    have h : F24 920 = F124 920 := buildF_base (by kernel_rfl)
    rw [h]; simp [F124]
  lo := fun k hk => buildF_eq (B := 920) (fun k hk => by funext c; unfold F124; rw [if_neg (Nat.ne_of_lt hk)]) asc24 (by decide) k hk
section
variable {E : Env}
theorem cSm_ok (hE : FokS24 E.fn) : ∀ E' : Env, E'.fn = E.fn → CtxOk Try.prog E' cSm ∧ CtxPc E' cSm := fun E' h => by
  have hE' : FokS24 E'.fn := by rw [h]; exact hE
  exact ctxL_cons (ctxL_cons (c3 hE'.toFok)
    (sumA_ok (ctx := ctxL l3) (n := 1000) (D := D24) (c3' hE'.toFok) nm mixed hE'.sm (by kernel_rfl) (by kernel_rfl)) sumP_pc)
    (sumA_ok (ctx := ctxL l3) (n := 1000) (D := D24) (c3' hE'.toFok) nm mixed hE'.sm (by kernel_rfl) (by kernel_rfl)) sumP_pc
theorem SS_rounds {s s' : Nat} {v z : List Sc} (h : Rounds (SS s) E v z) : Rounds (SS s') E v z := by
  induction h with
  | stop h1 h2 => exact .stop (S := SS s') h1 h2
  | more h1 h2 _ ih => exact .more (S := SS s') h1 h2 ih
theorem SS_law5 (hE : FokS24 E.fn) : LoopLaw (SS 5) E := count_law (F := F024) SS_count SS_closed rfl rfl rfl rfl rfl hE.lp hE.lo
theorem SS_law (hE : FokS24 E.fn) (s : Nat) : LoopLaw (SS s) E := fun v hv hp => ⟨SS_rounds (SS_law5 hE v hv hp).1, (SS_law5 hE v hv hp).2⟩
theorem cxSI_ok (hE : FokS24 E.fn) : CtxOk Try.prog E cxSI ∧ CtxPc E cxSI := withLoops_ok (cSm_ok hE) nm mixed fun k S hS => by
  simp only [List.mem_cons, Prod.mk.injEq, List.not_mem_nil, or_false] at hS
  obtain ⟨_, rfl⟩ := hS
  exact SS_law hE 17
theorem cxSS_ok (hE : FokS24 E.fn) : CtxOk Try.prog E cxSS ∧ CtxPc E cxSS := withLoops_ok (cSm_ok hE) nm mixed fun k S hS => by
  simp only [List.mem_cons, Prod.mk.injEq, List.not_mem_nil, or_false] at hS
  obtain ⟨_, rfl⟩ := hS
  exact SS_law hE 5
/-! The contracts -/
def okOs (pc : PC) (n t : Tm) : Bool := match decB pc (rowsT pgs n t), decB pc (lim20 n) with
  | some true, some true => true
  | _, _ => false
def sameI : Sum := fun args m pc => match args with
  | [.os j n t, .os j' n' t', .fn (.func g) [] []] => match Nat.beq g 129, okOs pc n t, okOs pc n' t', find m.mem j, find m.mem j' with
    | true, true, true, some _, some _ => fork pc (.op .eqi n n') (fun pc => val m pc (.sc .bool (T128.subst [n, t, t']))) (fun pc => val m pc (.sc .bool (.bl false)))
    | _, _, _, _, _ => .bad 360
  | _ => .bad 361
def i32s : List SV → Option (List Tm)
  | [] => some []
  | s :: r => match s, i32s r with
    | .sc (.int .i32) t, some l => some (t :: l)
    | _, _ => none
def sameS : Sum := fun args m pc => match args with
  | [.ptr j o, .ptr j' o'] => match find m.mem j, find m.mem j' with
    | some sb, some sb' => match cut sb.cs o 7, cut sb'.cs o' 7 with
      | some (.os a n t :: xs), some (.os a' n' t' :: ys) => match i32s xs, i32s ys with
        | some us, some vs => match okOs pc n t, okOs pc n' t', find m.mem a, find m.mem a' with
          | true, true, some _, some _ => fork pc (.op .eqi n n') (fun pc => val m pc (.sc .bool (T125.subst (n :: t :: t' :: n' :: (us ++ vs))))) (fun pc => val m pc (.sc .bool (.bl false)))
          | _, _, _, _ => .bad 362
        | _, _ => .bad 363
      | _, _ => .bad 364
    | _, _ => .bad 365
  | _ => .bad 366
theorem sameI_pc (args : List SV) (m : Mm) (pc : PC) (hp : PcOk E pc) : Pcs E Res.pc (sameI args m pc) := by
  unfold sameI
  repeat' split
  all_goals first | exact .fork hp (fun _ h => .val h) (fun _ h => .val h) | exact .bad
theorem sameS_pc (args : List SV) (m : Mm) (pc : PC) (hp : PcOk E pc) : Pcs E Res.pc (sameS args m pc) := by
  unfold sameS
  repeat' split
  all_goals first | exact .fork hp (fun _ h => .val h) (fun _ h => .val h) | exact .bad
/-- A long slice, seen as an open list. -/
theorem os_og {β : Pl} {w : World} {mem : Mem} {pc : PC} {j : Nat} {n t : Tm} {sb : SB} {v : Value} (hF : ∀ c, E.fn 900 c = F900 c) (hp : PcOk E pc) (ho : okOs pc n t = true) (hm : Reads E β mem w) (hf : find mem j = some sb) (hv : SV.rep E β (.os j n t) v) :
    0 ≤ (n.den E).toI ∧ (n.den E).toI ≤ 1048576 ∧ ∃ b : Bs, (∀ (E' : Env) (β' : Pl), SB.reads E' β' ⟨[], none⟩ b w) ∧ ∀ (E' : Env) (β' : Pl) (i x y : Nat), β' i = some b → E'.v x = n.den E → E'.v y = t.den E → SV.rep E' β' (.og i pgs (.var x) (.var y)) v := by
  unfold okOs at ho
  split at ho
  · rename_i h1 h2
    have hrows := rowsT_ok hF hp h1
    have hl : (n.den E).toI ≤ 1048576 := of_decide_eq_true (decB_ok hp _ h2)
    simp only [SV.rep] at hv
    obtain ⟨b, l, c, hb, rfl, hlc, hln, hval⟩ := hv
    obtain ⟨b', hb', hr⟩ := hm j sb (find_mem hf)
    rw [hb] at hb'; cases hb'
    refine ⟨by omega, hl, ⟨b.blk, b.off, c, b.val⟩, fun E' β' => ⟨hr.1, fun q s hq => by simp at hq, hr.3.imp id fun g => ⟨rfl, g.2⟩, fun _ _ h => by cases h⟩, fun E' β' i x y hi hx hy => ?_⟩
    simp only [SV.rep, Tm.den, hx, hy]
    refine ⟨_, l, hi, rfl, hlc, by unfold maxLen; omega, hln, hval, ?_⟩
    rw [hval, hln]
    exact hrows
  · cases ho
def at4 (a b c d : Sc) (rest : List Sc) : Nat → Sc := fun i => ((a :: b :: c :: d :: rest)[i]?).getD .nil
theorem at4_get {ts : List Tm} (i : Nat) (u : Tm) {a b c d : Tm} (h : (a :: b :: c :: d :: ts)[i]? = some u) : at4 (a.den E) (b.den E) (c.den E) (d.den E) (ts.map (Tm.den E)) i = u.den E := by
  unfold at4
  have : ((a :: b :: c :: d :: ts).map (Tm.den E))[i]? = some (u.den E) := by rw [List.getElem?_map, h]; rfl
  simp only [List.map_cons] at this
  rw [this]; rfl
theorem sameI_ok (hE : FokS24 E.fn) : SumOk Try.prog E 128 sameI := by
  intro args m pc r hr β w vals hreps hm hfr hl hp
  unfold sameI at hr
  split at hr
  · rename_i j n t j' n' t' g
    split at hr
    · rename_i sb sb' hg ho1 ho2 hf1 hf2
      have := Nat.eq_of_beq_eq_true hg
      subst this
      simp only [SV.reps] at hreps
      obtain ⟨v1, rest, rfl, hv1, v2, rest2, rfl, hv2, v3, rest3, rfl, hv3, rfl⟩ := hreps
      obtain ⟨n0, n1, b1, hr1, og1'⟩ := os_og hE.rows hp ho1 hm hf1 hv1
      obtain ⟨_, _, b2, hr2, og2'⟩ := os_og hE.rows hp ho2 hm hf2 hv2
      let E' : Env := ⟨at4 (n.den E) (t.den E) (t'.den E) (n'.den E) [], E.fn⟩
      let β' : Pl := fun i => if i = 0 then some b1 else if i = 1 then some b2 else none
      have hE' : FokS24 E'.fn := hE
      have hC := cxSI_ok (E := E') hE'
      have hfn : SV.rep E' β' (.fn (.func 129) [] []) v3 := by
        simp only [SV.rep] at hv3 ⊢
        obtain ⟨fa, fc, hv, h1, h2⟩ := hv3
        exact ⟨fa, fc, hv, by simpa using h1, by simpa using h2⟩
      have hread : Reads E' β' m2.mem w := fun i sbi hi => by
        simp only [m2, List.mem_cons, Prod.mk.injEq, List.not_mem_nil, or_false] at hi
        rcases hi with ⟨rfl, rfl⟩ | ⟨rfl, rfl⟩
        · exact ⟨b1, rfl, hr1 _ _⟩
        · exact ⟨b2, rfl, hr2 _ _⟩
      have hfresh : Fresh β' m2.nxt m2.lim := fun i hi _ => by
        have : 2 ≤ i := hi
        show (if i = 0 then some b1 else if i = 1 then some b2 else none) = none
        rw [if_neg (by omega), if_neg (by omega)]
      obtain ⟨pc', hp', hcase⟩ := fork_sel hp hr
      rcases hcase with ⟨heq, hr⟩ | ⟨heq, hr⟩ <;> simp only [val, Out.sel, Option.some.injEq] at hr <;> subst hr
      · have hnn : (n.den E).toI = (n'.den E).toI := of_decide_eq_true heq
        refine ⟨hp', hl, ⟨_, Try.func128, by kernel_rfl⟩, ?_⟩
        obtain ⟨r0, hr0, hrv⟩ := retV_ok kI
        have hog2 : SV.rep E' β' og2 v2 := by
          have h3 := og2' E' β' 1 3 2 rfl rfl rfl
          simp only [SV.rep, og2] at h3 ⊢
          obtain ⟨b, l, g1, g2, g3, g4, g5, g6⟩ := h3
          exact ⟨b, l, g1, g2, g3, g4, by rw [g5]; exact hnn.symm, g6⟩
        obtain ⟨_, _, _, hcalls⟩ := call_ok hC.1 hC.2 nm mixed 1000 128 _ m2 pcS r0 (by show rI.sel E' = _; rw [hr0]; rfl) β' w [v1, v2, v3]
          (by simp only [reps_cons, reps_nil]; exact ⟨og1' E' β' 0 0 1 rfl rfl rfl, hog2, hfn, trivial⟩) hread hfresh (by decide) (fun p hp => by
            simp only [pcS, List.mem_cons, List.not_mem_nil, or_false] at hp
            rcases hp with rfl | rfl
            · exact decide_eq_true n0
            · exact decide_eq_true n1)
        refine hcalls.mono fun e w' ⟨v, β'', he, hv, hst⟩ => ⟨_, β, he, ?_, Step.same _ hst.below⟩
        rw [hrv] at hv
        simp only [SV.rep, SK.rep] at hv ⊢
        rw [hv, subst_den (E := E) (E' := E') (ts := [n, t, t']) (fun i u hi => by
          match i, hi with
          | 0, hi => cases hi; rfl
          | 1, hi => cases hi; rfl
          | 2, hi => cases hi; rfl) rfl uI]
      · have hnn : ¬ (n.den E).toI = (n'.den E).toI := of_decide_eq_false heq
        refine ⟨hp', hl, ⟨_, Try.func128, by kernel_rfl⟩, ?_⟩
        obtain ⟨r0, hr0, hrv⟩ := retV_ok kIn
        obtain ⟨_, _, _, hcalls⟩ := call_ok hC.1 hC.2 nm mixed 1000 128 _ m2 pcN r0 (by show rIn.sel E' = _; rw [hr0]; rfl) β' w [v1, v2, v3]
          (by simp only [reps_cons, reps_nil]; exact ⟨og1' E' β' 0 0 1 rfl rfl rfl, og2' E' β' 1 3 2 rfl rfl rfl, hfn, trivial⟩) hread hfresh (by decide) (fun p hp => by
            simp only [pcN, List.mem_cons, List.not_mem_nil, or_false] at hp
            subst hp
            exact decide_eq_false hnn)
        refine hcalls.mono fun e w' ⟨v, β'', he, hv, hst⟩ => ⟨_, β, he, ?_, Step.same _ hst.below⟩
        rw [hrv] at hv
        simp only [SV.rep, SK.rep] at hv ⊢
        exact hv
    · cases hr
  · cases hr
theorem i32s_get : ∀ {xs : List SV} {us : List Tm}, i32s xs = some us → xs.length = us.length ∧ ∀ (i : Nat) (s : SV), xs[i]? = some s → ∃ u, us[i]? = some u ∧ s = .sc (.int .i32) u
  | [], us, h => by cases h; exact ⟨rfl, fun i s h => by simp at h⟩
  | s :: r, us, h => by
    simp only [i32s] at h
    split at h
    · rename_i t l hl
      cases h
      obtain ⟨g1, g2⟩ := i32s_get hl
      refine ⟨by simp [g1], fun i x hx => ?_⟩
      cases i with
      | zero => simp at hx; subst hx; exact ⟨t, by simp, rfl⟩
      | succ i => simpa using g2 i x (by simpa using hx)
    · cases h
theorem t6v_get {n i : Nat} {s : SV} (h : (t6v n)[i]? = some s) : i < 6 ∧ s = .sc (.int .i32) (.var (n + i)) := by
  unfold t6v at h
  rw [List.getElem?_map] at h
  cases hx : (varsL 6 n)[i]? with
  | none => rw [hx] at h; cases h
  | some u =>
    rw [hx] at h
    obtain ⟨h1, rfl⟩ := varsL_get hx
    simp only [Option.map_some, Option.some.injEq] at h
    exact ⟨h1, h.symm⟩
theorem cut_len {cs : List SV} {o n : Nat} {x : List SV} (h : cut cs o n = some x) : x.length = n := (cut_some h).2
/-- The first cell behind an address. -/
theorem shelf_first {β : Pl} {w : World} {mem : Mem} {j o : Nat} {sb : SB} {s : SV} {xs : List SV} {p : Value} (hm : Reads E β mem w) (hf : find mem j = some sb) (hc : cut sb.cs o 7 = some (s :: xs)) (hp : SV.rep E β (.ptr j o) p) :
    ∃ (b : Bs) (u : Value), p = .pointer (some ⟨b.blk, b.off + o, none⟩) ∧ SB.reads E β sb b w ∧ w.cell? ⟨b.blk, b.off + o + 0, none⟩ = some u ∧ u.oneCell' = true ∧ SV.rep E β s u := by
  obtain ⟨b, hb, hr⟩ := hm j sb (find_mem hf)
  simp only [SV.rep] at hp
  obtain ⟨b2, hb2, rfl⟩ := hp
  rw [hb] at hb2; cases hb2
  obtain ⟨v, h1, h2, h3⟩ := hr.2 (o + 0) s (cut_get hc (by simp))
  exact ⟨b, v, rfl, hr, by rw [Nat.add_assoc]; exact h1, h2, h3⟩
/-- A shelf's cells, in the template's words. -/
theorem shelf_cells {β β' : Pl} {E' : Env} {w : World} {o k : Nat} {sb : SB} {b : Bs} {u : Value} {s s0 : SV} {xs : List SV} {us : List Tm} (hr : SB.reads E β sb b w) (hc : cut sb.cs o 7 = some (s :: xs)) (hu : i32s xs = some us) (h1 : w.cell? ⟨b.blk, b.off + o + 0, none⟩ = some u) (h2 : u.oneCell' = true)
    (hs : SV.rep E' β' s0 u) (hv : ∀ (i : Nat) (t : Tm), us[i]? = some t → E'.v (k + i) = t.den E) : SB.reads E' β' ⟨s0 :: t6v k, none⟩ ⟨b.blk, b.off + o, 0, []⟩ w := by
  refine ⟨hr.1, fun i x hx => ?_, .inl rfl, fun _ _ h => by cases h⟩
  cases i with
  | zero =>
    simp only [List.getElem?_cons_zero, Option.some.injEq] at hx
    subst hx
    exact ⟨u, h1, h2, hs⟩
  | succ i =>
    simp only [List.getElem?_cons_succ] at hx
    obtain ⟨hi, rfl⟩ := t6v_get hx
    obtain ⟨l1, l2⟩ := i32s_get hu
    have hlen : xs.length = 6 := by
      have := cut_len hc
      simpa using this
    have hxi : xs[i]? = some (xs[i]'(by omega)) := List.getElem?_eq_getElem _
    obtain ⟨t, hui, hse⟩ := l2 i _ hxi
    obtain ⟨v, g1, g2, g3⟩ := hr.2 (o + (i + 1)) _ (cut_get hc (i := i + 1) (by simp only [List.getElem?_cons_succ]; exact hxi))
    rw [hse] at g3
    refine ⟨v, by rw [Nat.add_assoc]; exact g1, g2, ?_⟩
    simp only [SV.rep, Tm.den] at g3 ⊢
    rw [hv i t hui]; exact g3
theorem sameS_ok (hE : FokS24 E.fn) : SumOk Try.prog E 125 sameS := by
  intro args m pc r hr β w vals hreps hm hfr hl hp
  unfold sameS at hr
  split at hr
  · rename_i j o j' o'
    split at hr
    · rename_i sb sb' hfa hfb
      split at hr
      · rename_i a n t xs a' n' t' ys hca hcb
        split at hr
        · rename_i us vs hus hvs
          split at hr
          · rename_i sl sl' ho1 ho2 hf1 hf2
            simp only [SV.reps] at hreps
            obtain ⟨v1, rest, rfl, hv1, v2, rest2, rfl, hv2, rfl⟩ := hreps
            have lu := (i32s_get hus).1
            have lv := (i32s_get hvs).1
            have lx : xs.length = 6 := by have := cut_len hca; simpa using this
            have ly : ys.length = 6 := by have := cut_len hcb; simpa using this
            let E' : Env := ⟨at4 (n.den E) (t.den E) (t'.den E) (n'.den E) ((us ++ vs).map (Tm.den E)), E.fn⟩
            have hE' : FokS24 E'.fn := hE
            have hC := cxSS_ok (E := E') hE'
            have hsub : ∀ (i : Nat) (u : Tm), (n :: t :: t' :: n' :: (us ++ vs))[i]? = some u → E'.v i = u.den E := fun i u hi => at4_get i u hi
            have hus' : ∀ (i : Nat) (u : Tm), us[i]? = some u → E'.v (4 + i) = u.den E := fun i u hi => hsub (4 + i) u (by
              have hlt := (List.getElem?_eq_some_iff.1 hi).1
              rw [show 4 + i = i + 1 + 1 + 1 + 1 by omega]
              simp only [List.getElem?_cons_succ]
              rw [List.getElem?_append_left hlt]; exact hi)
            have hvs' : ∀ (i : Nat) (u : Tm), vs[i]? = some u → E'.v (10 + i) = u.den E := fun i u hi => hsub (10 + i) u (by
              rw [show 10 + i = (6 + i) + 1 + 1 + 1 + 1 by omega]
              simp only [List.getElem?_cons_succ]
              rw [List.getElem?_append_right (by omega), show 6 + i - us.length = i by omega]; exact hi)
            obtain ⟨c1, u1, rfl, hrc1, hc11, hc12, hu1⟩ := shelf_first hm hfa hca hv1
            obtain ⟨c2, u2, rfl, hrc2, hc21, hc22, hu2⟩ := shelf_first hm hfb hcb hv2
            obtain ⟨n0, n1, b1, hr1, og1'⟩ := os_og hE.rows hp ho1 hm hf1 hu1
            obtain ⟨_, _, b2, hr2, og2'⟩ := os_og hE.rows hp ho2 hm hf2 hu2
            let β' : Pl := fun i => if i = 0 then some b1 else if i = 1 then some b2 else if i = 2 then some ⟨c1.blk, c1.off + o, 0, []⟩ else if i = 3 then some ⟨c2.blk, c2.off + o', 0, []⟩ else none
            have hread : ∀ s, SV.rep E' β' s u2 → Reads E' β' (m4 s).mem w := fun s hs i sbi hi => by
              simp only [m4, List.mem_cons, Prod.mk.injEq, List.not_mem_nil, or_false] at hi
              rcases hi with ⟨rfl, rfl⟩ | ⟨rfl, rfl⟩ | ⟨rfl, rfl⟩ | ⟨rfl, rfl⟩
              · exact ⟨b1, rfl, hr1 _ _⟩
              · exact ⟨b2, rfl, hr2 _ _⟩
              · exact ⟨_, rfl, shelf_cells hrc1 hca hus hc11 hc12 (og1' E' β' 0 0 1 rfl rfl rfl) hus'⟩
              · exact ⟨_, rfl, shelf_cells hrc2 hcb hvs hc21 hc22 hs hvs'⟩
            have hfresh : ∀ s, Fresh β' (m4 s).nxt (m4 s).lim := fun s i hi _ => by
              have : 4 ≤ i := hi
              show (if i = 0 then some b1 else if i = 1 then some b2 else if i = 2 then some ⟨c1.blk, c1.off + o, 0, []⟩ else if i = 3 then some ⟨c2.blk, c2.off + o', 0, []⟩ else none) = none
              rw [if_neg (by omega), if_neg (by omega), if_neg (by omega), if_neg (by omega)]
            have hargs : SV.reps E' β' [.ptr 2 0, .ptr 3 0] [.pointer (some ⟨c1.blk, c1.off + o, none⟩), .pointer (some ⟨c2.blk, c2.off + o', none⟩)] := by
              simp only [reps_cons, reps_nil, SV.rep]
              exact ⟨⟨_, rfl, rfl⟩, ⟨_, rfl, rfl⟩, trivial⟩
            obtain ⟨pc', hp', hcase⟩ := fork_sel hp hr
            rcases hcase with ⟨heq, hr⟩ | ⟨heq, hr⟩ <;> simp only [val, Out.sel, Option.some.injEq] at hr <;> subst hr
            · have hnn : (n.den E).toI = (n'.den E).toI := of_decide_eq_true heq
              refine ⟨hp', hl, ⟨_, Try.func125, by kernel_rfl⟩, ?_⟩
              obtain ⟨r0, hr0, hrv⟩ := retV_ok kS
              have hog2 : SV.rep E' β' og2 u2 := by
                have h3 := og2' E' β' 1 3 2 rfl rfl rfl
                simp only [SV.rep, og2] at h3 ⊢
                obtain ⟨b, l, g1, g2, g3, g4, g5, g6⟩ := h3
                exact ⟨b, l, g1, g2, g3, g4, by rw [g5]; exact hnn.symm, g6⟩
              obtain ⟨_, _, _, hcalls⟩ := call_ok hC.1 hC.2 nm mixed 1000 125 _ (m4 og2) pcS r0 (by show rS.sel E' = _; rw [hr0]; rfl) β' w _ hargs (hread _ hog2) (hfresh _) (by decide) (fun p hp => by
                simp only [pcS, List.mem_cons, List.not_mem_nil, or_false] at hp
                rcases hp with rfl | rfl
                · exact decide_eq_true n0
                · exact decide_eq_true n1)
              refine hcalls.mono fun e w' ⟨v, β'', he, hv, hst⟩ => ⟨_, β, he, ?_, Step.same _ hst.below⟩
              rw [hrv] at hv
              simp only [SV.rep, SK.rep] at hv ⊢
              rw [hv, subst_den (E := E) (E' := E') (ts := n :: t :: t' :: n' :: (us ++ vs)) hsub rfl (by
                have : (n :: t :: t' :: n' :: (us ++ vs)).length = 16 := by simp only [List.length_cons, List.length_append]; omega
                rw [this]; exact uS)]
            · have hnn : ¬ (n.den E).toI = (n'.den E).toI := of_decide_eq_false heq
              refine ⟨hp', hl, ⟨_, Try.func125, by kernel_rfl⟩, ?_⟩
              obtain ⟨r0, hr0, hrv⟩ := retV_ok kSn
              obtain ⟨_, _, _, hcalls⟩ := call_ok hC.1 hC.2 nm mixed 1000 125 _ (m4 og3) pcN r0 (by show rSn.sel E' = _; rw [hr0]; rfl) β' w _ hargs (hread _ (og2' E' β' 1 3 2 rfl rfl rfl)) (hfresh _) (by decide) (fun p hp => by
                simp only [pcN, List.mem_cons, List.not_mem_nil, or_false] at hp
                subst hp
                exact decide_eq_false hnn)
              refine hcalls.mono fun e w' ⟨v, β'', he, hv, hst⟩ => ⟨_, β, he, ?_, Step.same _ hst.below⟩
              rw [hrv] at hv
              simp only [SV.rep, SK.rep] at hv ⊢
              exact hv
          · cases hr
        · cases hr
      · cases hr
    · cases hr
  · cases hr
/-! The size of a second long slice -/
theorem szF_le {nm : Nat → Nat} {len : Nat} (h : ∀ i, i < len → (nm i : Int) ≤ 9223372036854775807) : ∀ (m k : Nat) (x : Int), k + m ≤ len → 0 ≤ x → x ≤ 1048576 → szF nm m k x ≤ 1048576
  | 0, k, x, _, h0, h1 => by simp only [szF]; exact h1
  | m + 1, k, x, hk, h0, h1 => by
    simp only [szF]
    split
    · omega
    · rename_i hn
      have hlen := h k (by omega)
      have e : sz1F (nm k) x ≤ x := by
        unfold sz1F
        split
        · omega
        · unfold wrap64; omega
      exact szF_le h m (k + 1) _ (by omega) (by omega) (by omega)
def szA (n t x : Tm) : Tm := .app 1 (.cons n (.cons t (.cons x .nil)))
/-- Is a number known to be no less than zero, by what it is made of? -/
def loS : PC → Tm → Bool
  | pc, .ite c a b => match prove true 60 pc c with
    | true => loS pc a
    | false => match prove false 60 pc c with
      | true => loS pc b
      | false => match loS (addF pc c true) a with
        | true => loS (addF pc c false) b
        | false => false
  | pc, t => prove false 60 pc (.op .lti t (.il 0))
/-- Is a number known to be at most 2^20, by what it is made of? -/
def upS : PC → Tm → Bool
  | _, .il L => ile L 1048576
  | pc, .ite c a b => match prove true 60 pc c with
    | true => upS pc a
    | false => match prove false 60 pc c with
      | true => upS pc b
      | false => match upS (addF pc c true) a with
        | true => upS (addF pc c false) b
        | false => false
  | pc, .op o a b => match Nat.beq o.n (Opc.subi .i64).n, upS pc a, loS pc a with
    | true, true, true => match b with
      | .op o' s u => match Nat.beq o'.n Opc.lens.n with
        | true => match decB pc (.op .lei (.op o' s u) (.il 9223372036854775807)) with
          | some true => true
          | _ => false
        | false => false
      | _ => false
    | _, _, _ => false
  | pc, .app f c => match Nat.beq f 1, c with
    | true, .cons n (.cons t (.cons (.il L) .nil)) => match ile L 1048576, ile 0 L, decB pc (rowsT pgs n t), decB pc (lim64 n), prove false 60 pc (.op .lti (.op (.subi .i64) (.il L) n) (.il 0)) with
      | true, true, some true, some true, true => true
      | _, _, _, _, _ => false
    | _, _ => false
  | _, _ => false
def szX : Sum := fun args m pc => match args with
  | [.os j n t, .sc (.int .i64) x] => match decB pc (rowsT pgs n t), decB pc (lim64 n), find m.mem j, loS pc x, upS pc x with
    | some true, some true, some _, true, true =>
      .br (.op .lti (.op (.subi .i64) x n) (.il 0)) (val m pc (.sc (.int .i64) (.il (-1)))) (val m ((lim20 n, true) :: (.op .lei (szA n t x) (.il 1048576), true) :: pc) (.sc (.int .i64) (szA n t x)))
    | _, _, _, _, _ => .bad 370
  | _ => .bad 371
theorem szX_facts (hF : ∀ c, E.fn 900 c = F900 c) (h1 : ∀ c, E.fn 1 c = szSc c) {pc : PC} {n t x : Tm} (hp : PcOk E pc) (hd1 : decB pc (rowsT pgs n t) = some true) (hd2 : decB pc (lim64 n) = some true) (hx0 : (0 : Int) ≤ (x.den E).toI) (hx1 : (x.den E).toI ≤ 1048576)
    (hneg : ((Tm.op .lti (.op (.subi .i64) x n) (.il 0)).den E).toB = false) : ((lim20 n).den E).toB = true ∧ ((Tm.op .lei (szA n t x) (.il 1048576)).den E).toB = true := by
  have x0 := hx0
  have x1 := hx1
  have n1 : (n.den E).toI ≤ 9223372036854775807 := of_decide_eq_true (decB_ok hp _ hd2)
  have hrows := rowsT_ok hF hp hd1
  have hstr := rowsT_str hF hp hd1
  have n0 : 0 ≤ (n.den E).toI := by
    have h4 := hrows.1
    have e : kSc.length = 34 := rfl
    rw [e] at h4
    omega
  have hc : ¬ IntKind.i64.wrap ((x.den E).toI - (n.den E).toI) < 0 := of_decide_eq_false hneg
  rw [wrapEq] at hc
  have hw : wrap64 ((x.den E).toI - (n.den E).toI) = (x.den E).toI - (n.den E).toI := by unfold wrap64; omega
  rw [hw] at hc
  refine ⟨decide_eq_true (show (n.den E).toI ≤ 1048576 by omega), ?_⟩
  have e : ((szA n t x).den E).toI = szF (fun k => (cellSc (t.den E).list k 0).toS.length) (n.den E).toI.toNat 0 ((x.den E).toI - (n.den E).toI) := by
    show (E.fn 1 _).toI = _
    rw [h1]
    simp only [szSc, Tm.den, Sc.toI_i, Sc.at_zero, Sc.at_succ, hw]
  show decide (((szA n t x).den E).toI ≤ 1048576) = true
  rw [e]
  refine decide_eq_true (szF_le (len := (n.den E).toI.toNat) (fun i hi => ?_) _ 0 _ (by omega) (by omega) (by omega))
  have hlen : ((t.den E).list.length : Int) = (n.den E).toI * 34 := by
    have h4 := hrows.1
    have e : kSc.length = 34 := rfl
    rw [e] at h4
    exact h4
  have hlt : i * 34 < (t.den E).list.length := by omega
  have hx : (t.den E).list[i * 34]? = some ((t.den E).list[i * 34]'hlt) := List.getElem?_eq_getElem hlt
  obtain ⟨c, hc2⟩ := hrows.2 _ _ hx
  have e34 : kSc.length = 34 := rfl
  rw [e34, show i * 34 % 34 = 0 by omega] at hc2
  have hk : kSc.getD 0 .nil = .i 1 := rfl
  rw [hk] at hc2
  have hs := hstr (i * 34) c (by rw [hx, hc2])
  have hcell : cellSc (t.den E).list i 0 = c := by
    simp only [cellSc, Nat.add_zero, List.getD, hx, Option.getD_some]
    rw [hc2]; rfl
  show ((cellSc (t.den E).list i 0).toS.length : Int) ≤ _
  rw [hcell]
  exact hs
theorem loS_ok : ∀ {x : Tm} {pc : PC}, PcOk E pc → loS pc x = true → (0 : Int) ≤ (x.den E).toI := by
  intro x
  induction x with
  | ite c a b _ iha ihb =>
    intro pc hp h
    simp only [loS] at h
    split at h
    · rename_i hc
      have := prove_ok 60 hp hc
      simp only [Tm.den, this, if_true]
      exact iha hp h
    · split at h
      · rename_i hc
        have := prove_ok 60 hp hc
        simp only [Tm.den, this, Bool.false_eq_true, if_false]
        exact ihb hp h
      · split at h
        · rename_i h1
          simp only [Tm.den]
          split
          · rename_i hc
            exact iha (addF_ok c hp hc) h1
          · rename_i hc
            exact ihb (addF_ok c hp (by simpa using hc)) h
        · cases h
  | _ => intro pc hp h; exact Int.not_lt.1 (of_decide_eq_false (prove_ok 60 hp h))
theorem upS_ok (hF : ∀ c, E.fn 900 c = F900 c) (h1 : ∀ c, E.fn 1 c = szSc c) : ∀ {x : Tm} {pc : PC}, PcOk E pc → upS pc x = true → (x.den E).toI ≤ 1048576 := by
  intro x
  induction x with
  | il L => intro pc hp h; exact ile_iff.1 h
  | ite c a b _ iha ihb =>
    intro pc hp h
    simp only [upS] at h
    split at h
    · rename_i hc
      have := prove_ok 60 hp hc
      simp only [Tm.den, this, if_true]
      exact iha hp h
    · split at h
      · rename_i hc
        have := prove_ok 60 hp hc
        simp only [Tm.den, this, Bool.false_eq_true, if_false]
        exact ihb hp h
      · split at h
        · rename_i h2
          simp only [Tm.den]
          split
          · rename_i hc
            exact iha (addF_ok c hp hc) h2
          · rename_i hc
            exact ihb (addF_ok c hp (by simpa using hc)) h
        · cases h
  | op o a b iha ihb =>
    intro pc hp h
    simp only [upS] at h
    split at h
    · rename_i q1 q2 q3
      have ho : o = .subi .i64 := Opc.n_inj (Nat.eq_of_beq_eq_true q1)
      subst ho
      have a1 := iha hp q2
      have a0 : (0 : Int) ≤ (a.den E).toI := loS_ok hp q3
      split at h
      · rename_i o' s u
        split at h
        · rename_i q4
          have ho' : o' = .lens := Opc.n_inj (Nat.eq_of_beq_eq_true q4)
          subst ho'
          split at h
          · rename_i q5
            have b1 : ((s.den E).toS.length : Int) ≤ 9223372036854775807 := of_decide_eq_true (decB_ok hp _ q5)
            show IntKind.i64.wrap ((a.den E).toI - ((s.den E).toS.length : Int)) ≤ _
            rw [wrapEq]
            unfold wrap64
            omega
          · cases h
        · cases h
      · cases h
    · cases h
  | app f c _ =>
    intro pc hp h
    simp only [upS] at h
    split at h
    · rename_i n t L q1 ih
      have := Nat.eq_of_beq_eq_true q1
      subst this
      split at h
      · rename_i q2 q3 q4 q5 q6
        exact of_decide_eq_true (szX_facts (x := .il L) hF h1 hp q4 q5 (ile_iff.1 q3) (ile_iff.1 q2) (prove_ok 60 hp q6)).2
      · cases h
    · cases h
  | _ => intro pc hp h; cases h
theorem szX_ok (hF : ∀ c, E.fn 900 c = F900 c) (h1 : ∀ c, E.fn 1 c = szSc c) : SumOk Try.prog E 124 szX := by
  intro args m pc r hr β w vals hreps hm hfr hl hp
  unfold szX at hr
  split at hr
  · rename_i j n t x
    split at hr
    · rename_i sb hd1 hd2 hf hx0 hx1
      have hreps0 := hreps
      simp only [SV.reps] at hreps
      obtain ⟨v1, rest, rfl, hv1, v2, rest2, rfl, hv2, rfl⟩ := hreps
      obtain ⟨b, l, c, hb, rfl, hlc, hln, hval, hblt, hrow⟩ := os_rows hF hp hm hd1 hf hv1
      simp only [SV.rep, SK.rep] at hv2
      subst hv2
      have x0 : (0 : Int) ≤ (x.den E).toI := loS_ok hp hx0
      have x1 : (x.den E).toI ≤ 1048576 := upS_ok hF h1 hp hx1
      have hl64 : l ≤ 9223372036854775807 := by
        have : (n.den E).toI ≤ 9223372036854775807 := of_decide_eq_true (decB_ok hp _ hd2)
        omega
      have hwrap : wrap64 ((x.den E).toI - l) = (x.den E).toI - l := by unfold wrap64; omega
      have hcond : ((Tm.op .lti (.op (.subi .i64) x n) (.il 0)).den E).toB = decide ((x.den E).toI - l < 0) := by
        simp only [Tm.den, Opc.den, Sc.toB_b, Sc.toI_i, ← hln]
        rw [wrapEq, hwrap]
      have walk : ∀ res : Int, ((x.den E).toI - l < 0 → res = -1) → (0 ≤ (x.den E).toI - l → szF (fun k => (cellSc b.val k 0).toS.length) l 0 ((x.den E).toI - l) = res) →
          Calls Try.prog 124 #[.slice (some ⟨b.blk, b.off, none⟩) l c, .int .i64 (x.den E).toI] w fun e w' => e = .returned (.int .i64 res) ∧ Below w.heap.size w w' := fun res g1 g2 =>
        sz_walk b.blk b.off l c (rowOf w b.blk b.off) (fun k => (cellSc b.val k 0).toS.length) (x.den E).toI res w hlc hl64 hblt
          (fun k w' hk hbel => load_row a25 s25 (hrow k hk).1.1 hblt hbel (hrow k hk).2)
          (fun k x w' hk => sz1 (hrow k hk).1 x w') (by rw [hwrap]; exact g1) (by rw [hwrap]; exact g2)
      simp only [Out.sel] at hr
      by_cases hneg : (x.den E).toI - l < 0
      · rw [hcond, decide_eq_true hneg, if_pos rfl] at hr
        simp only [val, Out.sel, Option.some.injEq] at hr
        subst hr
        refine ⟨hp, hl, ⟨_, Try.func124, by kernel_rfl⟩, (walk (-1) (fun _ => rfl) (fun h => by omega)).mono fun e w' ⟨he, hbel⟩ => ⟨_, β, he, ?_, Step.same _ hbel⟩⟩
        simp only [SV.rep, SK.rep, Tm.den, Sc.toI_i]
      · have hcf := hcond
        rw [decide_eq_false hneg] at hcf
        rw [hcf, if_neg (by decide)] at hr
        simp only [val, Out.sel, Option.some.injEq] at hr
        subst hr
        obtain ⟨f1, f2⟩ := szX_facts hF h1 hp hd1 hd2 x0 x1 hcf
        refine ⟨(hp.cons f2).cons f1, hl, ⟨_, Try.func124, by kernel_rfl⟩, (walk _ (fun h => absurd h hneg) (fun _ => rfl)).mono fun e w' ⟨he, hbel⟩ => ⟨_, β, he, ?_, Step.same _ hbel⟩⟩
        simp only [SV.rep, SK.rep, szA, Tm.den, h1, szSc, Sc.toI_i, Sc.at_zero, Sc.at_succ, ← hln, ← hval, Int.toNat_natCast]
        rw [hwrap]
    · cases hr
  · cases hr
theorem szX_pc (hF : ∀ c, E.fn 900 c = F900 c) (h1 : ∀ c, E.fn 1 c = szSc c) (args : List SV) (m : Mm) (pc : PC) (hp : PcOk E pc) : Pcs E Res.pc (szX args m pc) := by
  intro r hr
  unfold szX at hr
  split at hr
  · rename_i j n t x
    split at hr
    · rename_i sb hd1 hd2 hf hx0 hx1
      simp only [Out.sel] at hr
      split at hr
      · simp only [val, Out.sel, Option.some.injEq] at hr
        subst hr
        exact hp
      · rename_i hc
        simp only [val, Out.sel, Option.some.injEq] at hr
        subst hr
        obtain ⟨f1, f2⟩ := szX_facts hF h1 hp hd1 hd2 (loS_ok hp hx0) (upS_ok hF h1 hp hx1) (by simpa using hc)
        exact (hp.cons f2).cons f1
    · cases hr
  · cases hr
/-! Long slices, copied behind another list -/
/-- Is a number at most 2^20, since what is left of a known number is not below zero? -/
def limF (pc : PC) (n : Tm) : PC → Bool
  | [] => false
  | (.op o (.op o' x n') z, v) :: r => match Nat.beq o.n Opc.lti.n, Nat.beq o'.n (Opc.subi .i64).n, n'.beq n, z.beq (.il 0), v, loS pc x, upS pc x with
    | true, true, true, true, false, true, true => true
    | _, _, _, _, _, _, _ => limF pc n r
  | _ :: r => limF pc n r
theorem limF_ok (hF : ∀ c, E.fn 900 c = F900 c) (h1 : ∀ c, E.fn 1 c = szSc c) {pc : PC} {n : Tm} (hp : PcOk E pc) (hn : (n.den E).toI ≤ 9223372036854775807) (hn0 : 0 ≤ (n.den E).toI) : ∀ {l : PC}, PcOk E l → limF pc n l = true → (n.den E).toI ≤ 1048576 := by
  intro l
  induction l with
  | nil => intro _ h; cases h
  | cons a r ih =>
    intro hl h
    have hr : PcOk E r := fun p hp => hl p (List.mem_cons_of_mem _ hp)
    unfold limF at h
    split at h
    · rename_i q; cases q
    · rename_i o o' x n' z v r' q
      cases q
      split at h
      · rename_i q1 q2 q3 q4 q5 q6
        have ho : o = .lti := Opc.n_inj (Nat.eq_of_beq_eq_true q1)
        have ho' : o' = .subi .i64 := Opc.n_inj (Nat.eq_of_beq_eq_true q2)
        have hn' := Tm.beq_eq q3
        have hz := Tm.beq_eq q4
        subst ho ho' hn' hz
        have x0 := loS_ok hp q5
        have x1 := upS_ok hF h1 hp q6
        have h3 : ¬ IntKind.i64.wrap ((x.den E).toI - (n'.den E).toI) < 0 := of_decide_eq_false (hl _ (List.mem_cons_self ..))
        rw [wrapEq] at h3
        unfold wrap64 at h3
        omega
      · exact ih hr h
    · rename_i q
      cases q
      exact ih hr h
def toX : Sum := fun args m pc => match args with
  | [.os j n t] => match decB pc (rowsT pgs n t), decB pc (lim64 n), limF pc n pc with
    | some true, some true, true => toC args m ((over n, false) :: (lim20 n, true) :: pc)
    | _, _, _ => toC args m pc
  | _ => .bad 372
theorem toX_facts (hF : ∀ c, E.fn 900 c = F900 c) (h1 : ∀ c, E.fn 1 c = szSc c) {pc : PC} {n t : Tm} (hp : PcOk E pc) (hd1 : decB pc (rowsT pgs n t) = some true) (hd2 : decB pc (lim64 n) = some true) (h : limF pc n pc = true) : PcOk E ((over n, false) :: (lim20 n, true) :: pc) := by
  have n1 : (n.den E).toI ≤ 9223372036854775807 := of_decide_eq_true (decB_ok hp _ hd2)
  have n0 : 0 ≤ (n.den E).toI := by
    have h4 := (rowsT_ok hF hp hd1).1
    have e : kSc.length = 34 := rfl
    rw [e] at h4
    omega
  have hle := limF_ok hF h1 hp n1 n0 hp h
  have e1 : ((lim20 n).den E).toB = true := decide_eq_true hle
  refine (hp.cons e1).cons (?_ : ((over n).den E).toB = false)
  refine decide_eq_false ?_
  show ¬ IntKind.i64.wrap (1048576 - (n.den E).toI) < 0
  rw [wrapEq]
  unfold wrap64
  omega
theorem toX_ok (hF : ∀ c, E.fn 900 c = F900 c) (h1 : ∀ c, E.fn 1 c = szSc c) : SumOk Try.prog E 126 toX := by
  intro args m pc r hr β w vals hreps hm hfr hl hp
  unfold toX at hr
  split at hr
  · split at hr
    · rename_i hd1 hd2 h
      exact toC_ok hF _ _ _ _ hr β w vals hreps hm hfr hl (toX_facts hF h1 hp hd1 hd2 h)
    · exact toC_ok hF _ _ _ _ hr β w vals hreps hm hfr hl hp
  · cases hr
theorem toX_pc (hF : ∀ c, E.fn 900 c = F900 c) (h1 : ∀ c, E.fn 1 c = szSc c) (args : List SV) (m : Mm) (pc : PC) (hp : PcOk E pc) : Pcs E Res.pc (toX args m pc) := by
  unfold toX
  split
  · split
    · rename_i hd1 hd2 h
      exact toC_pc _ _ _ (toX_facts hF h1 hp hd1 hd2 h)
    · exact toC_pc _ _ _ hp
  · exact .bad
/-! The context -/
def isOs2 : List SV → Mem → Option Nat
  | [.os _ _ _, _], _ => some 0
  | _, _ => none
def cxSb : Ctx := ctxL ((190, curveS) :: (191, curveS) :: orL (ctxL l3) Try.prog 1000 l5)
def cxSg : Ctx := ctxL ((124, orS szX (call cxSb Try.prog 1000 124)) :: (128, orS sameI (call cxSb Try.prog 1000 128)) :: (125, orS sameS (call cxSb Try.prog 1000 125)) :: (126, orS toX (call cxSb Try.prog 1000 126)) :: (190, curveS) :: (191, curveS) :: orL (ctxL l3) Try.prog 1000 l5)
theorem cxSg_okF (hE : FokS24 E.fn) : CtxOk Try.prog E cxSg ∧ CtxPc E cxSg := by
  have hB : CtxOk Try.prog E cxSb ∧ CtxPc E cxSb := ctxL_cons (ctxL_cons (cxB_okF hE.toFok)
    (sumA_ok (ctx := ctxL l3) (n := 1000) (D := D24) (c3' hE.toFok) nm mixed hE.sm (by kernel_rfl) (by kernel_rfl)) sumP_pc)
    (sumA_ok (ctx := ctxL l3) (n := 1000) (D := D24) (c3' hE.toFok) nm mixed hE.sm (by kernel_rfl) (by kernel_rfl)) sumP_pc
  have ca : ∀ f, SumOk Try.prog E f (call cxSb Try.prog 1000 f) := fun f => call_ok hB.1 hB.2 nm mixed 1000 f
  have cp : ∀ f args m pc, PcOk E pc → Pcs E Res.pc (call cxSb Try.prog 1000 f args m pc) := fun f => call_pc hB.2 1000 f
  exact ctxL_cons (ctxL_cons (ctxL_cons (ctxL_cons hB
    (orS_ok (toX_ok hE.rows hE.size) (ca 126)) (orS_pc (toX_pc hE.rows hE.size) (cp 126)))
    (orS_ok (sameS_ok hE) (ca 125)) (orS_pc sameS_pc (cp 125)))
    (orS_ok (sameI_ok hE) (ca 128)) (orS_pc sameI_pc (cp 128)))
    (orS_ok (szX_ok hE.rows hE.size) (ca 124)) (orS_pc (szX_pc hE.rows hE.size) (cp 124))
end
end Go.Proofs.Ytamljpeicecbjaa.Leaf
namespace Go.Proofs.Ytamljpeicecbjaa.LeafSm
open Go.Sx
def cxB : Ctx := Leaf.cxSg
theorem cxB_ok : ∀ E : Env, E.fn = Leaf.F24 → CtxOk Try.prog E cxB ∧ CtxPc E cxB := fun E hE => Leaf.cxSg_okF (by rw [hE]; exact Leaf.Fok_F24)
theorem F2_900 : ∀ c, Leaf.F24 900 c = F900 c := Leaf.Fok_F24.rows
end Go.Proofs.Ytamljpeicecbjaa.LeafSm
