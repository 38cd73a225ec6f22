/- The least of a list of drops: a loop's name, the contract, and what it is. No condition. -/
import Derived.Test.YtfdpcmijifdfeaaGreatAm
import Derived.Test.YtfdpcmijifdfeaaGreatSxIter
set_option linter.unusedVariables false
set_option linter.unusedSimpArgs false
set_option maxRecDepth 100000
noncomputable section
namespace Go.Proofs.YtfdpcmijifdfeaaGreat.Leaf
open Go.Sx
def q0 (n : Nat) : Nat := 6 + 34 * n
def LB : Nat := 200000
def rowT (T i : Tm) : List Tm := [cellT T i 6 0, cellT T i 6 1, cellT T i 6 2, cellT T i 6 3, cellT T i 6 4, cellT T i 6 5]
/-- How far drops with these cells are off the target (16 terms). -/
def offA (n : Nat) (sh cs tg : List Tm) : Tm := .app (260 + n) (listT (sh ++ (substL cs (PT 0 6) ++ tg)))
def selL (A f l a b : Tm) : Tm := .ite (.op .eqi (.nth 1 A) (.il 0)) (.ite f (.ite (.op (.flt .f32) (.nth 0 A) l) a b) a) b
def paL (n : Nat) : List Pa := [.aggS n pgs t6, .og d6, .agg f16]
def vlA (n : Nat) : PC := [(.app (920 + n) (.cons (.var (q0 n)) (.cons (.var (q0 n + 1)) .nil)), true), (.op .lei (.il 0) (.var (q0 n)), true), (.op .lei (.var (q0 n)) (.il 4611686018427387904), true)]
def asL (n : Nat) : PC := okS n ++ vlA n
def lv (j : Nat) : Tm := .var (LB + j)
def plL : List Go.Sx.Place := [.cell 9 0, .cell 9 1, .cell 9 2, .cell 9 3, .cell 9 4, .cell 9 5, .slot 10, .slot 11, .slot 19]
def invL (n : Nat) : PC := [(.op .lei (.il 0) (lv 8), true), (.op .lei (lv 8) (.var (q0 n)), true), (.op .lei (.var (q0 n)) (.il 4611686018427387904), true)]
def aL (n : Nat) : Tm := offA n (varsL (q0 n) 0) (rowT (.var (q0 n + 1)) (lv 8)) (varsL 16 (q0 n + 2))
def nxL (n : Nat) : List Tm :=
  let A := aL n
  [selL A (lv 7) (lv 6) (cellT (.var (q0 n + 1)) (lv 8) 6 0) (lv 0), selL A (lv 7) (lv 6) (cellT (.var (q0 n + 1)) (lv 8) 6 1) (lv 1), selL A (lv 7) (lv 6) (cellT (.var (q0 n + 1)) (lv 8) 6 2) (lv 2),
   selL A (lv 7) (lv 6) (cellT (.var (q0 n + 1)) (lv 8) 6 3) (lv 3), selL A (lv 7) (lv 6) (cellT (.var (q0 n + 1)) (lv 8) 6 4) (lv 4), selL A (lv 7) (lv 6) (cellT (.var (q0 n + 1)) (lv 8) 6 5) (lv 5),
   selL A (lv 7) (lv 6) (.nth 0 A) (lv 6), selL A (lv 7) (lv 6) (.bl true) (lv 7), .op (.addi .i64) (lv 8) (.il 1)]
def SL (n : Nat) : LoopSpec := { b := LB, places := plL, args := varsL (q0 n + 18) 0, N := 5100 + n, pre := invL n, inv := invL n, cond := .op .lti (lv 8) (.var (q0 n)), pol := false, next := nxL n }
def rpLo : Rp := (true, [(true, d6), (false, [.float .f32]), (false, [.bool])])
def in0 : List Tm := [.il 0, .il 0, .il 0, .il 0, .il 0, .il 0, .fl 0, .bl false, .il 0]
def loT (n : Nat) : Tm := .app (5100 + n) (consT (varsL (q0 n + 18) 0 ++ in0))
def DLo (n : Nat) : Tm := listT [.nth 0 (loT n), .nth 1 (loT n), .nth 2 (loT n), .nth 3 (loT n), .nth 4 (loT n), .nth 5 (loT n), .nth 6 (loT n), .nth 7 (loT n)]
def lsLo : List Ent := .df (5200 + 6) (DLo 6) :: .df (5200 + 5) (DLo 5) :: .df (5200 + 4) (DLo 4) :: .df (5200 + 3) (DLo 3) :: .df (5200 + 2) (DLo 2) :: .df (5200 + 1) (DLo 1) :: .lp (SL 6) (q0 6 + 18) :: .lp (SL 5) (q0 5 + 18) :: .lp (SL 4) (q0 4 + 18) :: .lp (SL 3) (q0 3 + 18) :: .lp (SL 2) (q0 2 + 18) :: .lp (SL 1) (q0 1 + 18) :: []
theorem chLo : chainB 5100 lsLo 5300 = true := by kernel_rfl
structure FokO (F : Nat → Sc → Sc) : Prop where
  base : ∀ k, k < 5100 → F k = FL k
  ch : ChainOk lsLo F
theorem FokO.l {F : Nat → Sc → Sc} (h : FokO F) : FokL F := FokL_of h.base
theorem FokO_of {l : List Ent} {b : Nat} (h : chainB 5100 l b = true) (hs : ∀ e, e ∈ lsLo → e ∈ l) : FokO (chainF FL l) := ⟨fun k hk => chain_base h k hk, fun e he => chain_ok h e (hs e he)⟩
def oL (n : Nat) := callQ Tryz.prog (withLoops cxD Tryz.prog 1000 [(3, SL n)]) 1000 35 (paL n) (asL n)
theorem lc_1 : (countB (SL 1) (q0 1 + 18) 8 true (.var (q0 1)) && (SL 1).closed (q0 1 + 18)) = true := by kernel_rfl
theorem ll_1 : treeIs rpLo (oL 1) (DLo 1) = true := by kernel_rfl
theorem lj_1 : ((Nat.ble (bldP (paL 1) 0 0).j 1000 && undersF (bldP (paL 1) 0 0).n (asL 1)) && ((DLo 1).under (bldP (paL 1) 0 0).n && Nat.beq 8 (sizeR rpLo.2))) = true := by kernel_rfl
theorem lc_2 : (countB (SL 2) (q0 2 + 18) 8 true (.var (q0 2)) && (SL 2).closed (q0 2 + 18)) = true := by kernel_rfl
theorem ll_2 : treeIs rpLo (oL 2) (DLo 2) = true := by kernel_rfl
theorem lj_2 : ((Nat.ble (bldP (paL 2) 0 0).j 1000 && undersF (bldP (paL 2) 0 0).n (asL 2)) && ((DLo 2).under (bldP (paL 2) 0 0).n && Nat.beq 8 (sizeR rpLo.2))) = true := by kernel_rfl
theorem lc_3 : (countB (SL 3) (q0 3 + 18) 8 true (.var (q0 3)) && (SL 3).closed (q0 3 + 18)) = true := by kernel_rfl
theorem ll_3 : treeIs rpLo (oL 3) (DLo 3) = true := by kernel_rfl
theorem lj_3 : ((Nat.ble (bldP (paL 3) 0 0).j 1000 && undersF (bldP (paL 3) 0 0).n (asL 3)) && ((DLo 3).under (bldP (paL 3) 0 0).n && Nat.beq 8 (sizeR rpLo.2))) = true := by kernel_rfl
theorem lc_4 : (countB (SL 4) (q0 4 + 18) 8 true (.var (q0 4)) && (SL 4).closed (q0 4 + 18)) = true := by kernel_rfl
theorem ll_4 : treeIs rpLo (oL 4) (DLo 4) = true := by kernel_rfl
theorem lj_4 : ((Nat.ble (bldP (paL 4) 0 0).j 1000 && undersF (bldP (paL 4) 0 0).n (asL 4)) && ((DLo 4).under (bldP (paL 4) 0 0).n && Nat.beq 8 (sizeR rpLo.2))) = true := by kernel_rfl
theorem lc_5 : (countB (SL 5) (q0 5 + 18) 8 true (.var (q0 5)) && (SL 5).closed (q0 5 + 18)) = true := by kernel_rfl
theorem ll_5 : treeIs rpLo (oL 5) (DLo 5) = true := by kernel_rfl
theorem lj_5 : ((Nat.ble (bldP (paL 5) 0 0).j 1000 && undersF (bldP (paL 5) 0 0).n (asL 5)) && ((DLo 5).under (bldP (paL 5) 0 0).n && Nat.beq 8 (sizeR rpLo.2))) = true := by kernel_rfl
theorem lc_6 : (countB (SL 6) (q0 6 + 18) 8 true (.var (q0 6)) && (SL 6).closed (q0 6 + 18)) = true := by kernel_rfl
theorem ll_6 : treeIs rpLo (oL 6) (DLo 6) = true := by kernel_rfl
theorem lj_6 : ((Nat.ble (bldP (paL 6) 0 0).j 1000 && undersF (bldP (paL 6) 0 0).n (asL 6)) && ((DLo 6).under (bldP (paL 6) 0 0).n && Nat.beq 8 (sizeR rpLo.2))) = true := by kernel_rfl
section
variable {E : Env}
theorem memLo {n : Nat} (h1 : 1 ≤ n) (h6 : n ≤ 6) : Ent.df (5200 + n) (DLo n) ∈ lsLo ∧ Ent.lp (SL n) (q0 n + 18) ∈ lsLo := by
  match n, h1, h6 with
  | 1, _, _ => exact ⟨.tail _ (.tail _ (.tail _ (.tail _ (.tail _ (.head _))))), .tail _ (.tail _ (.tail _ (.tail _ (.tail _ (.tail _ (.tail _ (.tail _ (.tail _ (.tail _ (.tail _ (.head _)))))))))))⟩
  | 2, _, _ => exact ⟨.tail _ (.tail _ (.tail _ (.tail _ (.head _)))), .tail _ (.tail _ (.tail _ (.tail _ (.tail _ (.tail _ (.tail _ (.tail _ (.tail _ (.tail _ (.head _))))))))))⟩
  | 3, _, _ => exact ⟨.tail _ (.tail _ (.tail _ (.head _))), .tail _ (.tail _ (.tail _ (.tail _ (.tail _ (.tail _ (.tail _ (.tail _ (.tail _ (.head _)))))))))⟩
  | 4, _, _ => exact ⟨.tail _ (.tail _ (.head _)), .tail _ (.tail _ (.tail _ (.tail _ (.tail _ (.tail _ (.tail _ (.tail _ (.head _))))))))⟩
  | 5, _, _ => exact ⟨.tail _ (.head _), .tail _ (.tail _ (.tail _ (.tail _ (.tail _ (.tail _ (.tail _ (.head _)))))))⟩
  | 6, _, _ => exact ⟨.head _, .tail _ (.tail _ (.tail _ (.tail _ (.tail _ (.tail _ (.head _))))))⟩
theorem lcLo {n : Nat} (h1 : 1 ≤ n) (h6 : n ≤ 6) : (countB (SL n) (q0 n + 18) 8 true (.var (q0 n)) && (SL n).closed (q0 n + 18)) = true := by
  match n, h1, h6 with
  | 1, _, _ => exact lc_1
  | 2, _, _ => exact lc_2
  | 3, _, _ => exact lc_3
  | 4, _, _ => exact lc_4
  | 5, _, _ => exact lc_5
  | 6, _, _ => exact lc_6
theorem SL_law (hE : FokO E.fn) {n : Nat} (h1 : 1 ≤ n) (h6 : n ≤ 6) : LoopLaw (SL n) E :=
  chain_count (m := q0 n + 18) (p := 8) (up := true) (T := .var (q0 n)) hE.ch (memLo h1 h6).2 (and_l (lcLo h1 h6)) (and_r (lcLo h1 h6)) rfl rfl rfl rfl rfl
theorem cxLo_G (hE : FokO E.fn) {n : Nat} (h1 : 1 ≤ n) (h6 : n ≤ 6) : ∀ E' : Env, E'.fn = E.fn → CtxOk Tryz.prog E' (withLoops cxD Tryz.prog 1000 [(3, SL n)]) ∧ CtxPc E' (withLoops cxD Tryz.prog 1000 [(3, SL n)]) := fun E' h =>
  withLoops_ok (fun E2 h2 => cxD_okF (by rw [h2, h]; exact hE.l)) nm mixed fun q S hS => by
    simp only [List.mem_cons, Prod.mk.injEq, List.not_mem_nil, or_false] at hS
    obtain ⟨_, rfl⟩ := hS
    exact SL_law (by rw [h]; exact hE) h1 h6
def elDD (f : Nat) : Sum := call cxD Tryz.prog 1000 f
theorem elDD_ok (hE : FokO E.fn) (f : Nat) : SumOk Tryz.prog E f (elDD f) := call_ok (cxD_okF hE.l).1 (cxD_okF hE.l).2 nm mixed 1000 f
theorem elDD_pc (hE : FokO E.fn) (f : Nat) : ∀ args m pc, PcOk E pc → Pcs E Res.pc (elDD f args m pc) := call_pc (cxD_okF hE.l).2 1000 f
def loC (n : Nat) : Sum := sumR (paL n) (asL n) rpLo 8 (5200 + n) (elDD 35)
theorem loC_ok (hE : FokO E.fn) (n : Nat) (h1 : 1 ≤ n) (h6 : n ≤ 6) : SumOk Tryz.prog E 35 (loC n) := by
  match n, h1, h6 with
  | 1, h1, h6 => exact sumR_ok (ctx := withLoops cxD Tryz.prog 1000 [(3, SL 1)]) (n := 1000) (D := DLo 1) (pcx := asL 1) (cxLo_G hE h1 h6) nm mixed (fun c => hE.ch.df (memLo h1 h6).1 c) (and_l lj_1) (and_r lj_1) (fun _ _ h => h) ll_1 (elDD_ok hE 35)
  | 2, h1, h6 => exact sumR_ok (ctx := withLoops cxD Tryz.prog 1000 [(3, SL 2)]) (n := 1000) (D := DLo 2) (pcx := asL 2) (cxLo_G hE h1 h6) nm mixed (fun c => hE.ch.df (memLo h1 h6).1 c) (and_l lj_2) (and_r lj_2) (fun _ _ h => h) ll_2 (elDD_ok hE 35)
  | 3, h1, h6 => exact sumR_ok (ctx := withLoops cxD Tryz.prog 1000 [(3, SL 3)]) (n := 1000) (D := DLo 3) (pcx := asL 3) (cxLo_G hE h1 h6) nm mixed (fun c => hE.ch.df (memLo h1 h6).1 c) (and_l lj_3) (and_r lj_3) (fun _ _ h => h) ll_3 (elDD_ok hE 35)
  | 4, h1, h6 => exact sumR_ok (ctx := withLoops cxD Tryz.prog 1000 [(3, SL 4)]) (n := 1000) (D := DLo 4) (pcx := asL 4) (cxLo_G hE h1 h6) nm mixed (fun c => hE.ch.df (memLo h1 h6).1 c) (and_l lj_4) (and_r lj_4) (fun _ _ h => h) ll_4 (elDD_ok hE 35)
  | 5, h1, h6 => exact sumR_ok (ctx := withLoops cxD Tryz.prog 1000 [(3, SL 5)]) (n := 1000) (D := DLo 5) (pcx := asL 5) (cxLo_G hE h1 h6) nm mixed (fun c => hE.ch.df (memLo h1 h6).1 c) (and_l lj_5) (and_r lj_5) (fun _ _ h => h) ll_5 (elDD_ok hE 35)
  | 6, h1, h6 => exact sumR_ok (ctx := withLoops cxD Tryz.prog 1000 [(3, SL 6)]) (n := 1000) (D := DLo 6) (pcx := asL 6) (cxLo_G hE h1 h6) nm mixed (fun c => hE.ch.df (memLo h1 h6).1 c) (and_l lj_6) (and_r lj_6) (fun _ _ h => h) ll_6 (elDD_ok hE 35)
theorem loC_pc (hE : FokO E.fn) (n : Nat) : ∀ args m pc, PcOk E pc → Pcs E Res.pc (loC n args m pc) := sumQ_pc (elDD_pc hE 35)
/-! What it is -/
def rowV (L : List Sc) (k : Nat) : Nat → Sc := fun j => cellOf L (.cons (.i k) (.cons (.i 6) (.cons (.i j) .nil)))
/-- How far drops are off: of a shelf's values and a target's. -/
def offV (fn : Nat → Sc → Sc) (n : Nat) (sv tv : List Sc) (r : Nat → Sc) : Sc := fn (260 + n) (Sc.ofList (sv ++ ((PT 0 6).map (Tm.den ⟨r, fn⟩) ++ tv)))
structure LSt where
  b : Nat → Sc
  l : Sc
  f : Bool
def betterV (o : Sc) (s : LSt) : Bool := decide ((o.at_ 1).toI = 0) && (!s.f || F.lt .f32 (o.at_ 0).toF s.l.toF)
def stepV (o : Sc) (r : Nat → Sc) (s : LSt) : LSt := if betterV o s = true then ⟨r, o.at_ 0, true⟩ else s
def iterV (fn : Nat → Sc → Sc) (n : Nat) (sv tv : List Sc) (L : List Sc) : Nat → LSt
  | 0 => ⟨fun _ => .i 0, .f 0, false⟩
  | k + 1 => stepV (offV fn n sv tv (rowV L k)) (rowV L k) (iterV fn n sv tv L k)
def encV (s : LSt) (k : Nat) : List Sc := [s.b 0, s.b 1, s.b 2, s.b 3, s.b 4, s.b 5, s.l, .b s.f, .i k]
theorem selL_den {A f l a b : Tm} {s : LSt} {o : Sc} (hA : A.den E = o) (hf : f.den E = .b s.f) (hl : l.den E = s.l) : (selL A f l a b).den E = if betterV o s = true then a.den E else b.den E := by
  unfold selL betterV
  simp only [Tm.den, Opc.den, hA, hf, hl, Sc.toB_b, Sc.toI_i]
  cases decide ((o.at_ 1).toI = 0) <;> cases s.f <;> simp
theorem varsL_map (E : Env) : ∀ (m n : Nat), (varsL m n).map (Tm.den E) = (List.range m).map fun i => E.v (n + i)
  | 0, _ => rfl
  | m + 1, n => by
    simp only [varsL, List.map_cons, varsL_map E m (n + 1), List.range_succ_eq_map, List.map_map]
    rw [List.cons.injEq]
    exact ⟨by simp [Tm.den], List.map_congr_left fun i _ => by simp only [Function.comp]; congr 1; omega⟩
theorem PT_under : ((PT 0 6).all fun t => t.under 6) = true := by kernel_rfl
theorem substL_den {E' : Env} {cs : List Tm} (hl : cs.length = 6) (h : ∀ i, i < 6 → ∀ t, cs[i]? = some t → E'.v i = t.den E) (hf : E'.fn = E.fn) : ∀ {us : List Tm}, (us.all fun t => t.under 6) = true → (substL cs us).map (Tm.den E) = us.map (Tm.den E')
  | [], _ => rfl
  | u :: r, hu => by
    simp only [List.all_cons, Bool.and_eq_true] at hu
    simp only [substL, List.map_cons, substL_den hl h hf hu.2]
    rw [subst_den (E := E) (E' := E') (ts := cs) (fun i t hi => h i (by rw [← hl]; exact (List.getElem?_eq_some_iff.1 hi).1) t hi) hf (by rw [hl]; exact hu.1)]
theorem offA_den {n : Nat} {sh cs tg : List Tm} {r : Nat → Sc} {sv tv : List Sc} (hl : cs.length = 6) (h : ∀ i, i < 6 → ∀ t, cs[i]? = some t → t.den E = r i) (hs : sh.map (Tm.den E) = sv) (ht : tg.map (Tm.den E) = tv) : (offA n sh cs tg).den E = offV E.fn n sv tv r := by
  unfold offA offV
  simp only [Tm.den]
  rw [listT_den, List.map_append, List.map_append, hs, ht, substL_den (E' := ⟨r, E.fn⟩) hl (fun i hi t hit => (h i hi t hit).symm) rfl PT_under]
theorem lv_den {v : List Sc} {j : Nat} : (lv j).den (envV LB E v) = v.getD j .nil := by
  show (envV LB E v).v (LB + j) = _
  simp [envV, List.getD]
theorem out_v {v : List Sc} {i : Nat} (h : i < LB) : (envV LB E v).v i = E.v i := envV_lt h
/-- A round of the loop. -/
theorem nxL_den {n : Nat} (h6 : n ≤ 6) {s : LSt} {k : Nat} (hk : k < 4611686018427387904) : (nxL n).map (Tm.den (envV LB E (encV s k))) = encV (stepV (offV E.fn n ((varsL (q0 n) 0).map (Tm.den E)) ((varsL 16 (q0 n + 2)).map (Tm.den E)) (rowV (E.v (q0 n + 1)).list k)) (rowV (E.v (q0 n + 1)).list k) s) (k + 1) := by
  have hq : q0 n + 18 ≤ LB := by unfold q0 LB; omega
  have hcell : ∀ j : Nat, (cellT (.var (q0 n + 1)) (lv 8) 6 j).den (envV LB E (encV s k)) = rowV (E.v (q0 n + 1)).list k j := fun j => by
    show cellOf ((envV LB E (encV s k)).v (q0 n + 1)).list (.cons ((lv 8).den _) (.cons (.i 6) (.cons (.i j) .nil))) = _
    rw [out_v (by omega), lv_den]
    rfl
  have hA : (aL n).den (envV LB E (encV s k)) = offV E.fn n ((varsL (q0 n) 0).map (Tm.den E)) ((varsL 16 (q0 n + 2)).map (Tm.den E)) (rowV (E.v (q0 n + 1)).list k) := by
    unfold aL
    refine offA_den (E := envV LB E (encV s k)) rfl (fun i hi t ht => ?_) ?_ ?_
    · match i, hi with
      | 0, _ | 1, _ | 2, _ | 3, _ | 4, _ | 5, _ =>
        simp only [rowT, List.getElem?_cons_zero, List.getElem?_cons_succ, Option.some.injEq] at ht
        subst ht
        exact hcell _
    · rw [varsL_map, varsL_map]
      exact List.map_congr_left fun i hi => out_v (by have := List.mem_range.1 hi; omega)
    · rw [varsL_map, varsL_map]
      exact List.map_congr_left fun i hi => out_v (by have := List.mem_range.1 hi; omega)
  have hf : (lv 7).den (envV LB E (encV s k)) = .b s.f := lv_den
  have hl : (lv 6).den (envV LB E (encV s k)) = s.l := lv_den
  have key : ∀ a b : Tm, (selL (aL n) (lv 7) (lv 6) a b).den (envV LB E (encV s k)) = if betterV (offV E.fn n ((varsL (q0 n) 0).map (Tm.den E)) ((varsL 16 (q0 n + 2)).map (Tm.den E)) (rowV (E.v (q0 n + 1)).list k)) s = true then a.den (envV LB E (encV s k)) else b.den (envV LB E (encV s k)) := fun a b => selL_den hA hf hl
  have hi : (Tm.op (.addi .i64) (lv 8) (.il 1)).den (envV LB E (encV s k)) = .i ((k + 1 : Nat) : Int) := by
    show Sc.i (IntKind.i64.wrap (((lv 8).den _).toI + 1)) = _
    rw [lv_den]
    show Sc.i (IntKind.i64.wrap ((k : Int) + 1)) = _
    rw [wg64 (by omega) (by omega)]
    rfl
  have h6' : (Tm.nth 0 (aL n)).den (envV LB E (encV s k)) = (offV E.fn n ((varsL (q0 n) 0).map (Tm.den E)) ((varsL 16 (q0 n + 2)).map (Tm.den E)) (rowV (E.v (q0 n + 1)).list k)).at_ 0 := by
    show ((aL n).den _).at_ 0 = _
    rw [hA]
  have l0 : ∀ j, (lv j).den (envV LB E (encV s k)) = (encV s k).getD j .nil := fun j => lv_den
  simp only [nxL, List.map_cons, List.map_nil, key, hcell, hi, h6', l0]
  unfold stepV
  split <;> rfl
/-- WHAT THE LOOP ENDS WITH. -/
theorem SL_ends {n : Nat} (h6 : n ≤ 6) {v z : List Sc} (hr : Rounds (SL n) E v z) : ∀ k : Nat, (k : Int) ≤ (E.v (q0 n)).toI → (E.v (q0 n)).toI ≤ 4611686018427387904 → v = encV (iterV E.fn n ((varsL (q0 n) 0).map (Tm.den E)) ((varsL 16 (q0 n + 2)).map (Tm.den E)) (E.v (q0 n + 1)).list k) k →
    z = encV (iterV E.fn n ((varsL (q0 n) 0).map (Tm.den E)) ((varsL 16 (q0 n + 2)).map (Tm.den E)) (E.v (q0 n + 1)).list (E.v (q0 n)).toI.toNat) (E.v (q0 n)).toI.toNat := by
  have hq : q0 n < LB := by unfold q0 LB; omega
  have hc : ∀ (s : LSt) (k : Nat), ((Tm.op .lti (lv 8) (.var (q0 n))).den (envV LB E (encV s k))).toB = decide ((k : Int) < (E.v (q0 n)).toI) := fun s k => by
    show decide (((lv 8).den (envV LB E (encV s k))).toI < ((envV LB E (encV s k)).v (q0 n)).toI) = _
    rw [lv_den, out_v hq]
    rfl
  induction hr with
  | stop _ h2 =>
    intro k hk hl hv
    have h2' : ((Tm.op .lti (lv 8) (.var (q0 n))).den (envV LB E _)).toB = false := h2
    rw [hv, hc] at h2'
    have := of_decide_eq_false h2'
    rw [hv, show (E.v (q0 n)).toI.toNat = k by omega]
  | more _ h2 _ ih =>
    intro k hk hl hv
    have h2' : ((Tm.op .lti (lv 8) (.var (q0 n))).den (envV LB E _)).toB = true := h2
    rw [hv, hc] at h2'
    have hlt := of_decide_eq_true h2'
    refine ih (k + 1) (by omega) hl ?_
    rw [hv]
    exact nxL_den h6 (by omega)
theorem SL_fin (hE : FokO E.fn) {n : Nat} (h1 : 1 ≤ n) (h6 : n ≤ 6) (h0 : 0 ≤ (E.v (q0 n)).toI) (hl : (E.v (q0 n)).toI ≤ 4611686018427387904) : Go.Sx.finS (SL n) E (in0.map (Tm.den E)) = encV (iterV E.fn n ((varsL (q0 n) 0).map (Tm.den E)) ((varsL 16 (q0 n + 2)).map (Tm.den E)) (E.v (q0 n + 1)).list (E.v (q0 n)).toI.toNat) (E.v (q0 n)).toI.toNat := by
  have hq : q0 n < LB := by unfold q0 LB; omega
  have hp : PcOk (envV LB E (in0.map (Tm.den E))) (invL n) := by
    refine PcOk.cons (PcOk.cons (PcOk.cons (fun p hp => by cases hp) ?_) ?_) ?_
    · show decide (((envV LB E (in0.map (Tm.den E))).v (q0 n)).toI ≤ 4611686018427387904) = true
      rw [out_v hq]; exact decide_eq_true hl
    · show decide (((lv 8).den (envV LB E (in0.map (Tm.den E)))).toI ≤ ((envV LB E (in0.map (Tm.den E))).v (q0 n)).toI) = true
      rw [out_v hq, lv_den]; exact decide_eq_true h0
    · show decide (0 ≤ ((lv 8).den (envV LB E (in0.map (Tm.den E)))).toI) = true
      rw [lv_den]; rfl
  exact SL_ends h6 (SL_law hE h1 h6 (in0.map (Tm.den E)) rfl hp).1 0 h0 hl rfl
/-- What the name of the least of a list is, where these are the values of shelf, list and target. -/
theorem lo_den (hE : FokO E.fn) {n : Nat} (h1 : 1 ≤ n) (h6 : n ≤ 6) {ts : List Tm} (hn : ts.length = q0 n + 18) {len rows : Sc} {sv tv : List Sc} (hv : ts.map (Tm.den E) = sv ++ (len :: rows :: tv)) (hs : sv.length = q0 n) (h0 : 0 ≤ len.toI) (hl : len.toI ≤ 4611686018427387904) :
    ∀ j, j < 8 → ((Tm.app (5200 + n) (listT ts)).den E).at_ j = (encV (iterV E.fn n sv tv rows.list len.toI.toNat) len.toI.toNat).getD j .nil := by
  let E' : Env := ⟨fun i => ((listT ts).den E).at_ i, E.fn⟩
  have hE' : FokO E'.fn := hE
  have e0 : (Tm.app (5200 + n) (listT ts)).den E = (DLo n).den E' := hE.ch.df (memLo h1 h6).1 _
  have hval : ∀ i, E'.v i = ((sv ++ (len :: rows :: tv))[i]?).getD .nil := fun i => by
    show ((listT ts).den E).at_ i = _
    rw [listT_den, ofList_at, hv]
  have v0 : E'.v (q0 n) = len := by rw [hval, List.getElem?_append_right (by omega), hs, Nat.sub_self]; rfl
  have v1 : E'.v (q0 n + 1) = rows := by rw [hval, List.getElem?_append_right (by omega), hs, Nat.add_sub_cancel_left]; rfl
  have htl : tv.length = 16 := by
    have := congrArg List.length hv
    simp only [List.length_map, List.length_append, List.length_cons, hn, hs] at this
    omega
  have es : (varsL (q0 n) 0).map (Tm.den E') = sv := by
    rw [varsL_map]
    refine List.ext_getElem? fun i => ?_
    rcases Nat.lt_or_ge i (q0 n) with hi | hi
    · rw [List.getElem?_map, List.getElem?_range hi]
      show some (E'.v (0 + i)) = _
      rw [Nat.zero_add, hval, List.getElem?_append_left (by omega), List.getElem?_eq_getElem (show i < sv.length by omega)]
      rfl
    · rw [List.getElem?_eq_none (by simp; exact hi), List.getElem?_eq_none (by omega)]
  have et : (varsL 16 (q0 n + 2)).map (Tm.den E') = tv := by
    rw [varsL_map]
    refine List.ext_getElem? fun i => ?_
    rcases Nat.lt_or_ge i 16 with hi | hi
    · rw [List.getElem?_map, List.getElem?_range hi]
      show some (E'.v (q0 n + 2 + i)) = _
      rw [hval, List.getElem?_append_right (by omega), hs, show q0 n + 2 + i - q0 n = i + 1 + 1 by omega]
      simp only [List.getElem?_cons_succ]
      rw [List.getElem?_eq_getElem (show i < tv.length by omega)]
      rfl
    · rw [List.getElem?_eq_none (by simp; exact hi), List.getElem?_eq_none (by omega)]
  have hf := SL_fin hE' h1 h6 (by rw [v0]; exact h0) (by rw [v0]; exact hl)
  rw [es, et, v0, v1] at hf
  have happ : ∀ j, j < 9 → (Tm.nth j (loT n)).den E' = (Go.Sx.finS (SL n) E' (in0.map (Tm.den E'))).getD j .nil := fun j hj => by
    show (E'.fn (5100 + n) ((consT (varsL (q0 n + 18) 0 ++ in0)).den E')).at_ j = (Go.Sx.finOf E'.fn (5100 + n) ((varsL (q0 n + 18) 0).map (Tm.den E')) (in0.map (Tm.den E'))).getD j .nil
    unfold Go.Sx.finOf
    rw [consT_den, List.map_append, List.getD, List.getElem?_map, List.getElem?_range (by simpa [in0] using hj)]
    rfl
  intro j hj
  rw [e0]
  rw [show (Go.Sx.finS (SL n) E' (in0.map (Tm.den E'))) = _ from hf] at happ
  match j, hj with
  | 0, _ | 1, _ | 2, _ | 3, _ | 4, _ | 5, _ | 6, _ | 7, _ =>
    rw [← happ _ (by decide)]
    rfl
end
end Go.Proofs.YtfdpcmijifdfeaaGreat.Leaf
