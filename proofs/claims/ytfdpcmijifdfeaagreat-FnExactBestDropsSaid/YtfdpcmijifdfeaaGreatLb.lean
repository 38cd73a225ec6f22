/- BestDrops: the model's loop, and the program's least said by it. No condition. -/
import Derived.Test.YtfdpcmijifdfeaaGreatLo
import Derived.Test.YtfdpcmijifdfeaaGreatSxLawX
import Derived.Test.YtfdpcmijifdfeaaGreatSxRes
set_option linter.unusedVariables false
set_option linter.unusedSimpArgs false
set_option maxRecDepth 100000
noncomputable section
namespace Go.Proofs.YtfdpcmijifdfeaaGreat.Leaf
open Go.Sx
def shArgL : List SV → Mem → Option Nat
  | [s, .og _ _ _ _, .agg _], mem => shArg [s] mem
  | _, _ => none
theorem shArgL_ok {args : List SV} {mem : Mem} {k : Nat} (h : shArgL args mem = some k) : 1 ≤ k ∧ k ≤ 6 := by
  unfold shArgL at h
  split at h
  · exact shArg_ok h
  · cases h
def loX : Sum := dispA shArgL loC (elDD 35)
def lLo : List (Nat × Sum) := (35, loX) :: lD
def cxLo : Ctx := ctxL lLo
def BB : Nat := 300000
def bv (j : Nat) : Tm := .var (BB + j)
def alA (n : Nat) (t : Tm) : Tm := .app (5000 + n) (listT [.il (.ofNat n), t])
def lenB (n : Nat) : Tm := .nth 0 (alA n (.var (q0 n + 16)))
def rowB (n : Nat) : Tm := .nth 1 (alA n (.var (q0 n + 16)))
def plB : List Go.Sx.Place := [.slot 11, .slot 12, .slot 13]
def selB (A b l x y : Tm) : Tm := .ite (.op .eqi (.nth 1 A) (.il 0)) (.ite (.op .lti b (.il 0)) x (.ite (.op (.flt .f32) (.nth 0 A) l) x y)) y
/-- A shelf's cells among a law's variables: the rows come first. -/
def shL (n : Nat) : List Tm := varsL 6 (34 * n) ++ varsL (34 * n) 0
def aB (n : Nat) : Tm := offA n (shL n) (rowT (rowB n) (bv 2)) (varsL 16 (q0 n))
def nxB (n : Nat) : List Tm := let A := aB n; [selB A (bv 0) (bv 1) (bv 2) (bv 0), selB A (bv 0) (bv 1) (.nth 0 A) (bv 1), .op (.addi .i64) (bv 2) (.il 1)]
def invB (n : Nat) : PC := [(.op .lei (.il 0) (bv 2), true), (.op .lei (bv 2) (lenB n), true), (.op .lei (.il 0) (lenB n), true), (.op .lei (lenB n) (.il 500), true)]
def SB (n : Nat) : LoopSpec := { b := BB, places := plB, args := varsL (q0 n + 17) 0, N := 5300 + n, pre := (.op .lti (bv 0) (lenB n), true) :: invB n, inv := invB n, post := [(.op .lti (bv 0) (lenB n), true), (.op .lei (bv 0) (.il 500), true)], cond := .op .lti (bv 2) (lenB n), pol := false, next := nxB n }
def inB : List Tm := [.il (-1), .fl 0, .il 0]
def lbT (n : Nat) : Tm := .app (5300 + n) (consT (varsL (q0 n + 17) 0 ++ inB))
def loA (n : Nat) : Tm := .app (5200 + n) (listT (shL n ++ (lenB n :: rowB n :: varsL 16 (q0 n))))
def foundB (n : Nat) : Tm := .op .notb (.op .lti (.nth 0 (lbT n)) (.il 0)) .nil
def cellB (n : Nat) (pc : PC) (j : Nat) : Tm := match decB pc (.op .lti (.nth 0 (lbT n)) (.il 0)) with
  | some true => .il 0
  | some false => cellT (rowB n) (.nth 0 (lbT n)) 6 j
  | none => .ite (.op .lti (.nth 0 (lbT n)) (.il 0)) (.il 0) (cellT (rowB n) (.nth 0 (lbT n)) 6 j)
def newB (n : Nat) (pc : PC) : SV := .tup [.agg [.sc (.int .i16) (cellB n pc 0), .sc (.int .i16) (cellB n pc 1), .sc (.int .i16) (cellB n pc 2), .sc (.int .i16) (cellB n pc 3), .sc (.int .i16) (cellB n pc 4), .sc (.int .i16) (cellB n pc 5)], .sc (.float .f32) (.nth 1 (lbT n)), .sc .bool (foundB n)]
def oldB (n : Nat) : SV := .tup [.agg [.sc (.int .i16) (.nth 0 (loA n)), .sc (.int .i16) (.nth 1 (loA n)), .sc (.int .i16) (.nth 2 (loA n)), .sc (.int .i16) (.nth 3 (loA n)), .sc (.int .i16) (.nth 4 (loA n)), .sc (.int .i16) (.nth 5 (loA n))], .sc (.float .f32) (.nth 6 (loA n)), .sc .bool (.nth 7 (loA n))]
/-- What the least of the list is, said by the model's loop. -/
def fixR (n : Nat) (r : Res) : Res := match SV.beq r.v (oldB n), decB r.pc (.op .lei (.il 0) (lenB n)), decB r.pc (.op .lei (lenB n) (.il 500)) with
  | true, some true, some true => ⟨newB n r.pc, r.nb, r.nxt, r.pc⟩
  | _, _, _ => r
def fixB (n : Nat) (S : Sum) : Sum := fun args m pc => (S args m pc).bind fun r => .ret (fixR n r)
def lsB : List Ent := .lp (SB 6) (q0 6 + 17) :: .lp (SB 5) (q0 5 + 17) :: .lp (SB 4) (q0 4 + 17) :: .lp (SB 3) (q0 3 + 17) :: .lp (SB 2) (q0 2 + 17) :: lsLo
theorem chB : chainB 5100 lsB 5400 = true := by kernel_rfl
structure FokB (F : Nat → Sc → Sc) : Prop where
  base : ∀ k, k < 5100 → F k = FL k
  ch : ChainOk lsB F
theorem FokB.o {F : Nat → Sc → Sc} (h : FokB F) : FokO F := ⟨h.base, fun e he => h.ch e (.tail _ (.tail _ (.tail _ (.tail _ (.tail _ he)))))⟩
def FB : Nat → Sc → Sc := chainF FL lsB
theorem FokB_FB : FokB FB := ⟨fun k hk => chain_base chB k hk, chain_ok chB⟩
theorem bc_2 : (countB (SB 2) (q0 2 + 17) 2 true (lenB 2) && (SB 2).closed (q0 2 + 17)) = true := by kernel_rfl
theorem bu_2 : ((lenB 2).under (q0 2 + 17) && (rowB 2).under (q0 2 + 17)) = true := by kernel_rfl
theorem bc_3 : (countB (SB 3) (q0 3 + 17) 2 true (lenB 3) && (SB 3).closed (q0 3 + 17)) = true := by kernel_rfl
theorem bu_3 : ((lenB 3).under (q0 3 + 17) && (rowB 3).under (q0 3 + 17)) = true := by kernel_rfl
theorem bc_4 : (countB (SB 4) (q0 4 + 17) 2 true (lenB 4) && (SB 4).closed (q0 4 + 17)) = true := by kernel_rfl
theorem bu_4 : ((lenB 4).under (q0 4 + 17) && (rowB 4).under (q0 4 + 17)) = true := by kernel_rfl
theorem bc_5 : (countB (SB 5) (q0 5 + 17) 2 true (lenB 5) && (SB 5).closed (q0 5 + 17)) = true := by kernel_rfl
theorem bu_5 : ((lenB 5).under (q0 5 + 17) && (rowB 5).under (q0 5 + 17)) = true := by kernel_rfl
theorem bc_6 : (countB (SB 6) (q0 6 + 17) 2 true (lenB 6) && (SB 6).closed (q0 6 + 17)) = true := by kernel_rfl
theorem bu_6 : ((lenB 6).under (q0 6 + 17) && (rowB 6).under (q0 6 + 17)) = true := by kernel_rfl
section
variable {E : Env}
theorem memB {n : Nat} (h2 : 2 ≤ n) (h6 : n ≤ 6) : Ent.lp (SB n) (q0 n + 17) ∈ lsB := by
  match n, h2, h6 with
  | 2, _, _ => exact .tail _ (.tail _ (.tail _ (.tail _ (.head _))))
  | 3, _, _ => exact .tail _ (.tail _ (.tail _ (.head _)))
  | 4, _, _ => exact .tail _ (.tail _ (.head _))
  | 5, _, _ => exact .tail _ (.head _)
  | 6, _, _ => exact .head _
theorem bcB {n : Nat} (h2 : 2 ≤ n) (h6 : n ≤ 6) : (countB (SB n) (q0 n + 17) 2 true (lenB n) && (SB n).closed (q0 n + 17)) = true := by
  match n, h2, h6 with
  | 2, _, _ => exact bc_2
  | 3, _, _ => exact bc_3
  | 4, _, _ => exact bc_4
  | 5, _, _ => exact bc_5
  | 6, _, _ => exact bc_6
theorem buB {n : Nat} (h2 : 2 ≤ n) (h6 : n ≤ 6) : ((lenB n).under (q0 n + 17) && (rowB n).under (q0 n + 17)) = true := by
  match n, h2, h6 with
  | 2, _, _ => exact bu_2
  | 3, _, _ => exact bu_3
  | 4, _, _ => exact bu_4
  | 5, _, _ => exact bu_5
  | 6, _, _ => exact bu_6
theorem bv_den {v : List Sc} {j : Nat} : (bv j).den (envV BB E v) = v.getD j .nil := by
  show (envV BB E v).v (BB + j) = _
  simp [envV, List.getD]
theorem bout {v : List Sc} {i : Nat} (h : i < BB) : (envV BB E v).v i = E.v i := envV_lt h
theorem lenB_out {n : Nat} (h2 : 2 ≤ n) (h6 : n ≤ 6) {v : List Sc} : (lenB n).den (envV BB E v) = (lenB n).den E :=
  under_den (n := q0 n + 17) (fun i hi => bout (by unfold q0 at hi; unfold BB; omega)) rfl (and_l (buB h2 h6))
theorem rowB_out {n : Nat} (h2 : 2 ≤ n) (h6 : n ≤ 6) {v : List Sc} : (rowB n).den (envV BB E v) = (rowB n).den E :=
  under_den (n := q0 n + 17) (fun i hi => bout (by unfold q0 at hi; unfold BB; omega)) rfl (and_r (buB h2 h6))
def betB (o : Sc) (p : Int × Sc) : Bool := decide ((o.at_ 1).toI = 0) && (decide (p.1 < 0) || F.lt .f32 (o.at_ 0).toF p.2.toF)
def stepB (o : Sc) (k : Nat) (p : Int × Sc) : Int × Sc := if betB o p = true then ((k : Int), o.at_ 0) else p
def svB (E : Env) (n : Nat) : List Sc := (shL n).map (Tm.den E)
def tvB (E : Env) (n : Nat) : List Sc := (varsL 16 (q0 n)).map (Tm.den E)
def iterB (E : Env) (n : Nat) : Nat → Int × Sc
  | 0 => (-1, .f 0)
  | k + 1 => stepB (offV E.fn n (svB E n) (tvB E n) (rowV ((rowB n).den E).list k)) k (iterB E n k)
def encB (p : Int × Sc) (k : Nat) : List Sc := [.i p.1, p.2, .i k]
theorem selB_den {A b l x y : Tm} {p : Int × Sc} {o : Sc} (hA : A.den E = o) (hb : b.den E = .i p.1) (hl : l.den E = p.2) : (selB A b l x y).den E = if betB o p = true then x.den E else y.den E := by
  unfold selB betB
  simp only [Tm.den, Opc.den, hA, hb, hl, Sc.toB_b, Sc.toI_i]
  cases decide ((o.at_ 1).toI = 0) <;> cases decide (p.1 < 0) <;> simp
theorem ite_or {c x y : Tm} : (Tm.ite c x y).den E = x.den E ∨ (Tm.ite c x y).den E = y.den E := by
  show (if (c.den E).toB = true then x.den E else y.den E) = _ ∨ (if (c.den E).toB = true then x.den E else y.den E) = _
  by_cases h : (c.den E).toB = true
  · exact .inl (if_pos h)
  · exact .inr (if_neg h)
theorem selB_or {A b l x y : Tm} : (selB A b l x y).den E = x.den E ∨ (selB A b l x y).den E = y.den E := by
  unfold selB
  rcases ite_or (E := E) (c := .op .eqi (.nth 1 A) (.il 0)) (x := .ite (.op .lti b (.il 0)) x (.ite (.op (.flt .f32) (.nth 0 A) l) x y)) (y := y) with h | h
  · rcases ite_or (E := E) (c := .op .lti b (.il 0)) (x := x) (y := .ite (.op (.flt .f32) (.nth 0 A) l) x y) with h1 | h1
    · exact .inl (h.trans h1)
    · rcases ite_or (E := E) (c := .op (.flt .f32) (.nth 0 A) l) (x := x) (y := y) with h2 | h2
      · exact .inl (h.trans (h1.trans h2))
      · exact .inr (h.trans (h1.trans h2))
  · exact .inr h
theorem shL_out {n : Nat} {E' : Env} (h : ∀ i, i < q0 n → E'.v i = E.v i) : (shL n).map (Tm.den E') = (shL n).map (Tm.den E) := by
  unfold shL
  rw [List.map_append, List.map_append, varsL_map, varsL_map, varsL_map, varsL_map]
  congr 1
  · exact List.map_congr_left fun i hi => h _ (by have := List.mem_range.1 hi; unfold q0; omega)
  · exact List.map_congr_left fun i hi => h _ (by have := List.mem_range.1 hi; unfold q0; omega)
theorem shL_len {n : Nat} : (shL n).length = q0 n := by unfold shL q0; rw [List.length_append, varsL_length, varsL_length]
theorem aB_den {n : Nat} (h2 : 2 ≤ n) (h6 : n ≤ 6) {v : List Sc} {k : Nat} (hk : v.getD 2 .nil = .i k) : (aB n).den (envV BB E v) = offV E.fn n (svB E n) (tvB E n) (rowV ((rowB n).den E).list k) := by
  have hq : q0 n + 17 ≤ BB := by unfold q0 BB; omega
  have hcell : ∀ j : Nat, (cellT (rowB n) (bv 2) 6 j).den (envV BB E v) = rowV ((rowB n).den E).list k j := fun j => by
    show cellOf ((rowB n).den (envV BB E v)).list (.cons ((bv 2).den _) (.cons (.i 6) (.cons (.i j) .nil))) = _
    rw [rowB_out h2 h6, bv_den, hk]
    rfl
  unfold aB
  refine offA_den (E := envV BB E v) rfl (fun i hi t ht => ?_) ?_ ?_
  · match i, hi with
    | 0, _ | 1, _ | 2, _ | 3, _ | 4, _ | 5, _ =>
      simp only [rowT, List.getElem?_cons_zero, List.getElem?_cons_succ, Option.some.injEq] at ht
      subst ht
      exact hcell _
  · exact shL_out fun i hi => bout (by omega)
  · unfold tvB
    rw [varsL_map, varsL_map]
    exact List.map_congr_left fun i hi => bout (by have := List.mem_range.1 hi; omega)
theorem nxB_den {n : Nat} (h2 : 2 ≤ n) (h6 : n ≤ 6) {p : Int × Sc} {k : Nat} (hk : k < 4611686018427387904) : (nxB n).map (Tm.den (envV BB E (encB p k))) = encB (stepB (offV E.fn n (svB E n) (tvB E n) (rowV ((rowB n).den E).list k)) k p) (k + 1) := by
  have hA := aB_den (E := E) h2 h6 (v := encB p k) (k := k) rfl
  have hb : (bv 0).den (envV BB E (encB p k)) = .i p.1 := bv_den
  have hl : (bv 1).den (envV BB E (encB p k)) = p.2 := bv_den
  have key : ∀ x y : Tm, (selB (aB n) (bv 0) (bv 1) x y).den (envV BB E (encB p k)) = if betB (offV E.fn n (svB E n) (tvB E n) (rowV ((rowB n).den E).list k)) p = true then x.den (envV BB E (encB p k)) else y.den (envV BB E (encB p k)) := fun x y => selB_den hA hb hl
  have hi : (Tm.op (.addi .i64) (bv 2) (.il 1)).den (envV BB E (encB p k)) = .i ((k + 1 : Nat) : Int) := by
    show Sc.i (IntKind.i64.wrap (((bv 2).den _).toI + 1)) = _
    rw [bv_den]
    show Sc.i (IntKind.i64.wrap ((k : Int) + 1)) = _
    rw [wg64 (by omega) (by omega)]
    rfl
  have h6' : (Tm.nth 0 (aB n)).den (envV BB E (encB p k)) = (offV E.fn n (svB E n) (tvB E n) (rowV ((rowB n).den E).list k)).at_ 0 := by
    show ((aB n).den _).at_ 0 = _
    rw [hA]
  have l0 : ∀ j, (bv j).den (envV BB E (encB p k)) = (encB p k).getD j .nil := fun j => bv_den
  simp only [nxB, List.map_cons, List.map_nil, key, hi, h6', l0]
  unfold stepB
  split <;> rfl
theorem condB {n : Nat} (h2 : 2 ≤ n) (h6 : n ≤ 6) {v : List Sc} : ((Tm.op .lti (bv 2) (lenB n)).den (envV BB E v)).toB = decide ((v.getD 2 .nil).toI < ((lenB n).den E).toI) := by
  show decide (((bv 2).den (envV BB E v)).toI < ((lenB n).den (envV BB E v)).toI) = _
  rw [bv_den, lenB_out h2 h6]
theorem SB_ends {n : Nat} (h2 : 2 ≤ n) (h6 : n ≤ 6) {v z : List Sc} (hr : Rounds (SB n) E v z) : ∀ k : Nat, (k : Int) ≤ ((lenB n).den E).toI → ((lenB n).den E).toI ≤ 500 → v = encB (iterB E n k) k →
    z = encB (iterB E n ((lenB n).den E).toI.toNat) ((lenB n).den E).toI.toNat := by
  induction hr with
  | stop _ hc =>
    intro k hk hl hv
    have h2' : ((Tm.op .lti (bv 2) (lenB n)).den (envV BB E _)).toB = false := hc
    rw [hv, condB h2 h6] at h2'
    have h3 : ¬ (k : Int) < ((lenB n).den E).toI := of_decide_eq_false h2'
    rw [hv, show ((lenB n).den E).toI.toNat = k by omega]
  | more _ hc _ ih =>
    intro k hk hl hv
    have h2' : ((Tm.op .lti (bv 2) (lenB n)).den (envV BB E _)).toB = true := hc
    rw [hv, condB h2 h6] at h2'
    have h3 : (k : Int) < ((lenB n).den E).toI := of_decide_eq_true h2'
    refine ih (k + 1) (by omega) hl ?_
    rw [hv]
    exact nxB_den h2 h6 (by omega)
theorem SB_post {n : Nat} (h2 : 2 ≤ n) (h6 : n ≤ 6) {v z : List Sc} (hr : Rounds (SB n) E v z) : (v.getD 0 .nil).toI < ((lenB n).den E).toI → (z.getD 0 .nil).toI < ((lenB n).den E).toI := by
  induction hr with
  | stop _ _ => exact fun h => h
  | more _ hc _ ih =>
    rename_i v z _ _
    intro h
    have h2' : ((Tm.op .lti (bv 2) (lenB n)).den (envV BB E v)).toB = true := hc
    rw [condB h2 h6] at h2'
    have h3 := of_decide_eq_true h2'
    refine ih ?_
    show ((selB (aB n) (bv 0) (bv 1) (bv 2) (bv 0)).den (envV BB E v)).toI < _
    have e0 : (bv 0).den (envV BB E v) = v.getD 0 .nil := bv_den
    have e2 : (bv 2).den (envV BB E v) = v.getD 2 .nil := bv_den
    rcases selB_or (E := envV BB E v) (A := aB n) (b := bv 0) (l := bv 1) (x := bv 2) (y := bv 0) with e | e
    · rw [e, e2]; exact h3
    · rw [e, e0]; exact h
theorem SB_law (hE : FokB E.fn) {n : Nat} (h2 : 2 ≤ n) (h6 : n ≤ 6) : LoopLaw (SB n) E :=
  loopN_law (m := q0 n + 17) (F := E.fn) (and_r (bcB h2 h6)) rfl rfl rfl (fun c => hE.ch.lp (memB h2 h6) c) (fun _ _ => rfl) fun v hv hp => by
    obtain ⟨z, hz, _⟩ := count_rounds (E := E) (and_l (bcB h2 h6)) v hv (fun p hm => hp p (.tail _ hm))
    have h4 : ((Tm.op .lei (lenB n) (.il 500)).den (envV BB E v)).toB = true := hp _ (.tail _ (.tail _ (.tail _ (.tail _ (.head _)))))
    have h5 : ((lenB n).den (envV BB E v)).toI ≤ 500 := of_decide_eq_true h4
    rw [lenB_out h2 h6] at h5
    have h0 : ((Tm.op .lti (bv 0) (lenB n)).den (envV BB E v)).toB = true := hp _ (.head _)
    have h1 : ((bv 0).den (envV BB E v)).toI < ((lenB n).den (envV BB E v)).toI := of_decide_eq_true h0
    rw [bv_den, lenB_out h2 h6] at h1
    have hl : z.length = 3 := (hz.length hv).trans hv
    have hz0 : (bv 0).den (envV BB E (z ++ v)) = z.getD 0 .nil := by rw [bv_den, List.getD, List.getElem?_append_left (by omega)]; rfl
    have hlt := SB_post h2 h6 hz h1
    refine ⟨z, hz, PcOk.cons (PcOk.cons (fun p hp => by cases hp) ?_) ?_⟩
    · show decide (((bv 0).den (envV BB E (z ++ v))).toI ≤ 500) = true
      rw [hz0]
      exact decide_eq_true (by omega)
    · show decide (((bv 0).den (envV BB E (z ++ v))).toI < ((lenB n).den (envV BB E (z ++ v))).toI) = true
      rw [hz0, lenB_out h2 h6]
      exact decide_eq_true hlt
/-- The two loops go alike. -/
structure RelB (L : List Sc) (s : LSt) (p : Int × Sc) (k : Nat) : Prop where
  f : s.f = !decide (p.1 < 0)
  l : s.l = p.2
  lo : -1 ≤ p.1
  hi : p.1 < k
  row : 0 ≤ p.1 → s.b = rowV L p.1.toNat
  zero : p.1 < 0 → s.b = fun _ => .i 0
theorem relB {n : Nat} : ∀ k, RelB ((rowB n).den E).list (iterV E.fn n (svB E n) (tvB E n) ((rowB n).den E).list k) (iterB E n k) k
  | 0 => ⟨rfl, rfl, Int.le_refl _, by show (-1 : Int) < 0; decide, fun h => absurd h (by show ¬ (0 : Int) ≤ -1; decide), fun _ => rfl⟩
  | k + 1 => by
    have ih := relB (n := n) k
    simp only [iterV, iterB]
    generalize offV E.fn n (svB E n) (tvB E n) (rowV ((rowB n).den E).list k) = o at *
    generalize iterV E.fn n (svB E n) (tvB E n) ((rowB n).den E).list k = s at *
    generalize iterB E n k = p at *
    have eb : betterV o s = betB o p := by
      unfold betterV betB
      rw [ih.f, ih.l, Bool.not_not]
    unfold stepV stepB
    rw [eb]
    split
    · exact ⟨by show true = !decide ((k : Int) < 0); rw [decide_eq_false (by omega)]; rfl, rfl, by show (-1 : Int) ≤ k; omega, by show (k : Int) < (k + 1 : Nat); omega, fun _ => rfl, fun h => absurd h (by show ¬ (k : Int) < 0; omega)⟩
    · exact ⟨ih.f, ih.l, ih.lo, by have := ih.hi; omega, ih.row, ih.zero⟩
theorem lb_den (hE : FokB E.fn) {n : Nat} (h2 : 2 ≤ n) (h6 : n ≤ 6) (h0 : 0 ≤ ((lenB n).den E).toI) (hl : ((lenB n).den E).toI ≤ 500) : ∀ j, j < 3 → (Tm.nth j (lbT n)).den E = (encB (iterB E n ((lenB n).den E).toI.toNat) ((lenB n).den E).toI.toNat).getD j .nil := by
  have hp : PcOk (envV BB E (inB.map (Tm.den E))) ((SB n).pre) := by
    have hv : ∀ j, (bv j).den (envV BB E (inB.map (Tm.den E))) = (inB.map (Tm.den E)).getD j .nil := fun j => bv_den
    refine PcOk.cons (PcOk.cons (PcOk.cons (PcOk.cons (PcOk.cons (fun p hp => by cases hp) ?_) ?_) ?_) ?_) ?_
    · show decide (((lenB n).den (envV BB E _)).toI ≤ 500) = true
      rw [lenB_out h2 h6]; exact decide_eq_true hl
    · show decide (0 ≤ ((lenB n).den (envV BB E _)).toI) = true
      rw [lenB_out h2 h6]; exact decide_eq_true h0
    · show decide (((bv 2).den (envV BB E _)).toI ≤ ((lenB n).den (envV BB E _)).toI) = true
      rw [hv, lenB_out h2 h6]; exact decide_eq_true h0
    · show decide ((0 : Int) ≤ ((bv 2).den (envV BB E (inB.map (Tm.den E)))).toI) = true
      rw [hv]; rfl
    · show decide (((bv 0).den (envV BB E _)).toI < ((lenB n).den (envV BB E _)).toI) = true
      rw [hv, lenB_out h2 h6]; exact decide_eq_true (show (-1 : Int) < _ by omega)
  have hr := (SB_law hE h2 h6 (inB.map (Tm.den E)) rfl hp).1
  have hf := SB_ends h2 h6 hr 0 h0 hl rfl
  intro j hj
  rw [← hf]
  show (E.fn (5300 + n) ((consT (varsL (q0 n + 17) 0 ++ inB)).den E)).at_ j = (Go.Sx.finOf E.fn (5300 + n) ((varsL (q0 n + 17) 0).map (Tm.den E)) (inB.map (Tm.den E))).getD j .nil
  unfold Go.Sx.finOf
  rw [consT_den, List.map_append, List.getD, List.getElem?_map, List.getElem?_range (by simpa [inB] using hj)]
  rfl
/-- The program's least is what the model's loop says. -/
theorem cells_eq (hE : FokB E.fn) {n : Nat} (h2 : 2 ≤ n) (h6 : n ≤ 6) {pc : PC} (hp : PcOk E pc) (h0 : 0 ≤ ((lenB n).den E).toI) (hl : ((lenB n).den E).toI ≤ 500) :
    (∀ j, j < 6 → (Tm.nth j (loA n)).den E = (cellB n pc j).den E) ∧ (Tm.nth 6 (loA n)).den E = (Tm.nth 1 (lbT n)).den E ∧ (Tm.nth 7 (loA n)).den E = (foundB n).den E := by
  have hlo := lo_den hE.o (by omega) h6 (ts := shL n ++ (lenB n :: rowB n :: varsL 16 (q0 n))) (by simp [varsL_length, shL_len]) (len := (lenB n).den E) (rows := (rowB n).den E) (sv := svB E n) (tv := tvB E n) (by simp [svB, tvB]) (by simp [svB, shL_len]) h0 (by omega)
  have hlb := lb_den hE h2 h6 h0 hl
  have hr := relB (E := E) (n := n) ((lenB n).den E).toI.toNat
  generalize hs : iterV E.fn n (svB E n) (tvB E n) ((rowB n).den E).list ((lenB n).den E).toI.toNat = s at *
  generalize hpp : iterB E n ((lenB n).den E).toI.toNat = p at *
  have hb : (Tm.nth 0 (lbT n)).den E = .i p.1 := hlb 0 (by decide)
  have ht : ((Tm.op .lti (.nth 0 (lbT n)) (.il 0)).den E).toB = decide (p.1 < 0) := by
    show decide (((Tm.nth 0 (lbT n)).den E).toI < 0) = _
    rw [hb]; rfl
  have hcell : ∀ j : Nat, 0 ≤ p.1 → (cellT (rowB n) (.nth 0 (lbT n)) 6 j).den E = rowV ((rowB n).den E).list p.1.toNat j := fun j h => by
    show cellOf ((rowB n).den E).list (.cons ((Tm.nth 0 (lbT n)).den E) (.cons (.i 6) (.cons (.i j) .nil))) = _
    rw [hb]
    show cellOf _ (.cons (.i p.1) _) = cellOf _ (.cons (.i (p.1.toNat : Int)) _)
    rw [Int.toNat_of_nonneg h]
  refine ⟨fun j hj => ?_, ?_, ?_⟩
  · have e : (Tm.nth j (loA n)).den E = s.b j := by
      refine (hlo j (by omega)).trans ?_
      match j, hj with
      | 0, _ | 1, _ | 2, _ | 3, _ | 4, _ | 5, _ => rfl
    rw [e]
    unfold cellB
    split
    · rename_i hd
      have := decB_ok hp _ hd
      rw [ht] at this
      rw [hr.zero (of_decide_eq_true this)]; rfl
    · rename_i hd
      have := decB_ok hp _ hd
      rw [ht] at this
      have h := of_decide_eq_false this
      rw [hcell j (by omega), hr.row (by omega)]
    · show s.b j = if ((Tm.op .lti (.nth 0 (lbT n)) (.il 0)).den E).toB = true then Sc.i 0 else (cellT (rowB n) (.nth 0 (lbT n)) 6 j).den E
      by_cases h : p.1 < 0
      · rw [if_pos (by rw [ht]; exact decide_eq_true h), hr.zero h]
      · rw [if_neg (by rw [ht, decide_eq_false h]; decide), hr.row (by omega)]
        exact (hcell j (by omega)).symm
  · refine (hlo 6 (by decide)).trans ?_
    rw [hlb 1 (by decide)]
    exact hr.l
  · refine (hlo 7 (by decide)).trans ?_
    show Sc.b s.f = Sc.b (!((Tm.op .lti (.nth 0 (lbT n)) (.il 0)).den E).toB)
    rw [ht, hr.f]
theorem fixR_pc {n : Nat} {r : Res} : (fixR n r).pc = r.pc ∧ (fixR n r).nb = r.nb ∧ (fixR n r).nxt = r.nxt := by
  unfold fixR
  split <;> exact ⟨rfl, rfl, rfl⟩
theorem fixR_rep (hE : FokB E.fn) {n : Nat} (h2 : 2 ≤ n) (h6 : n ≤ 6) {r : Res} {β : Pl} {v : Value} (hp : PcOk E r.pc) (h : SV.rep E β r.v v) : SV.rep E β (fixR n r).v v := by
  unfold fixR
  split
  · rename_i hb d1 d2
    have k1 := of_decide_eq_true (decB_ok hp _ d1)
    have k2 := of_decide_eq_true (decB_ok hp _ d2)
    rw [SV.beq_eq _ _ hb] at h
    obtain ⟨c1, c2, c3⟩ := cells_eq hE h2 h6 hp k1 k2
    have e0 := c1 0 (by decide)
    have e1 := c1 1 (by decide)
    have e2 := c1 2 (by decide)
    have e3 := c1 3 (by decide)
    have e4 := c1 4 (by decide)
    have e5 := c1 5 (by decide)
    simp only [oldB, newB, SV.rep, SV.reps, e0, e1, e2, e3, e4, e5, c2, c3] at h ⊢
    exact h
  · exact h
theorem fixB_ok (hE : FokB E.fn) {n : Nat} (h2 : 2 ≤ n) (h6 : n ≤ 6) {f : Nat} {S : Sum} (hS : SumOk Tryz.prog E f S) : SumOk Tryz.prog E f (fixB n S) := by
  intro args m pc r hr β w vals g1 g2 g3 g4 hp
  unfold fixB at hr
  obtain ⟨r0, h0, h1⟩ := Out.sel_bind_some hr
  simp only [Out.sel, Option.some.injEq] at h1
  subst h1
  obtain ⟨q1, q2, q3, q4⟩ := hS args m pc r0 h0 β w vals g1 g2 g3 g4 hp
  obtain ⟨f1, f2, f3⟩ := fixR_pc (n := n) (r := r0)
  refine ⟨by rw [f1]; exact q1, by rw [f3]; exact q2, q3, q4.mono fun e w' ⟨v, β', he, hv, hst⟩ => ⟨v, β', he, fixR_rep hE h2 h6 q1 hv, ?_⟩⟩
  rw [f2, f3]
  exact hst
theorem fixB_pc {n : Nat} {S : Sum} (hS : ∀ args m pc, PcOk E pc → Pcs E Res.pc (S args m pc)) (args : List SV) (m : Mm) (pc : PC) (hp : PcOk E pc) : Pcs E Res.pc (fixB n S args m pc) := by
  unfold fixB
  exact Pcs.bind (hS args m pc hp) fun r hr => .ret (by rw [fixR_pc.1]; exact hr)
theorem loX_ok (hE : FokO E.fn) : SumOk Tryz.prog E 35 loX := dispA_ok (fun _ _ n hn => loC_ok hE n (shArgL_ok hn).1 (shArgL_ok hn).2) (elDD_ok hE 35)
theorem loX_pc (hE : FokO E.fn) : ∀ args m pc, PcOk E pc → Pcs E Res.pc (loX args m pc) := dispA_pc (fun _ _ n _ => loC_pc hE n) (elDD_pc hE 35)
theorem cxLo_okF (hE : FokO E.fn) : CtxOk Tryz.prog E cxLo ∧ CtxPc E cxLo := ctxL_cons (cxD_okF hE.l) (loX_ok hE) (loX_pc hE)
def cxB1 (n : Nat) : Ctx := withLoops cxLo Tryz.prog 1000 [(9, SB n)]
def cxB2 (n : Nat) : Ctx := ctxL ((35, fixB n loX) :: lD)
def cxBn (n : Nat) : Ctx := ctxL ((14, redA (call cxLo Tryz.prog 1000 14)) :: (13, redA (call cxLo Tryz.prog 1000 13)) :: (18, redR (call (cxB1 n) Tryz.prog 1000 18)) :: (19, redR (call (cxB2 n) Tryz.prog 1000 19)) :: lLo)
def cxB0 : Ctx := ctxL ((14, redA (call cxLo Tryz.prog 1000 14)) :: (13, redA (call cxLo Tryz.prog 1000 13)) :: (18, redR (call cxLo Tryz.prog 1000 18)) :: (19, redR (call cxLo Tryz.prog 1000 19)) :: lLo)
theorem cxB1_ok (hE : FokB E.fn) {n : Nat} (h2 : 2 ≤ n) (h6 : n ≤ 6) : CtxOk Tryz.prog E (cxB1 n) ∧ CtxPc E (cxB1 n) :=
  withLoops_ok (fun E' h => cxLo_okF (by rw [h]; exact hE.o)) nm mixed fun q S hS => by
    simp only [List.mem_cons, Prod.mk.injEq, List.not_mem_nil, or_false] at hS
    obtain ⟨_, rfl⟩ := hS
    exact SB_law hE h2 h6
theorem cxB2_ok (hE : FokB E.fn) {n : Nat} (h2 : 2 ≤ n) (h6 : n ≤ 6) : CtxOk Tryz.prog E (cxB2 n) ∧ CtxPc E (cxB2 n) := ctxL_cons (cxD_okF hE.o.l) (fixB_ok hE h2 h6 (loX_ok hE.o)) (fixB_pc (loX_pc hE.o))
theorem cxBn_ok (hE : FokB E.fn) {n : Nat} (h2 : 2 ≤ n) (h6 : n ≤ 6) : CtxOk Tryz.prog E (cxBn n) ∧ CtxPc E (cxBn n) := by
  have h1 := cxB1_ok hE h2 h6
  have h3 := cxB2_ok hE h2 h6
  have h0 := cxLo_okF hE.o
  exact ctxL_cons (ctxL_cons (ctxL_cons (ctxL_cons h0 (redR_ok (call_ok h3.1 h3.2 nm mixed 1000 19)) (redR_pc (call_pc h3.2 1000 19))) (redR_ok (call_ok h1.1 h1.2 nm mixed 1000 18)) (redR_pc (call_pc h1.2 1000 18)))
    (redA_ok (call_ok h0.1 h0.2 nm mixed 1000 13)) (redA_pc (call_pc h0.2 1000 13))) (redA_ok (call_ok h0.1 h0.2 nm mixed 1000 14)) (redA_pc (call_pc h0.2 1000 14))
theorem cxB0_ok (hE : FokB E.fn) : CtxOk Tryz.prog E cxB0 ∧ CtxPc E cxB0 := by
  have h0 := cxLo_okF hE.o
  exact ctxL_cons (ctxL_cons (ctxL_cons (ctxL_cons h0 (redR_ok (call_ok h0.1 h0.2 nm mixed 1000 19)) (redR_pc (call_pc h0.2 1000 19))) (redR_ok (call_ok h0.1 h0.2 nm mixed 1000 18)) (redR_pc (call_pc h0.2 1000 18)))
    (redA_ok (call_ok h0.1 h0.2 nm mixed 1000 13)) (redA_pc (call_pc h0.2 1000 13))) (redA_ok (call_ok h0.1 h0.2 nm mixed 1000 14)) (redA_pc (call_pc h0.2 1000 14))
def cxBw (w : Nat) : Ctx := match Nat.ble 3 w, Nat.ble w 7 with | true, true => cxBn (w - 1) | _, _ => cxB0
theorem cxBw_ok (hE : FokB E.fn) (w : Nat) : CtxOk Tryz.prog E (cxBw w) ∧ CtxPc E (cxBw w) := by
  unfold cxBw
  split
  · rename_i h1 h2
    exact cxBn_ok hE (by have := Nat.le_of_ble_eq_true h1; omega) (by have := Nat.le_of_ble_eq_true h2; omega)
  · exact cxB0_ok hE
end
end Go.Proofs.YtfdpcmijifdfeaaGreat.Leaf
namespace Go.Proofs.YtfdpcmijifdfeaaGreat.LeafB
open Go.Sx
theorem F2_900 : ∀ c, Leaf.FB 900 c = F900 c := Leaf.FokB_FB.o.l.g.rows
end Go.Proofs.YtfdpcmijifdfeaaGreat.LeafB
