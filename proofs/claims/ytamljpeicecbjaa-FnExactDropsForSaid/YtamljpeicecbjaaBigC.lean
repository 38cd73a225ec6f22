/- Long slices of pigments: the contracts of the laws' own functions. No condition. -/
import Derived.Test.YtamljpeicecbjaaBigTo
namespace Go.Proofs.Ytamljpeicecbjaa.Leaf
open Go.RowKit Go.Sx
set_option linter.unusedVariables false
set_option linter.unusedSimpArgs false
set_option maxRecDepth 100000
def f16 : List SK := times [.float .f32] 16
def pgs : List SK := .str :: (f16 ++ f16 ++ [.int .i64])
theorem pgs_len : pgs.length = 34 := rfl
def snd : Sc → Sc
  | .cons _ c => c
  | _ => .nil
def cellSc (l : List Sc) (k q : Nat) : Sc := snd (l.getD (k * 34 + q) .nil)
theorem rep_one {k : SK} {c : Sc} {v : Value} (h : k.rep c v) : v.oneCell' = true := by
  cases k <;> simp only [SK.rep] at h
  · rw [h]; rfl
  · rw [h]; rfl
  · obtain ⟨x, hx, _⟩ := h; rw [hx]; rfl
  · rw [h]; rfl
/-- A row of values that stand for the cells of row k. -/
def Good (l : List Sc) (k : Nat) (cs : Array Value) : Prop := cs.size = 34 ∧ ∀ (q : Nat) (kd : SK) (u : Value), pgs[q]? = some kd → cs[q]? = some u → kd.rep (cellSc l k q) u
theorem good_fits {l : List Sc} (k : Nat) (cs : Array Value) (h : Good l k cs) : cs.size = 34 ∧ ∀ x ∈ cs.toList, x.oneCell' = true := by
  refine ⟨h.1, fun x hx => ?_⟩
  obtain ⟨q, hq⟩ := List.getElem?_of_mem hx
  rw [Array.getElem?_toList] at hq
  have hlt : q < 34 := by have h1 := (Array.getElem?_eq_some_iff.1 hq).1; have h2 := h.1; omega
  exact rep_one (h.2 q (pgs[q]'(by rw [pgs_len]; exact hlt)) x (List.getElem?_eq_getElem _) hq)
noncomputable def rowOf (w : World) (b off k : Nat) : Array Value := ((List.range 34).map fun q => (w.cell? ⟨b, off + k * 34 + q, none⟩).getD .nilFunc).toArray
def kSc : List Sc := pgs.map fun k => Sc.i k.n
/-- The rows of a block that only contracts look at. -/
theorem rows_of {w : World} {b : Bs} {n : Nat} (hg : GenOk b w) (hr : RowsOk kSc n b.val) {k : Nat} (hk : k < n) :
    Good b.val k (rowOf w b.blk b.off k) ∧ ∀ (q : Nat) (u : Value), (rowOf w b.blk b.off k)[q]? = some u → w.cell? ⟨b.blk, b.off + k * 34 + q, none⟩ = some u := by
  have hlen : b.val.length = n * 34 := by
    have := hr.1
    have e : kSc.length = 34 := rfl
    rw [e] at this
    omega
  have each : ∀ q, q < 34 → ∃ v kd, w.cell? ⟨b.blk, b.off + k * 34 + q, none⟩ = some v ∧ pgs[q]? = some kd ∧ kd.rep (cellSc b.val k q) v := by
    intro q hq
    have hi : k * 34 + q < b.val.length := by omega
    have hx : b.val[k * 34 + q]? = some (b.val[k * 34 + q]) := List.getElem?_eq_getElem hi
    obtain ⟨v, h1, h2, kd, c, h3, h4⟩ := hg _ _ hx
    obtain ⟨c', h5⟩ := hr.2 _ _ hx
    have e : kSc.length = 34 := rfl
    rw [e, show (k * 34 + q) % 34 = q by omega] at h5
    have hp : pgs[q]? = some (pgs[q]'(by rw [pgs_len]; exact hq)) := List.getElem?_eq_getElem _
    have h6 : kSc.getD q .nil = .i (pgs[q]'(by rw [pgs_len]; exact hq)).n := by
      simp only [kSc, List.getD, List.getElem?_map, hp, Option.map_some, Option.getD_some]
    rw [h6] at h5
    rw [h3] at h5
    simp only [Sc.cons.injEq, Sc.i.injEq, Int.natCast_inj] at h5
    have hkd := SK.n_inj h5.1
    refine ⟨v, kd, by rw [Nat.add_assoc]; exact h1, by rw [hp, hkd], ?_⟩
    have : cellSc b.val k q = c := by
      simp only [cellSc, List.getD, hx, Option.getD_some]
      rw [h3]; rfl
    rw [this]; exact h4
  have get : ∀ q u, (rowOf w b.blk b.off k)[q]? = some u → q < 34 ∧ w.cell? ⟨b.blk, b.off + k * 34 + q, none⟩ = some u := by
    intro q u hu
    simp only [rowOf, List.getElem?_toArray, List.getElem?_map, Option.map_eq_some_iff] at hu
    obtain ⟨q', hq', hu⟩ := hu
    obtain ⟨hlt, rfl⟩ := List.getElem?_eq_some_iff.1 hq'
    simp only [List.length_range] at hlt
    simp only [List.getElem_range] at hu
    obtain ⟨v, _, h1, _⟩ := each q hlt
    rw [h1] at hu
    simp only [Option.getD_some] at hu
    subst hu
    exact ⟨hlt, h1⟩
  refine ⟨⟨by simp [rowOf], fun q kd u hq hu => ?_⟩, fun q u hu => (get q u hu).2⟩
  obtain ⟨hlt, hc⟩ := get q u hu
  obtain ⟨v, kd', h1, h2, h3⟩ := each q hlt
  rw [hc] at h1
  cases h1
  rw [hq] at h2
  cases h2
  exact h3
theorem load_row {w w' : World} {b off k t : Nat} {R : Array Value} (ha : aggT Try.prog t = some true) (hn : szT Try.prog t = some 34) (hs : R.size = 34) (hb : b < w.heap.size) (hbel : Below w.heap.size w w')
    (h : ∀ (q : Nat) (u : Value), R[q]? = some u → w.cell? ⟨b, off + k * 34 + q, none⟩ = some u) : (loadVar t ⟨b, off + k * 34, none⟩).run Try.prog w' = .ok (.agg R) w' := by
  have := run_loadCells_list (P := Try.prog) w' ⟨b, off + k * 34, none⟩ R.toList (fun j v hv => by
    rw [add_at]
    rw [Array.getElem?_toList] at hv
    exact (hbel.cell (p := ⟨b, off + k * 34 + j, none⟩) hb).trans (h j v hv))
  rw [Array.length_toList, hs] at this
  unfold loadVar
  simp [aggT_run ha, szT_run hn, this]
def cx0 : Ctx := ctxL []
theorem cx0_ok (E : Env) : CtxOk Try.prog E cx0 ∧ CtxPc E cx0 := ctxL_nil
/-- An environment for row k. -/
def envK (l : List Sc) (k : Nat) (x : Int) : Env := ⟨fun i => if i = 34 then .i x else cellSc l k i, fun _ _ => .nil⟩
theorem good_reps {l : List Sc} {k : Nat} {x : Int} {cs : Array Value} {β : Pl} (h : Good l k cs) : SV.reps (envK l k x) β (sym pgs 0) cs.toList :=
  sym_reps pgs 0 _ (by rw [pgs_len, Array.length_toList, h.1]) fun i kd v hk hv => by
    rw [Array.getElem?_toList] at hv
    have hlt : i < 34 := by have := (List.getElem?_eq_some_iff.1 hk).1; rw [pgs_len] at this; exact this
    simp only [envK, Nat.zero_add]
    rw [if_neg (by omega)]
    exact h.2 i kd v hk hv
theorem reps_good {l : List Sc} {k : Nat} {x : Int} {cs : Array Value} {β : Pl} (h : SV.reps (envK l k x) β (sym pgs 0) cs.toList) : Good l k cs := by
  have hlen : cs.toList.length = (sym pgs 0).length := reps_length h
  refine ⟨by rw [Array.length_toList] at hlen; exact hlen, fun q kd u hq hu => ?_⟩
  have hlt : q < 34 := by have := (List.getElem?_eq_some_iff.1 hq).1; rw [pgs_len] at this; exact this
  have key : ∀ (ks : List SK) (n q : Nat) (kd : SK), ks[q]? = some kd → (sym ks n)[q]? = some (.sc kd (.var (n + q))) := by
    intro ks
    induction ks with
    | nil => intro n q kd h; simp at h
    | cons k ks ih =>
      intro n q kd h
      cases q with
      | zero => simp at h; subst h; rfl
      | succ q =>
        simp only [sym, List.getElem?_cons_succ]
        rw [ih (n + 1) q kd (by simpa using h), show n + 1 + q = n + (q + 1) by omega]
  obtain ⟨v, hv, hrep⟩ := reps_get h (key pgs 0 q kd hq)
  rw [Array.getElem?_toList, hu] at hv
  cases hv
  simp only [SV.rep, Tm.den, envK, Nat.zero_add] at hrep
  rw [if_neg (by omega)] at hrep
  exact hrep
theorem wrapEq (x : Int) : IntKind.i64.wrap x = wrap64 x := by rw [IntKind.wrap_i64]; unfold wrap64; rfl
def T33 : Tm := .ite (.op .lti (.op (.subi .i64) (.var 34) (.op .lens (.var 0) .nil)) (.il 0)) (.il (-1)) (.op (.subi .i64) (.var 34) (.op .lens (.var 0) .nil))
theorem k33 : retV (call cx0 Try.prog 100 33 [.agg (sym pgs 0), .sc (.int .i64) (.var 34)] mBare []) (.sc (.int .i64) T33) = true := by kernel_rfl
theorem k35 : retV (call cx0 Try.prog 1000 35 [.agg (sym pgs 0)] mBare []) (.agg (sym pgs 0)) = true := by kernel_rfl
theorem k192 : retE (call cx0 Try.prog 1000 192 [.agg (sym pgs 0), .agg (sym pgs 0)] mBare []) [] = true := by kernel_rfl
theorem sz1 {l : List Sc} {k : Nat} {cs : Array Value} (h : Good l k cs) (x : Int) (w : World) : Calls Try.prog 33 #[.agg cs, .int .i64 x] w fun e w' => e = .returned (.int .i64 (sz1F (cellSc l k 0).toS.length x)) ∧ Below w.heap.size w w' := by
  obtain ⟨r, hr, hv⟩ := retV_ok k33
  obtain ⟨_, _, _, hcalls⟩ := call_ok (cx0_ok _).1 (cx0_ok (envK l k x)).2 (named_of named) mixed 100 33 [.agg (sym pgs 0), .sc (.int .i64) (.var 34)] mBare [] r (by rw [hr]; rfl) (fun _ => none) w [.agg cs, .int .i64 x]
    (by simp only [reps_cons, reps_nil, SV.rep, SK.rep, Tm.den]; exact ⟨⟨cs, rfl, good_reps h⟩, by simp [envK], trivial⟩) (fun j sb h => by cases h) (fun _ _ _ => rfl) (by decide) (fun p hp => by cases hp)
  refine hcalls.mono fun e w' ⟨v, β', he, hv', hst⟩ => ⟨?_, hst.below⟩
  rw [hv] at hv'
  simp only [SV.rep, SK.rep] at hv'
  subst he; subst hv'
  have e0 : (envK l k x).v 0 = cellSc l k 0 := rfl
  have e34 : (envK l k x).v 34 = .i x := rfl
  simp only [T33, Tm.den, Opc.den, Sc.toI_i, Sc.toB_b, e0, e34, wrapEq, sz1F, decide_eq_true_eq]
  split <;> rfl
theorem to1 {l : List Sc} {k : Nat} {cs : Array Value} (h : Good l k cs) (w : World) : Calls Try.prog 35 #[.agg cs] w fun e w' => ∃ cs', e = .returned (.agg cs') ∧ Good l k cs' ∧ Below w.heap.size w w' := by
  obtain ⟨r, hr, hv⟩ := retV_ok k35
  obtain ⟨_, _, _, hcalls⟩ := call_ok (cx0_ok _).1 (cx0_ok (envK l k 0)).2 (named_of named) mixed 1000 35 [.agg (sym pgs 0)] mBare [] r (by rw [hr]; rfl) (fun _ => none) w [.agg cs]
    (by simp only [reps_cons, reps_nil, SV.rep]; exact ⟨⟨cs, rfl, good_reps h⟩, trivial⟩) (fun j sb h => by cases h) (fun _ _ _ => rfl) (by decide) (fun p hp => by cases hp)
  refine hcalls.mono fun e w' ⟨v, β', he, hv', hst⟩ => ?_
  rw [hv] at hv'
  simp only [SV.rep] at hv'
  obtain ⟨cs', rfl, hreps⟩ := hv'
  exact ⟨cs', he, reps_good hreps, hst.below⟩
theorem eq1 {l : List Sc} {k : Nat} {cs cs' : Array Value} (h : Good l k cs) (h' : Good l k cs') (w : World) : Calls Try.prog 192 #[.agg cs, .agg cs'] w fun e w' => e = .returned (.bool true) ∧ Below w.heap.size w w' := by
  have hk := k192
  unfold retE at hk
  split at hk
  · rename_i r hr
    split at hk
    · rename_i T hT
      obtain ⟨_, _, _, hcalls⟩ := call_ok (cx0_ok _).1 (cx0_ok (envK l k 0)).2 (named_of named) mixed 1000 192 [.agg (sym pgs 0), .agg (sym pgs 0)] mBare [] r (by rw [hr]; rfl) (fun _ => none) w [.agg cs, .agg cs']
        (by simp only [reps_cons, reps_nil, SV.rep]; exact ⟨⟨cs, rfl, good_reps h⟩, ⟨cs', rfl, good_reps h'⟩, trivial⟩) (fun j sb h => by cases h) (fun _ _ _ => rfl) (by decide) (fun p hp => by cases hp)
      refine hcalls.mono fun e w' ⟨v, β', he, hv', hst⟩ => ⟨?_, hst.below⟩
      rw [hT] at hv'
      simp only [SV.rep, SK.rep] at hv'
      rw [prove_ok (E := envK l k 0) _ (fun p hp => by cases hp) hk] at hv'
      subst hv'
      exact he
    · cases hk
  · cases hk
end Go.Proofs.Ytamljpeicecbjaa.Leaf
