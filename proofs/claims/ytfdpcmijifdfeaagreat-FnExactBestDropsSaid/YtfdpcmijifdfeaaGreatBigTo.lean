/- Long slices of pigments: the copy. No condition. -/
import Derived.Test.YtfdpcmijifdfeaaGreatBig
import Derived.Laws.MakeOwn
namespace Go.Proofs.YtfdpcmijifdfeaaGreat.Leaf
open Go.RowKit
set_option linter.unusedVariables false
set_option linter.unusedSimpArgs false
set_option maxRecDepth 100000
theorem wpList_store {P : Program} (w w' : World) {ops : Array Oper} {rest : List Oper} {o : Oper} {a : Act} {Q : Exit → Act → World → Prop}
    (hg : o.guard = none) (x y : Operand) (t : TypeId) (hop : o.op = Op.store t x y) (ad : Addr) (hx : a.eval x = .pointer (some ad)) (v : Value) (hy : a.eval y = v) (hv : (storeVar t ad v).run P w = .ok () w')
    (hK : wpList P ops Q rest (a.put o.dst undef) w') : wpList P ops Q (o :: rest) a w := by
  refine wpList_plain hg fun K hK' => ?_
  unfold Oper.wp
  have hexec : (execOp a.eval o).run P w = .ok .skip w' := by
    simp only [execOp, hop, Instr.storeAt, hx, Instr.sureAddr, Sem.run_bind, Sem.run_pure, Result.andThen_ok, hy, hv]
  rw [hexec]
  exact hK' _ _ hK
theorem wpList_make {P : Program} (w : World) {ops : Array Oper} {rest : List Oper} {o : Oper} {a : Act} {Q : Exit → Act → World → Prop}
    (hg : o.guard = none) (l c : Operand) (t : TypeId) (hop : o.op = Op.makeSlice t l c) (e : TypeId) (i : TypeInfo) (z : Value) (h1 : P.underlying t = some (.slice e)) (h2 : P.info? e = some i) (h3 : i.zero = some z)
    (n : Nat) (hl : a.eval l = .int .i64 (n : Int)) (hc : a.eval c = .int .i64 (n : Int)) (b2 : n * i.bytes ≤ 281474976710656) (b3 : n ≤ maxLen)
    (hK : ∀ arr : Array Value, arr.size = n * i.size → wpList P ops Q rest (a.put o.dst (.slice (some ⟨w.heap.size, 0, none⟩) n n)) (w.alloc (.cells arr e))) : wpList P ops Q (o :: rest) a w := by
  refine wpList_plain hg fun K hK' => ?_
  unfold Oper.wp
  have hrun := run_make (P := P) w t e i z h1 h2 h3 .i64 .i64 n n (by omega) (by omega) (by
    have hm : (i.bytes : Int) * (n : Int) = ((n * i.bytes : Nat) : Int) := by rw [Int.natCast_mul]; exact Int.mul_comm _ _
    rw [hm]; omega) (by unfold maxLen at b3; omega)
  simp only [Int.toNat_natCast] at hrun
  have hexec : (execOp a.eval o).run P w = .ok (.value (.slice (some ⟨w.heap.size, 0, none⟩) n n)) (w.alloc (.cells (madeCells z.cells (n * i.size)) e)) := by
    simp [execOp, hop, hl, hc, hrun]
  rw [hexec]
  exact hK' _ _ (hK _ (size_madeCells _ _))
theorem info30 : (Tryz.prog.info? 84).map (fun i => (i.zero, i.size, i.bytes)) = (Tryz.prog.info? 84).map (fun i => (i.zero, 34, 152)) := by kernel_rfl
theorem some30 : (match Tryz.prog.info? 84 with | some i => (match i.zero with | some z => Nat.beq i.size 34 && Nat.beq i.bytes 152 && Nat.beq z.cells.size 34 | none => false) | none => false) = true := by kernel_rfl
theorem under39 : Tryz.prog.underlying 34 = some (.slice 84) := by kernel_rfl
theorem sz30 : Go.Sx.szT Tryz.prog 84 = some 34 := by kernel_rfl
/-- What has been copied after k rounds. -/
def Copied (Good : Nat → Array Value → Prop) (arr : Array Value) (k : Nat) : Prop := ∀ j, j < k → ∃ cs, Good j cs ∧ ∀ (q : Nat) (u : Value), cs[q]? = some u → arr[j * 34 + q]? = some u
/-- The cells behind the store of one element. -/
def laid (arr cs : Array Value) (k : Nat) : Array Value := (arr.toList.take (k * 34) ++ (Value.agg cs).cells.toList ++ arr.toList.drop (k * 34 + 34)).toArray
theorem copied_step {Good : Nat → Array Value → Prop} (hgood : ∀ k cs, Good k cs → cs.size = 34 ∧ ∀ x ∈ cs.toList, x.oneCell' = true) {arr cs : Array Value} {k len : Nat} (h : Copied Good arr k) (hk : k < len) (hs : arr.size = len * 34) (hg : Good k cs) (hc : cs.size = 34) :
    (laid arr cs k).size = len * 34 ∧ Copied Good (laid arr cs k) (k + 1) := by
  unfold laid
  have hle : k * 34 + 34 ≤ len * 34 := by omega
  refine ⟨by simp [Value.cells, hc, hs]; omega, fun j hj => ?_⟩
  by_cases hjk : j = k
  · subst hjk
    refine ⟨cs, hg, fun q u hu => ?_⟩
    have hq : q < 34 := by have := (Array.getElem?_eq_some_iff.1 hu).1; omega
    rw [List.getElem?_toArray, List.append_assoc, List.getElem?_append_right (by simp; omega)]
    simp only [List.length_take, Array.length_toList, hs, Value.cells]
    rw [show j * 34 + q - min (j * 34) (len * 34) = q by omega, List.getElem?_append_left (by simp; omega), Array.getElem?_toList]
    exact hu
  · obtain ⟨cs', h1, h2⟩ := h j (by omega)
    refine ⟨cs', h1, fun q u hu => ?_⟩
    have h3 := h2 q u hu
    by_cases hq : j * 34 + q < k * 34
    · rw [List.getElem?_toArray, List.append_assoc, List.getElem?_append_left (by simp; omega), List.getElem?_take, if_pos hq, Array.getElem?_toList]
      exact h3
    · exfalso
      have h4 := (hgood j cs' h1).1
      have h5 := (Array.getElem?_eq_some_iff.1 hu).1
      omega
theorem store30 {w : World} {g k len : Nat} {arr cs : Array Value} (hc : cs.size = 34 ∧ ∀ x ∈ cs.toList, x.oneCell' = true) (hg : w.heap[g]? = some (.cells arr 84 (0, 0))) (hs : arr.size = len * 34) (hk : k < len) :
    (storeVar 84 ⟨g, k * 34, none⟩ (.agg cs)).run Tryz.prog w = .ok () (w.setRow g (laid arr cs k)) :=
  Go.Sx.storeVar_run (arr := arr) (e := 84) sz30 (by simpa [Value.cells] using hc.1) (by simpa [Value.cells] using hc.2) hg (by omega)
theorem setRow_below {B g : Nat} {w0 w : World} {cs : Array Value} (h : Below B w0 w) (hg : B ≤ g) : Below B w0 (w.setRow g cs) :=
  h.trans ⟨rfl, rfl, rfl, by simp [World.setRow], fun k hk => by
    simp only [World.setRow, Array.getElem?_modify]
    rw [if_neg (by omega)]⟩
theorem to_walk (b off len cap : Nat) (R : Nat → Array Value) (Good : Nat → Array Value → Prop) (hgood : ∀ k cs, Good k cs → cs.size = 34 ∧ ∀ x ∈ cs.toList, x.oneCell' = true) (w : World) (hlen : len ≤ cap) (hm : len ≤ 1048576) (hb : b < w.heap.size)
    (hload : ∀ k w', k < len → Below w.heap.size w w' → (loadVar 94 ⟨b, off + k * 34, none⟩).run Tryz.prog w' = .ok (.agg (R k)) w')
    (h1 : ∀ k w', k < len → Calls Tryz.prog 54 #[.agg (R k)] w' fun e w'' => ∃ cs, e = .returned (.agg cs) ∧ Good k cs ∧ Below w'.heap.size w' w'') :
    Calls Tryz.prog 29 #[.slice (some ⟨b, off, none⟩) len cap] w fun e w' => ∃ arr, e = .returned (.slice (some ⟨w.heap.size, 0, none⟩) len len) ∧ w'.heap[w.heap.size]? = some (.cells arr 84 (0, 0)) ∧ arr.size = len * 34 ∧ Copied Good arr len ∧ Below w.heap.size w w' := by
  have G1 : Hid (∀ k w', k < len → Calls Tryz.prog 54 #[.agg (R k)] w' fun e w'' => ∃ cs, e = .returned (.agg cs) ∧ Good k cs ∧ Below w'.heap.size w' w'') := h1
  have G2 : Hid (∀ k w', k < len → Below w.heap.size w w' → (loadVar 94 ⟨b, off + k * 34, none⟩).run Tryz.prog w' = .ok (.agg (R k)) w') := hload
  have G3 : Hid (∀ k cs, Good k cs → cs.size = 34 ∧ ∀ x ∈ cs.toList, x.oneCell' = true) := hgood
  clear h1 hload hgood
  obtain ⟨i0, z0, hi, hz, hsz, hby, hzs⟩ : ∃ i z, Tryz.prog.info? 84 = some i ∧ i.zero = some z ∧ i.size = 34 ∧ i.bytes = 152 ∧ z.cells.size = 34 := by
    have h := some30
    split at h
    · rename_i i hi
      split at h
      · rename_i z hz
        simp only [Bool.and_eq_true] at h
        exact ⟨i, z, hi, hz, Nat.eq_of_beq_eq_true h.1.1, Nat.eq_of_beq_eq_true h.1.2, Nat.eq_of_beq_eq_true h.2⟩
      · cases h
    · cases h
  have HI : Hid (Tryz.prog.info? 84 = some i0) := hi
  have HZ : Hid (i0.zero = some z0) := hz
  have HS : Hid (i0.size = 34) := hsz
  have HB : Hid (i0.bytes = 152) := hby
  clear hi hz hsz hby
  have hm3 : len ≤ maxLen := by unfold maxLen; omega
  go_enter Tryz.func29, Tryz.ntmps29
  clear hzs
  go_wp2_with (first | (refine wpList_make _ rfl _ _ 34 rfl 84 i0 z0 under39 HI.out HZ.out len rfl rfl (by rw [HB.out]; omega) hm3 ?_; intro arr0 harr0; rw [HS.out] at harr0) | go_in)
  go_loopw [4] (fun i wr => ∃ (k : Nat) (arr : Array Value), k ≤ len ∧ i = .int .i64 k ∧ wr.heap[w.heap.size]? = some (.cells arr 84 (0, 0)) ∧ arr.size = len * 34 ∧ Copied Good arr k ∧ Below w.heap.size w wr) (fun i _ => len - (intOf i).toNat)
  case atStart => exact ⟨0, arr0, Nat.zero_le _, rfl, Array.getElem?_push_size, harr0, fun j hj => by omega, (Below.refl _ _).alloc (Nat.le_refl _) _⟩
  case round =>
    obtain ⟨k, arr, hk, rfl, hh, hs, hcp, hbel⟩ := hrel
    have HH : Hid (wr.heap[w.heap.size]? = some (.cells arr 84 (0, 0)) ∧ arr.size = len * 34 ∧ Copied Good arr k) := ⟨hh, hs, hcp⟩
    have hwlt : w.heap.size < wr.heap.size := (Array.getElem?_eq_some_iff.1 hh).1
    clear hh hs hcp
    go_wp2_with (first | (refine wpList_load _ rfl _ 94 rfl ⟨b, off + k * 34, none⟩ rfl (.agg (R k)) (G2.out k _ (by assumption) hbel) ?_) | (go_at_call 54; refine (G1.out k _ (by assumption)).mono ?_; rintro e w' ⟨cs, rfl, hgd, hb'⟩) | (refine wpList_store _ _ rfl _ _ 84 rfl ⟨w.heap.size, k * 34, none⟩ rfl _ rfl (store30 (G3.out k _ hgd) ((hb'.block _ hwlt).trans HH.out.1) HH.out.2.1 (by assumption)) ?_) | go_in)
    · have hk' : k < len := by assumption
      have hst := copied_step G3.out HH.out.2.2 hk' HH.out.2.1 hgd (G3.out k _ hgd).1
      go_roundw
      case rel => exact ⟨k + 1, laid arr _ k, by omega, by go_num, setRow_heap _ _ arr _ _ _ ((hb'.block _ hwlt).trans HH.out.1), hst.1, hst.2, setRow_below (hbel.trans (hb'.mono hbel.size)) (Nat.le_refl _)⟩
      case measure => simp [intOf]; omega
    · go_ret
      have hkl : k = len := by omega
      exact ⟨arr, rfl, HH.out.1, HH.out.2.1, hkl ▸ HH.out.2.2, hbel⟩
end Go.Proofs.YtfdpcmijifdfeaaGreat.Leaf
namespace Go.Proofs.YtfdpcmijifdfeaaGreat.Leaf
open Go.RowKit Go.Sx
set_option linter.unusedVariables false
set_option linter.unusedSimpArgs false
set_option maxRecDepth 100000
def f16 : List SK := times [.float .f32] 16
def pgs : List SK := .str :: (f16 ++ f16 ++ [.int .i64])
theorem pgs_len : pgs.length = 34 := rfl
def snd : Sc → Sc
  | .cons _ c => c
  | _ => .nil
def cellSc (l : List Sc) (k q : Nat) : Sc := snd (l.getD (k * 34 + q) .nil)
theorem rep_one {k : SK} {c : Sc} {v : Value} (h : k.rep c v) : v.oneCell' = true := by
  cases k <;> simp only [SK.rep] at h
  · rw [h]; rfl
  · rw [h]; rfl
  · obtain ⟨x, hx, _⟩ := h; rw [hx]; rfl
  · rw [h]; rfl
/-- A row of values that stand for the cells of row k. -/
def Good (l : List Sc) (k : Nat) (cs : Array Value) : Prop := cs.size = 34 ∧ ∀ (q : Nat) (kd : SK) (u : Value), pgs[q]? = some kd → cs[q]? = some u → kd.rep (cellSc l k q) u
theorem good_fits {l : List Sc} (k : Nat) (cs : Array Value) (h : Good l k cs) : cs.size = 34 ∧ ∀ x ∈ cs.toList, x.oneCell' = true := by
  refine ⟨h.1, fun x hx => ?_⟩
  obtain ⟨q, hq⟩ := List.getElem?_of_mem hx
  rw [Array.getElem?_toList] at hq
  have hlt : q < 34 := by have h1 := (Array.getElem?_eq_some_iff.1 hq).1; have h2 := h.1; omega
  exact rep_one (h.2 q (pgs[q]'(by rw [pgs_len]; exact hlt)) x (List.getElem?_eq_getElem _) hq)
noncomputable def rowOf (w : World) (b off k : Nat) : Array Value := ((List.range 34).map fun q => (w.cell? ⟨b, off + k * 34 + q, none⟩).getD .nilFunc).toArray
def kSc : List Sc := pgs.map fun k => Sc.i k.n
/-- The rows of a block that only contracts look at. -/
theorem rows_of {w : World} {b : Bs} {n : Nat} (hg : GenOk b w) (hr : RowsOk kSc n b.val) {k : Nat} (hk : k < n) :
    Good b.val k (rowOf w b.blk b.off k) ∧ ∀ (q : Nat) (u : Value), (rowOf w b.blk b.off k)[q]? = some u → w.cell? ⟨b.blk, b.off + k * 34 + q, none⟩ = some u := by
  have hlen : b.val.length = n * 34 := by
    have := hr.1
    have e : kSc.length = 34 := rfl
    rw [e] at this
    omega
  have each : ∀ q, q < 34 → ∃ v kd, w.cell? ⟨b.blk, b.off + k * 34 + q, none⟩ = some v ∧ pgs[q]? = some kd ∧ kd.rep (cellSc b.val k q) v := by
    intro q hq
    have hi : k * 34 + q < b.val.length := by omega
    have hx : b.val[k * 34 + q]? = some (b.val[k * 34 + q]) := List.getElem?_eq_getElem hi
    obtain ⟨v, h1, h2, kd, c, h3, h4⟩ := hg _ _ hx
    obtain ⟨c', h5⟩ := hr.2 _ _ hx
    have e : kSc.length = 34 := rfl
    rw [e, show (k * 34 + q) % 34 = q by omega] at h5
    have hp : pgs[q]? = some (pgs[q]'(by rw [pgs_len]; exact hq)) := List.getElem?_eq_getElem _
    have h6 : kSc.getD q .nil = .i (pgs[q]'(by rw [pgs_len]; exact hq)).n := by
      simp only [kSc, List.getD, List.getElem?_map, hp, Option.map_some, Option.getD_some]
    rw [h6] at h5
    rw [h3] at h5
    simp only [Sc.cons.injEq, Sc.i.injEq, Int.natCast_inj] at h5
    have hkd := SK.n_inj h5.1
    refine ⟨v, kd, by rw [Nat.add_assoc]; exact h1, by rw [hp, hkd], ?_⟩
    have : cellSc b.val k q = c := by
      simp only [cellSc, List.getD, hx, Option.getD_some]
      rw [h3]; rfl
    rw [this]; exact h4
  have get : ∀ q u, (rowOf w b.blk b.off k)[q]? = some u → q < 34 ∧ w.cell? ⟨b.blk, b.off + k * 34 + q, none⟩ = some u := by
    intro q u hu
    simp only [rowOf, List.getElem?_toArray, List.getElem?_map, Option.map_eq_some_iff] at hu
    obtain ⟨q', hq', hu⟩ := hu
    obtain ⟨hlt, rfl⟩ := List.getElem?_eq_some_iff.1 hq'
    simp only [List.length_range] at hlt
    simp only [List.getElem_range] at hu
    obtain ⟨v, _, h1, _⟩ := each q hlt
    rw [h1] at hu
    simp only [Option.getD_some] at hu
    subst hu
    exact ⟨hlt, h1⟩
  refine ⟨⟨by simp [rowOf], fun q kd u hq hu => ?_⟩, fun q u hu => (get q u hu).2⟩
  obtain ⟨hlt, hc⟩ := get q u hu
  obtain ⟨v, kd', h1, h2, h3⟩ := each q hlt
  rw [hc] at h1
  cases h1
  rw [hq] at h2
  cases h2
  exact h3
theorem load_row {w w' : World} {b off k t : Nat} {R : Array Value} (ha : aggT Tryz.prog t = some true) (hn : szT Tryz.prog t = some 34) (hs : R.size = 34) (hb : b < w.heap.size) (hbel : Below w.heap.size w w')
    (h : ∀ (q : Nat) (u : Value), R[q]? = some u → w.cell? ⟨b, off + k * 34 + q, none⟩ = some u) : (loadVar t ⟨b, off + k * 34, none⟩).run Tryz.prog w' = .ok (.agg R) w' := by
  have := run_loadCells_list (P := Tryz.prog) w' ⟨b, off + k * 34, none⟩ R.toList (fun j v hv => by
    rw [add_at]
    rw [Array.getElem?_toList] at hv
    exact (hbel.cell (p := ⟨b, off + k * 34 + j, none⟩) hb).trans (h j v hv))
  rw [Array.length_toList, hs] at this
  unfold loadVar
  simp [aggT_run ha, szT_run hn, this]
def cx0 : Ctx := ctxL []
theorem cx0_ok (E : Env) : CtxOk Tryz.prog E cx0 ∧ CtxPc E cx0 := ctxL_nil
/-- An environment for row k. -/
def envK (l : List Sc) (k : Nat) (x : Int) : Env := ⟨fun i => if i = 34 then .i x else cellSc l k i, fun _ _ => .nil⟩
theorem good_reps {l : List Sc} {k : Nat} {x : Int} {cs : Array Value} {β : Pl} (h : Good l k cs) : SV.reps (envK l k x) β (sym pgs 0) cs.toList :=
  sym_reps pgs 0 _ (by rw [pgs_len, Array.length_toList, h.1]) fun i kd v hk hv => by
    rw [Array.getElem?_toList] at hv
    have hlt : i < 34 := by have := (List.getElem?_eq_some_iff.1 hk).1; rw [pgs_len] at this; exact this
    simp only [envK, Nat.zero_add]
    rw [if_neg (by omega)]
    exact h.2 i kd v hk hv
theorem reps_good {l : List Sc} {k : Nat} {x : Int} {cs : Array Value} {β : Pl} (h : SV.reps (envK l k x) β (sym pgs 0) cs.toList) : Good l k cs := by
  have hlen : cs.toList.length = (sym pgs 0).length := reps_length h
  refine ⟨by rw [Array.length_toList] at hlen; exact hlen, fun q kd u hq hu => ?_⟩
  have hlt : q < 34 := by have := (List.getElem?_eq_some_iff.1 hq).1; rw [pgs_len] at this; exact this
  have key : ∀ (ks : List SK) (n q : Nat) (kd : SK), ks[q]? = some kd → (sym ks n)[q]? = some (.sc kd (.var (n + q))) := by
    intro ks
    induction ks with
    | nil => intro n q kd h; simp at h
    | cons k ks ih =>
      intro n q kd h
      cases q with
      | zero => simp at h; subst h; rfl
      | succ q =>
        simp only [sym, List.getElem?_cons_succ]
        rw [ih (n + 1) q kd (by simpa using h), show n + 1 + q = n + (q + 1) by omega]
  obtain ⟨v, hv, hrep⟩ := reps_get h (key pgs 0 q kd hq)
  rw [Array.getElem?_toList, hu] at hv
  cases hv
  simp only [SV.rep, Tm.den, envK, Nat.zero_add] at hrep
  rw [if_neg (by omega)] at hrep
  exact hrep
theorem wrapEq (x : Int) : IntKind.i64.wrap x = wrap64 x := by rw [IntKind.wrap_i64]; unfold wrap64; rfl
def T33 : Tm := .ite (.op .lti (.op (.subi .i64) (.var 34) (.op .lens (.var 0) .nil)) (.il 0)) (.il (-1)) (.op (.subi .i64) (.var 34) (.op .lens (.var 0) .nil))
theorem k33 : retV (call cx0 Tryz.prog 100 50 [.agg (sym pgs 0), .sc (.int .i64) (.var 34)] mBare []) (.sc (.int .i64) T33) = true := by kernel_rfl
theorem k35 : retV (call cx0 Tryz.prog 1000 54 [.agg (sym pgs 0)] mBare []) (.agg (sym pgs 0)) = true := by kernel_rfl
theorem k192 : retE (call cx0 Tryz.prog 1000 59 [.agg (sym pgs 0), .agg (sym pgs 0)] mBare []) [] = true := by kernel_rfl
theorem sz1 {l : List Sc} {k : Nat} {cs : Array Value} (h : Good l k cs) (x : Int) (w : World) : Calls Tryz.prog 50 #[.agg cs, .int .i64 x] w fun e w' => e = .returned (.int .i64 (sz1F (cellSc l k 0).toS.length x)) ∧ Below w.heap.size w w' := by
  obtain ⟨r, hr, hv⟩ := retV_ok k33
  obtain ⟨_, _, _, hcalls⟩ := call_ok (cx0_ok _).1 (cx0_ok (envK l k x)).2 (named_of named) mixed 100 50 [.agg (sym pgs 0), .sc (.int .i64) (.var 34)] mBare [] r (by rw [hr]; rfl) (fun _ => none) w [.agg cs, .int .i64 x]
    (by simp only [reps_cons, reps_nil, SV.rep, SK.rep, Tm.den]; exact ⟨⟨cs, rfl, good_reps h⟩, by simp [envK], trivial⟩) (fun j sb h => by cases h) (fun _ _ _ => rfl) (by decide) (fun p hp => by cases hp)
  refine hcalls.mono fun e w' ⟨v, β', he, hv', hst⟩ => ⟨?_, hst.below⟩
  rw [hv] at hv'
  simp only [SV.rep, SK.rep] at hv'
  subst he; subst hv'
  have e0 : (envK l k x).v 0 = cellSc l k 0 := rfl
  have e34 : (envK l k x).v 34 = .i x := rfl
  simp only [T33, Tm.den, Opc.den, Sc.toI_i, Sc.toB_b, e0, e34, wrapEq, sz1F, decide_eq_true_eq]
  split <;> rfl
theorem to1 {l : List Sc} {k : Nat} {cs : Array Value} (h : Good l k cs) (w : World) : Calls Tryz.prog 54 #[.agg cs] w fun e w' => ∃ cs', e = .returned (.agg cs') ∧ Good l k cs' ∧ Below w.heap.size w w' := by
  obtain ⟨r, hr, hv⟩ := retV_ok k35
  obtain ⟨_, _, _, hcalls⟩ := call_ok (cx0_ok _).1 (cx0_ok (envK l k 0)).2 (named_of named) mixed 1000 54 [.agg (sym pgs 0)] mBare [] r (by rw [hr]; rfl) (fun _ => none) w [.agg cs]
    (by simp only [reps_cons, reps_nil, SV.rep]; exact ⟨⟨cs, rfl, good_reps h⟩, trivial⟩) (fun j sb h => by cases h) (fun _ _ _ => rfl) (by decide) (fun p hp => by cases hp)
  refine hcalls.mono fun e w' ⟨v, β', he, hv', hst⟩ => ?_
  rw [hv] at hv'
  simp only [SV.rep] at hv'
  obtain ⟨cs', rfl, hreps⟩ := hv'
  exact ⟨cs', he, reps_good hreps, hst.below⟩
theorem eq1 {l : List Sc} {k : Nat} {cs cs' : Array Value} (h : Good l k cs) (h' : Good l k cs') (w : World) : Calls Tryz.prog 59 #[.agg cs, .agg cs'] w fun e w' => e = .returned (.bool true) ∧ Below w.heap.size w w' := by
  have hk := k192
  unfold retE at hk
  split at hk
  · rename_i r hr
    split at hk
    · rename_i T hT
      obtain ⟨_, _, _, hcalls⟩ := call_ok (cx0_ok _).1 (cx0_ok (envK l k 0)).2 (named_of named) mixed 1000 59 [.agg (sym pgs 0), .agg (sym pgs 0)] mBare [] r (by rw [hr]; rfl) (fun _ => none) w [.agg cs, .agg cs']
        (by simp only [reps_cons, reps_nil, SV.rep]; exact ⟨⟨cs, rfl, good_reps h⟩, ⟨cs', rfl, good_reps h'⟩, trivial⟩) (fun j sb h => by cases h) (fun _ _ _ => rfl) (by decide) (fun p hp => by cases hp)
      refine hcalls.mono fun e w' ⟨v, β', he, hv', hst⟩ => ⟨?_, hst.below⟩
      rw [hT] at hv'
      simp only [SV.rep, SK.rep] at hv'
      rw [prove_ok (E := envK l k 0) _ (fun p hp => by cases hp) hk] at hv'
      subst hv'
      exact he
    · cases hk
  · cases hk
end Go.Proofs.YtfdpcmijifdfeaaGreat.Leaf
noncomputable section
namespace Go.Proofs.YtfdpcmijifdfeaaGreat.Leaf
open Go.RowKit Go.Sx
set_option linter.unusedVariables false
set_option linter.unusedSimpArgs false
set_option maxRecDepth 100000
/-- What szPigmentS answers, from the slice's length, its cells and what is left. -/
def szSc (c : Sc) : Sc := .i (szF (fun k => (cellSc (c.at_ 1).list k 0).toS.length) (c.at_ 0).toI.toNat 0 (wrap64 ((c.at_ 2).toI - (c.at_ 0).toI)))
def lim64 (n : Tm) : Tm := .op .lei n (.il 9223372036854775807)
def lim20 (n : Tm) : Tm := .op .lei n (.il 1048576)
def over (n : Tm) : Tm := .op .lti (.op (.subi .i64) (.il 1048576) n) (.il 0)
def szC : Sum := fun args m pc => match args with
  | [.os j n t, .sc (.int .i64) (.il (.ofNat L))] => match decB pc (rowsT pgs n t), decB pc (lim64 n), find m.mem j, Nat.ble L 1048576 with
    | some true, some true, some _, true =>
      .br (.op .lti (.op (.subi .i64) (.il (.ofNat L)) n) (.il 0)) (val m pc (.sc (.int .i64) (.il (-1)))) (val m ((lim20 n, true) :: pc) (.sc (.int .i64) (.app 1 (.cons n (.cons t (.cons (.il (.ofNat L)) .nil))))))
    | _, _, _, _ => .bad 330
  | _ => .bad 331
def toC : Sum := fun args m pc => match args with
  | [.os j n t] => match decB pc (rowsT pgs n t), decB pc (lim64 n), decB pc (over n), find m.mem j, Nat.blt m.nxt m.lim with
    | some true, some true, some false, some _, true => .ret ⟨.os m.nxt n t, [(m.nxt, ⟨[], none⟩)], m.nxt + 1, pc⟩
    | _, _, _, _, _ => .bad 332
  | _ => .bad 333
def eqC : Sum := fun args m pc => match args with
  | [.os j n t, .os j' n' t'] => match n.beq n', t.beq t', decB pc (rowsT pgs n t), decB pc (lim64 n), find m.mem j, find m.mem j' with
    | true, true, some true, some true, some _, some _ => val m pc (.sc .bool (.bl true))
    | _, _, _, _, _, _ => .bad 334
  | _ => .bad 335
section
variable {E : Env}
theorem rowsT_ok {pc : PC} (hF : ∀ c, E.fn 900 c = F900 c) (hp : PcOk E pc) {n t : Tm} (h : decB pc (rowsT pgs n t) = some true) : RowsOk kSc (n.den E).toI (t.den E).list := by
  have h1 := decB_ok hp _ h
  simp only [rowsT, Tm.den, hF, F900, Sc.toB_b] at h1
  have h2 := @of_decide_eq_true _ (Classical.propDecidable _) h1
  simp only [Sc.at_zero, Sc.at_succ] at h2
  rw [ksT_den] at h2
  exact h2.1
theorem rowsT_str {pc : PC} (hF : ∀ c, E.fn 900 c = F900 c) (hp : PcOk E pc) {n t : Tm} (h : decB pc (rowsT pgs n t) = some true) : StrOk (t.den E).list := by
  have h1 := decB_ok hp _ h
  simp only [rowsT, Tm.den, hF, F900, Sc.toB_b] at h1
  have h2 := @of_decide_eq_true _ (Classical.propDecidable _) h1
  simp only [Sc.at_zero, Sc.at_succ] at h2
  exact h2.2
/-- A long slice, its rows as they lie in memory. -/
theorem os_rows {pc : PC} {β : Pl} {w : World} {mem : Mem} {j : Nat} {n t : Tm} {sb : SB} {v : Value} (hF : ∀ c, E.fn 900 c = F900 c) (hp : PcOk E pc) (hm : Reads E β mem w) (h : decB pc (rowsT pgs n t) = some true) (hf : find mem j = some sb) (hv : SV.rep E β (.os j n t) v) :
    ∃ b l c, β j = some b ∧ v = .slice (some ⟨b.blk, b.off, none⟩) l c ∧ l ≤ c ∧ (l : Int) = (n.den E).toI ∧ b.val = (t.den E).list ∧ b.blk < w.heap.size ∧
      ∀ k, k < l → Good b.val k (rowOf w b.blk b.off k) ∧ ∀ (q : Nat) (u : Value), (rowOf w b.blk b.off k)[q]? = some u → w.cell? ⟨b.blk, b.off + k * 34 + q, none⟩ = some u := by
  simp only [SV.rep] at hv
  obtain ⟨b, l, c, hb, hv, hlc, hln, hval⟩ := hv
  obtain ⟨b', hb', hreads⟩ := hm j sb (find_mem hf)
  rw [hb] at hb'; cases hb'
  have hrows := rowsT_ok hF hp h
  rw [← hln, ← hval] at hrows
  refine ⟨b, l, c, hb, hv, hlc, hln, hval, hreads.1, fun k hk => ?_⟩
  rcases hreads.3 with he | ⟨_, hg⟩
  · exfalso
    have := hrows.1
    rw [he] at this
    have e : kSc.length = 34 := rfl
    rw [e] at this
    simp at this
    omega
  · exact rows_of hg hrows hk
theorem a25 : aggT Tryz.prog 94 = some true := by kernel_rfl
theorem a30 : aggT Tryz.prog 84 = some true := by kernel_rfl
theorem s25 : szT Tryz.prog 94 = some 34 := by kernel_rfl
theorem szC_ok (hF : ∀ c, E.fn 900 c = F900 c) (h1 : ∀ c, E.fn 1 c = szSc c) : SumOk Tryz.prog E 24 szC := by
  intro args m pc r hr β w vals hreps hm hfr hl hp
  unfold szC at hr
  split at hr
  · rename_i j n t L
    split at hr
    · rename_i sb hd1 hd2 hf hL
      simp only [SV.reps] at hreps
      obtain ⟨v1, rest, rfl, hv1, v2, rest2, rfl, hv2, rfl⟩ := hreps
      obtain ⟨b, l, c, hb, rfl, hlc, hln, hval, hblt, hrow⟩ := os_rows hF hp hm hd1 hf hv1
      simp only [SV.rep, SK.rep, Tm.den, Sc.toI_i] at hv2
      subst hv2
      have hl64 : l ≤ 9223372036854775807 := by
        have : (n.den E).toI ≤ 9223372036854775807 := of_decide_eq_true (decB_ok hp _ hd2)
        omega
      have hL' : L ≤ 1048576 := Nat.le_of_ble_eq_true hL
      have hwrap : wrap64 ((Int.ofNat L) - l) = (L : Int) - l := by
        unfold wrap64
        simp only [Int.ofNat_eq_natCast]
        omega
      have hcond : ((Tm.op .lti (.op (.subi .i64) (.il (.ofNat L)) n) (.il 0)).den E).toB = decide ((L : Int) - l < 0) := by
        simp only [Tm.den, Opc.den, Sc.toB_b, Sc.toI_i, ← hln]
        rw [wrapEq, hwrap]
      have walk : ∀ res : Int, ((L : Int) - l < 0 → res = -1) → (0 ≤ (L : Int) - l → szF (fun k => (cellSc b.val k 0).toS.length) l 0 ((L : Int) - l) = res) →
          Calls Tryz.prog 24 #[.slice (some ⟨b.blk, b.off, none⟩) l c, .int .i64 (Int.ofNat L)] w fun e w' => e = .returned (.int .i64 res) ∧ Below w.heap.size w w' := fun res g1 g2 =>
        sz_walk b.blk b.off l c (rowOf w b.blk b.off) (fun k => (cellSc b.val k 0).toS.length) (Int.ofNat L) res w hlc hl64 hblt
          (fun k w' hk hbel => load_row a25 s25 (hrow k hk).1.1 hblt hbel (hrow k hk).2)
          (fun k x w' hk => sz1 (hrow k hk).1 x w') (by rw [hwrap]; exact g1) (by rw [hwrap]; exact g2)
      simp only [Out.sel, hcond] at hr
      by_cases hneg : (L : Int) - l < 0
      · rw [decide_eq_true hneg, if_pos rfl] at hr
        simp only [val, Out.sel, Option.some.injEq] at hr
        subst hr
        refine ⟨hp, hl, ⟨_, Tryz.func24, by kernel_rfl⟩, (walk (-1) (fun _ => rfl) (fun h => by omega)).mono fun e w' ⟨he, hbel⟩ => ⟨_, β, he, ?_, Step.same _ hbel⟩⟩
        simp only [SV.rep, SK.rep, Tm.den, Sc.toI_i]
      · rw [decide_eq_false hneg, if_neg (by decide)] at hr
        simp only [val, Out.sel, Option.some.injEq] at hr
        subst hr
        refine ⟨hp.cons ?_, hl, ⟨_, Tryz.func24, by kernel_rfl⟩, (walk _ (fun h => absurd h hneg) (fun _ => rfl)).mono fun e w' ⟨he, hbel⟩ => ⟨_, β, he, ?_, Step.same _ hbel⟩⟩
        · have : (n.den E).toI ≤ 1048576 := by omega
          exact decide_eq_true this
        · simp only [SV.rep, SK.rep, Tm.den, h1, szSc, Sc.toI_i, Sc.at_zero, Sc.at_succ, ← hln, ← hval, Int.toNat_natCast]
          rw [hwrap]
    · cases hr
  · cases hr
theorem szC_pc (args : List SV) (m : Mm) (pc : PC) (hp : PcOk E pc) : Pcs E Res.pc (szC args m pc) := by
  intro r hr
  unfold szC at hr
  split at hr
  · rename_i j n t L
    split at hr
    · rename_i sb hd1 hd2 hf hL
      have hL' : L ≤ 1048576 := Nat.le_of_ble_eq_true hL
      have hn : (n.den E).toI ≤ 9223372036854775807 := of_decide_eq_true (decB_ok hp _ hd2)
      simp only [Out.sel] at hr
      split at hr
      · simp only [val, Out.sel, Option.some.injEq] at hr
        subst hr
        exact hp
      · rename_i hc
        simp only [val, Out.sel, Option.some.injEq] at hr
        subst hr
        refine hp.cons ?_
        have hc' : ¬ IntKind.i64.wrap ((Int.ofNat L) - (n.den E).toI) < 0 := fun h => hc (decide_eq_true h)
        rw [wrapEq] at hc'
        unfold wrap64 at hc'
        simp only [Int.ofNat_eq_natCast] at hc'
        have : (n.den E).toI ≤ 1048576 := by omega
        exact decide_eq_true this
    · cases hr
  · cases hr
theorem toC_ok (hF : ∀ c, E.fn 900 c = F900 c) : SumOk Tryz.prog E 29 toC := by
  intro args m pc r hr β w vals hreps hm hfr hl hp
  unfold toC at hr
  split at hr
  · rename_i j n t
    split at hr
    · rename_i sb hd1 hd2 hd3 hf hL
      simp only [SV.reps] at hreps
      obtain ⟨v1, rest, rfl, hv1, rfl⟩ := hreps
      obtain ⟨b, l, c, hb, rfl, hlc, hln, hval, hblt, hrow⟩ := os_rows hF hp hm hd1 hf hv1
      simp only [Out.sel, Option.some.injEq] at hr
      subst hr
      have hlt : m.nxt < m.lim := by simp only [Nat.blt] at hL; exact Nat.le_of_ble_eq_true hL
      have hl20 : l ≤ 1048576 := by
        have h2 : (n.den E).toI ≤ 9223372036854775807 := of_decide_eq_true (decB_ok hp _ hd2)
        have h3 : ¬ IntKind.i64.wrap (1048576 - (n.den E).toI) < 0 := of_decide_eq_false (decB_ok hp _ hd3)
        rw [wrapEq] at h3
        unfold wrap64 at h3
        omega
      have hlen : b.val.length = l * 34 := by
        have h1 := (rowsT_ok hF hp hd1).1
        rw [← hln, ← hval] at h1
        have e : kSc.length = 34 := rfl
        rw [e] at h1
        omega
      refine ⟨hp, hlt, ⟨_, Tryz.func29, by kernel_rfl⟩, (to_walk b.blk b.off l c (rowOf w b.blk b.off) (Good b.val) good_fits w hlc hl20 hblt
        (fun k w' hk hbel => load_row a25 s25 (hrow k hk).1.1 hblt hbel (hrow k hk).2) (fun k w' hk => to1 (hrow k hk).1 w')).mono fun e w' ⟨arr, he, hh, hs, hcp, hbel⟩ => ?_⟩
      have hgen : GenOk ⟨w.heap.size, 0, l, b.val⟩ w' := by
        intro i x hx
        have hi := (List.getElem?_eq_some_iff.1 hx).1
        simp only at hi
        have hk : i / 34 < l := by omega
        obtain ⟨cs, hg, hc⟩ := hcp (i / 34) hk
        have hq : i % 34 < 34 := Nat.mod_lt _ (by decide)
        have hcs : cs[i % 34]? = some (cs[i % 34]'(by rw [hg.1]; exact hq)) := Array.getElem?_eq_getElem _
        have hp34 : pgs[i % 34]? = some (pgs[i % 34]'(by rw [pgs_len]; exact hq)) := List.getElem?_eq_getElem _
        have hrep := hg.2 (i % 34) _ _ hp34 hcs
        have hcell := hc _ _ hcs
        rw [show i / 34 * 34 + i % 34 = i by omega] at hcell
        refine ⟨_, by simp only [World.cell?, hh, Nat.zero_add]; exact hcell, rep_one hrep, _, _, ?_, hrep⟩
        have hrows := rowsT_ok hF hp hd1
        rw [← hln, ← hval] at hrows
        obtain ⟨c', hx'⟩ := hrows.2 i x hx
        have e : kSc.length = 34 := rfl
        rw [e] at hx'
        have h6 : kSc.getD (i % 34) .nil = .i (pgs[i % 34]'(by rw [pgs_len]; exact hq)).n := by
          simp only [kSc, List.getD, List.getElem?_map, hp34, Option.map_some, Option.getD_some]
        rw [h6] at hx'
        rw [hx']
        have : cellSc b.val (i / 34) (i % 34) = c' := by
          simp only [cellSc]
          rw [show i / 34 * 34 + i % 34 = i by omega]
          simp only [List.getD, hx, Option.getD_some]
          rw [hx']; rfl
        rw [this]
      have hat : upd β m.nxt ⟨w.heap.size, 0, l, b.val⟩ m.nxt = some ⟨w.heap.size, 0, l, b.val⟩ := by simp [upd]
      have hlt' : w.heap.size < w'.heap.size := (Array.getElem?_eq_some_iff.1 hh).1
      refine ⟨_, upd β m.nxt ⟨w.heap.size, 0, l, b.val⟩, he, ?_, ⟨hbel, upd_le hfr hlt _, fun i hi => ?_, Nat.le_succ _, fun i sb' hi => ?_, fun i sb1 i' sb2 b1 b2 h1 h2 hne _ _ => ?_⟩⟩
      · simp only [SV.rep]
        exact ⟨_, l, l, hat, rfl, Nat.le_refl _, hln, hval⟩
      · simp only at hi
        simp only [upd]
        rw [if_neg (by omega)]
      · rcases List.mem_cons.1 hi with hi | hi
        · cases hi
          exact ⟨_, hat, ⟨hlt', fun q s hq => by simp at hq, .inr ⟨rfl, hgen⟩, fun _ _ h => by cases h⟩, Nat.le_refl _, rfl, arr, 84, hh, trivial⟩
        · cases hi
      · rcases List.mem_cons.1 h1 with h1 | h1
        · rcases List.mem_cons.1 h2 with h2 | h2
          · cases h1; cases h2; exact absurd rfl hne
          · cases h2
        · cases h1
    · cases hr
  · cases hr
theorem eqC_ok (hF : ∀ c, E.fn 900 c = F900 c) : SumOk Tryz.prog E 36 eqC := by
  intro args m pc r hr β w vals hreps hm hfr hl hp
  unfold eqC at hr
  split at hr
  · rename_i j n t j' n' t'
    split at hr
    · rename_i sb sb' hn ht hd1 hd2 hf hf'
      have en := Tm.beq_eq hn
      have et := Tm.beq_eq ht
      subst en; subst et
      simp only [SV.reps] at hreps
      obtain ⟨v1, rest, rfl, hv1, v2, rest2, rfl, hv2, rfl⟩ := hreps
      obtain ⟨b, l, c, hb, rfl, hlc, hln, hval, hblt, hrow⟩ := os_rows hF hp hm hd1 hf hv1
      obtain ⟨b', l', c', hb', rfl, hlc', hln', hval', hblt', hrow'⟩ := os_rows hF hp hm hd1 hf' hv2
      have hll : l' = l := by omega
      subst hll
      have hl64 : l' ≤ 9223372036854775807 := by
        have : (n.den E).toI ≤ 9223372036854775807 := of_decide_eq_true (decB_ok hp _ hd2)
        omega
      simp only [val, Out.sel, Option.some.injEq] at hr
      subst hr
      have hvv : b'.val = b.val := by rw [hval, hval']
      refine ⟨hp, hl, ⟨_, Tryz.func36, by kernel_rfl⟩, (eq_walk b.blk b.off c b'.blk b'.off c' l' (rowOf w b.blk b.off) (rowOf w b'.blk b'.off) w hlc hlc' hl64
        (fun k w' hk hbel => load_row a30 sz30 (hrow k hk).1.1 hblt hbel (hrow k hk).2) (fun k w' hk hbel => load_row a30 sz30 (hrow' k hk).1.1 hblt' hbel (hrow' k hk).2)
        (fun k w' hk => eq1 (hrow k hk).1 (hvv ▸ (hrow' k hk).1) w')).mono fun e w' ⟨he, hbel⟩ => ⟨_, β, he, ?_, Step.same _ hbel⟩⟩
      simp only [SV.rep, SK.rep, Tm.den, Sc.toB_b]
    · cases hr
  · cases hr
theorem toC_pc (args : List SV) (m : Mm) (pc : PC) (hp : PcOk E pc) : Pcs E Res.pc (toC args m pc) := by
  unfold toC
  repeat' split
  all_goals first | exact .ret hp | exact .bad
theorem eqC_pc (args : List SV) (m : Mm) (pc : PC) (hp : PcOk E pc) : Pcs E Res.pc (eqC args m pc) := by
  unfold eqC
  repeat' split
  all_goals first | exact .val hp | exact .bad
end
end Go.Proofs.YtfdpcmijifdfeaaGreat.Leaf
