/- Long slices of curves: walks and contracts of the laws' own functions. No condition. -/
import Derived.Test.YtamljpeicecbjaaCt
import Derived.Laws.MakeOwn
import Derived.LoopTactic
import Derived.StillTailTactics
noncomputable section
namespace Go.Proofs.Ytamljpeicecbjaa.LeafV
open Go.RowKit Go.Sx Leaf
set_option linter.unusedVariables false
set_option linter.unusedSimpArgs false
set_option maxRecDepth 100000
theorem eq_walk (b off cap b2 off2 cap2 len : Nat) (R R2 : Nat → Array Value) (w : World) (hlen : len ≤ cap) (hlen2 : len ≤ cap2) (hm : len ≤ 9223372036854775807)
    (hload : ∀ k w', k < len → Below w.heap.size w w' → (loadVar 28 ⟨b, off + k * 16, none⟩).run Try.prog w' = .ok (.agg (R k)) w')
    (hload2 : ∀ k w', k < len → Below w.heap.size w w' → (loadVar 28 ⟨b2, off2 + k * 16, none⟩).run Try.prog w' = .ok (.agg (R2 k)) w')
    (h1 : ∀ k w', k < len → Calls Try.prog 104 #[.agg (R k), .agg (R2 k)] w' fun e w'' => e = .returned (.bool true) ∧ Below w'.heap.size w' w'') :
    Calls Try.prog 95 #[.slice (some ⟨b, off, none⟩) len cap, .slice (some ⟨b2, off2, none⟩) len cap2] w fun e w' => e = .returned (.bool true) ∧ Below w.heap.size w w' := by
  have G1 : Hid (∀ k w', k < len → Calls Try.prog 104 #[.agg (R k), .agg (R2 k)] w' fun e w'' => e = .returned (.bool true) ∧ Below w'.heap.size w' w'') := h1
  have G2 : Hid (∀ k w', k < len → Below w.heap.size w w' → (loadVar 28 ⟨b, off + k * 16, none⟩).run Try.prog w' = .ok (.agg (R k)) w') := hload
  have G3 : Hid (∀ k w', k < len → Below w.heap.size w w' → (loadVar 28 ⟨b2, off2 + k * 16, none⟩).run Try.prog w' = .ok (.agg (R2 k)) w') := hload2
  clear h1 hload hload2
  go_enter Try.func95, Try.ntmps95
  go_wp2
  go_loopw [5] (fun i wr => ∃ (k : Nat), k ≤ len ∧ i = .int .i64 k ∧ Below w.heap.size w wr) (fun i _ => len - (intOf i).toNat)
  case atStart => exact ⟨0, Nat.zero_le _, rfl, Below.refl _ _⟩
  case round =>
    obtain ⟨k, hk, rfl, hbel⟩ := hrel
    go_wp2
    · have hk' : k < len := by assumption
      refine wp_region_still_tail 8 mixed (by kernel_rfl) ?_
      simp only [List.take_succ_cons, List.take_zero, List.drop_succ_cons, List.drop_zero]
      generalize hwd : ({ wr with drawn := wr.drawn + 1 } : World) = wd
      have hbd : Below w.heap.size w wd := by rw [← hwd]; exact hbel.drew
      still_step
      still_step
      still_step
      refine wpStill_load rfl _ 28 rfl ⟨b, off + k * 16, none⟩ rfl (.agg (R k)) (G2.out k _ hk' hbd) ?_
      still_step
      still_step
      still_step
      refine wpStill_load rfl _ 28 rfl ⟨b2, off2 + k * 16, none⟩ rfl (.agg (R2 k)) (G3.out k _ hk' hbd) ?_
      refine wpStill_nil ?_
      clear hwd
      go_wp2_with (first | (go_at_call 104; refine (G1.out k _ hk').mono ?_; rintro e w' ⟨rfl, hb'⟩) | go_in)
      go_roundw
      case rel => exact ⟨k + 1, by omega, by go_num, hbd.trans (hb'.mono hbd.size)⟩
      case measure => simp [intOf]; omega
    · go_ret
      exact ⟨rfl, hbel⟩
theorem info30 : (Try.prog.info? 28).map (fun i => (i.zero, i.size, i.bytes)) = (Try.prog.info? 28).map (fun i => (i.zero, 16, 64)) := by kernel_rfl
theorem some30 : (match Try.prog.info? 28 with | some i => (match i.zero with | some z => Nat.beq i.size 16 && Nat.beq i.bytes 64 && Nat.beq z.cells.size 16 | none => false) | none => false) = true := by kernel_rfl
theorem under39 : Try.prog.underlying 100 = some (.slice 28) := by kernel_rfl
theorem sz30 : Go.Sx.szT Try.prog 28 = some 16 := by kernel_rfl
/-- What has been copied after k rounds. -/
def Copied (Good : Nat → Array Value → Prop) (arr : Array Value) (k : Nat) : Prop := ∀ j, j < k → ∃ cs, Good j cs ∧ ∀ (q : Nat) (u : Value), cs[q]? = some u → arr[j * 16 + q]? = some u
/-- The cells behind the store of one element. -/
def laid (arr cs : Array Value) (k : Nat) : Array Value := (arr.toList.take (k * 16) ++ (Value.agg cs).cells.toList ++ arr.toList.drop (k * 16 + 16)).toArray
theorem copied_step {Good : Nat → Array Value → Prop} (hgood : ∀ k cs, Good k cs → cs.size = 16 ∧ ∀ x ∈ cs.toList, x.oneCell' = true) {arr cs : Array Value} {k len : Nat} (h : Copied Good arr k) (hk : k < len) (hs : arr.size = len * 16) (hg : Good k cs) (hc : cs.size = 16) :
    (laid arr cs k).size = len * 16 ∧ Copied Good (laid arr cs k) (k + 1) := by
  unfold laid
  have hle : k * 16 + 16 ≤ len * 16 := by omega
  refine ⟨by simp [Value.cells, hc, hs]; omega, fun j hj => ?_⟩
  by_cases hjk : j = k
  · subst hjk
    refine ⟨cs, hg, fun q u hu => ?_⟩
    have hq : q < 16 := by have := (Array.getElem?_eq_some_iff.1 hu).1; omega
    rw [List.getElem?_toArray, List.append_assoc, List.getElem?_append_right (by simp; omega)]
    simp only [List.length_take, Array.length_toList, hs, Value.cells]
    rw [show j * 16 + q - min (j * 16) (len * 16) = q by omega, List.getElem?_append_left (by simp; omega), Array.getElem?_toList]
    exact hu
  · obtain ⟨cs', h1, h2⟩ := h j (by omega)
    refine ⟨cs', h1, fun q u hu => ?_⟩
    have h3 := h2 q u hu
    by_cases hq : j * 16 + q < k * 16
    · rw [List.getElem?_toArray, List.append_assoc, List.getElem?_append_left (by simp; omega), List.getElem?_take, if_pos hq, Array.getElem?_toList]
      exact h3
    · exfalso
      have h4 := (hgood j cs' h1).1
      have h5 := (Array.getElem?_eq_some_iff.1 hu).1
      omega
theorem store30 {w : World} {g k len : Nat} {arr cs : Array Value} (hc : cs.size = 16 ∧ ∀ x ∈ cs.toList, x.oneCell' = true) (hg : w.heap[g]? = some (.cells arr 28 (0, 0))) (hs : arr.size = len * 16) (hk : k < len) :
    (storeVar 28 ⟨g, k * 16, none⟩ (.agg cs)).run Try.prog w = .ok () (w.setRow g (laid arr cs k)) :=
  Go.Sx.storeVar_run (arr := arr) (e := 28) sz30 (by simpa [Value.cells] using hc.1) (by simpa [Value.cells] using hc.2) hg (by omega)
theorem to_walk (b off len cap : Nat) (R : Nat → Array Value) (Good : Nat → Array Value → Prop) (hgood : ∀ k cs, Good k cs → cs.size = 16 ∧ ∀ x ∈ cs.toList, x.oneCell' = true) (w : World) (hlen : len ≤ cap) (hm : len ≤ 1048576) (hb : b < w.heap.size)
    (hload : ∀ k w', k < len → Below w.heap.size w w' → (loadVar 23 ⟨b, off + k * 16, none⟩).run Try.prog w' = .ok (.agg (R k)) w')
    (h1 : ∀ k w', k < len → Calls Try.prog 76 #[.agg (R k)] w' fun e w'' => ∃ cs, e = .returned (.agg cs) ∧ Good k cs ∧ Below w'.heap.size w' w'') :
    Calls Try.prog 93 #[.slice (some ⟨b, off, none⟩) len cap] w fun e w' => ∃ arr, e = .returned (.slice (some ⟨w.heap.size, 0, none⟩) len len) ∧ w'.heap[w.heap.size]? = some (.cells arr 28 (0, 0)) ∧ arr.size = len * 16 ∧ Copied Good arr len ∧ Below w.heap.size w w' := by
  have G1 : Hid (∀ k w', k < len → Calls Try.prog 76 #[.agg (R k)] w' fun e w'' => ∃ cs, e = .returned (.agg cs) ∧ Good k cs ∧ Below w'.heap.size w' w'') := h1
  have G2 : Hid (∀ k w', k < len → Below w.heap.size w w' → (loadVar 23 ⟨b, off + k * 16, none⟩).run Try.prog w' = .ok (.agg (R k)) w') := hload
  have G3 : Hid (∀ k cs, Good k cs → cs.size = 16 ∧ ∀ x ∈ cs.toList, x.oneCell' = true) := hgood
  clear h1 hload hgood
  obtain ⟨i0, z0, hi, hz, hsz, hby, hzs⟩ : ∃ i z, Try.prog.info? 28 = some i ∧ i.zero = some z ∧ i.size = 16 ∧ i.bytes = 64 ∧ z.cells.size = 16 := by
    have h := some30
    split at h
    · rename_i i hi
      split at h
      · rename_i z hz
        simp only [Bool.and_eq_true] at h
        exact ⟨i, z, hi, hz, Nat.eq_of_beq_eq_true h.1.1, Nat.eq_of_beq_eq_true h.1.2, Nat.eq_of_beq_eq_true h.2⟩
      · cases h
    · cases h
  have HI : Hid (Try.prog.info? 28 = some i0) := hi
  have HZ : Hid (i0.zero = some z0) := hz
  have HS : Hid (i0.size = 16) := hsz
  have HB : Hid (i0.bytes = 64) := hby
  clear hi hz hsz hby
  have hm3 : len ≤ maxLen := by unfold maxLen; omega
  go_enter Try.func93, Try.ntmps93
  clear hzs
  go_wp2_with (first | (refine wpList_make _ rfl _ _ 100 rfl 28 i0 z0 under39 HI.out HZ.out len rfl rfl (by rw [HB.out]; omega) hm3 ?_; intro arr0 harr0; rw [HS.out] at harr0) | go_in)
  go_loopw [4] (fun i wr => ∃ (k : Nat) (arr : Array Value), k ≤ len ∧ i = .int .i64 k ∧ wr.heap[w.heap.size]? = some (.cells arr 28 (0, 0)) ∧ arr.size = len * 16 ∧ Copied Good arr k ∧ Below w.heap.size w wr) (fun i _ => len - (intOf i).toNat)
  case atStart => exact ⟨0, arr0, Nat.zero_le _, rfl, Array.getElem?_push_size, harr0, fun j hj => by omega, (Below.refl _ _).alloc (Nat.le_refl _) _⟩
  case round =>
    obtain ⟨k, arr, hk, rfl, hh, hs, hcp, hbel⟩ := hrel
    have HH : Hid (wr.heap[w.heap.size]? = some (.cells arr 28 (0, 0)) ∧ arr.size = len * 16 ∧ Copied Good arr k) := ⟨hh, hs, hcp⟩
    have hwlt : w.heap.size < wr.heap.size := (Array.getElem?_eq_some_iff.1 hh).1
    clear hh hs hcp
    go_wp2_with (first | (refine wpList_load _ rfl _ 23 rfl ⟨b, off + k * 16, none⟩ rfl (.agg (R k)) (G2.out k _ (by assumption) hbel) ?_) | (go_at_call 76; refine (G1.out k _ (by assumption)).mono ?_; rintro e w' ⟨cs, rfl, hgd, hb'⟩) | (refine wpList_store _ _ rfl _ _ 28 rfl ⟨w.heap.size, k * 16, none⟩ rfl _ rfl (store30 (G3.out k _ hgd) ((hb'.block _ hwlt).trans HH.out.1) HH.out.2.1 (by assumption)) ?_) | go_in)
    · have hk' : k < len := by assumption
      have hst := copied_step G3.out HH.out.2.2 hk' HH.out.2.1 hgd (G3.out k _ hgd).1
      go_roundw
      case rel => exact ⟨k + 1, laid arr _ k, by omega, by go_num, setRow_heap _ _ arr _ _ _ ((hb'.block _ hwlt).trans HH.out.1), hst.1, hst.2, setRow_below (hbel.trans (hb'.mono hbel.size)) (Nat.le_refl _)⟩
      case measure => simp [intOf]; omega
    · go_ret
      have hkl : k = len := by omega
      exact ⟨arr, rfl, HH.out.1, HH.out.2.1, hkl ▸ HH.out.2.2, hbel⟩
def pgs : List SK := f16
theorem pgs_len : pgs.length = 16 := rfl
def cellSc (l : List Sc) (k q : Nat) : Sc := snd (l.getD (k * 16 + q) .nil)
/-- A row of values that stand for the cells of row k. -/
def Good (l : List Sc) (k : Nat) (cs : Array Value) : Prop := cs.size = 16 ∧ ∀ (q : Nat) (kd : SK) (u : Value), pgs[q]? = some kd → cs[q]? = some u → kd.rep (cellSc l k q) u
theorem good_fits {l : List Sc} (k : Nat) (cs : Array Value) (h : Good l k cs) : cs.size = 16 ∧ ∀ x ∈ cs.toList, x.oneCell' = true := by
  refine ⟨h.1, fun x hx => ?_⟩
  obtain ⟨q, hq⟩ := List.getElem?_of_mem hx
  rw [Array.getElem?_toList] at hq
  have hlt : q < 16 := by have h1 := (Array.getElem?_eq_some_iff.1 hq).1; have h2 := h.1; omega
  exact rep_one (h.2 q (pgs[q]'(by rw [pgs_len]; exact hlt)) x (List.getElem?_eq_getElem _) hq)
noncomputable def rowOf (w : World) (b off k : Nat) : Array Value := ((List.range 16).map fun q => (w.cell? ⟨b, off + k * 16 + q, none⟩).getD .nilFunc).toArray
def kSc : List Sc := pgs.map fun k => Sc.i k.n
/-- The rows of a block that only contracts look at. -/
theorem rows_of {w : World} {b : Bs} {n : Nat} (hg : GenOk b w) (hr : RowsOk kSc n b.val) {k : Nat} (hk : k < n) :
    Good b.val k (rowOf w b.blk b.off k) ∧ ∀ (q : Nat) (u : Value), (rowOf w b.blk b.off k)[q]? = some u → w.cell? ⟨b.blk, b.off + k * 16 + q, none⟩ = some u := by
  have hlen : b.val.length = n * 16 := by
    have := hr.1
    have e : kSc.length = 16 := rfl
    rw [e] at this
    omega
  have each : ∀ q, q < 16 → ∃ v kd, w.cell? ⟨b.blk, b.off + k * 16 + q, none⟩ = some v ∧ pgs[q]? = some kd ∧ kd.rep (cellSc b.val k q) v := by
    intro q hq
    have hi : k * 16 + q < b.val.length := by omega
    have hx : b.val[k * 16 + q]? = some (b.val[k * 16 + q]) := List.getElem?_eq_getElem hi
    obtain ⟨v, h1, h2, kd, c, h3, h4⟩ := hg _ _ hx
    obtain ⟨c', h5⟩ := hr.2 _ _ hx
    have e : kSc.length = 16 := rfl
    rw [e, show (k * 16 + q) % 16 = q by omega] at h5
    have hp : pgs[q]? = some (pgs[q]'(by rw [pgs_len]; exact hq)) := List.getElem?_eq_getElem _
    have h6 : kSc.getD q .nil = .i (pgs[q]'(by rw [pgs_len]; exact hq)).n := by
      simp only [kSc, List.getD, List.getElem?_map, hp, Option.map_some, Option.getD_some]
    rw [h6] at h5
    rw [h3] at h5
    simp only [Sc.cons.injEq, Sc.i.injEq, Int.natCast_inj] at h5
    have hkd := SK.n_inj h5.1
    refine ⟨v, kd, by rw [Nat.add_assoc]; exact h1, by rw [hp, hkd], ?_⟩
    have : cellSc b.val k q = c := by
      simp only [cellSc, List.getD, hx, Option.getD_some]
      rw [h3]; rfl
    rw [this]; exact h4
  have get : ∀ q u, (rowOf w b.blk b.off k)[q]? = some u → q < 16 ∧ w.cell? ⟨b.blk, b.off + k * 16 + q, none⟩ = some u := by
    intro q u hu
    simp only [rowOf, List.getElem?_toArray, List.getElem?_map, Option.map_eq_some_iff] at hu
    obtain ⟨q', hq', hu⟩ := hu
    obtain ⟨hlt, rfl⟩ := List.getElem?_eq_some_iff.1 hq'
    simp only [List.length_range] at hlt
    simp only [List.getElem_range] at hu
    obtain ⟨v, _, h1, _⟩ := each q hlt
    rw [h1] at hu
    simp only [Option.getD_some] at hu
    subst hu
    exact ⟨hlt, h1⟩
  refine ⟨⟨by simp [rowOf], fun q kd u hq hu => ?_⟩, fun q u hu => (get q u hu).2⟩
  obtain ⟨hlt, hc⟩ := get q u hu
  obtain ⟨v, kd', h1, h2, h3⟩ := each q hlt
  rw [hc] at h1
  cases h1
  rw [hq] at h2
  cases h2
  exact h3
theorem load_row {w w' : World} {b off k t : Nat} {R : Array Value} (ha : aggT Try.prog t = some true) (hn : szT Try.prog t = some 16) (hs : R.size = 16) (hb : b < w.heap.size) (hbel : Below w.heap.size w w')
    (h : ∀ (q : Nat) (u : Value), R[q]? = some u → w.cell? ⟨b, off + k * 16 + q, none⟩ = some u) : (loadVar t ⟨b, off + k * 16, none⟩).run Try.prog w' = .ok (.agg R) w' := by
  have := run_loadCells_list (P := Try.prog) w' ⟨b, off + k * 16, none⟩ R.toList (fun j v hv => by
    rw [add_at]
    rw [Array.getElem?_toList] at hv
    exact (hbel.cell (p := ⟨b, off + k * 16 + j, none⟩) hb).trans (h j v hv))
  rw [Array.length_toList, hs] at this
  unfold loadVar
  simp [aggT_run ha, szT_run hn, this]
/-- An environment for row k. -/
def envK (l : List Sc) (k : Nat) (x : Int) : Env := ⟨fun i => if i = 16 then .i x else cellSc l k i, fun _ _ => .nil⟩
theorem good_reps {l : List Sc} {k : Nat} {x : Int} {cs : Array Value} {β : Pl} (h : Good l k cs) : SV.reps (envK l k x) β (sym pgs 0) cs.toList :=
  sym_reps pgs 0 _ (by rw [pgs_len, Array.length_toList, h.1]) fun i kd v hk hv => by
    rw [Array.getElem?_toList] at hv
    have hlt : i < 16 := by have := (List.getElem?_eq_some_iff.1 hk).1; rw [pgs_len] at this; exact this
    simp only [envK, Nat.zero_add]
    rw [if_neg (by omega)]
    exact h.2 i kd v hk hv
theorem reps_good {l : List Sc} {k : Nat} {x : Int} {cs : Array Value} {β : Pl} (h : SV.reps (envK l k x) β (sym pgs 0) cs.toList) : Good l k cs := by
  have hlen : cs.toList.length = (sym pgs 0).length := reps_length h
  refine ⟨by rw [Array.length_toList] at hlen; exact hlen, fun q kd u hq hu => ?_⟩
  have hlt : q < 16 := by have := (List.getElem?_eq_some_iff.1 hq).1; rw [pgs_len] at this; exact this
  have key : ∀ (ks : List SK) (n q : Nat) (kd : SK), ks[q]? = some kd → (sym ks n)[q]? = some (.sc kd (.var (n + q))) := by
    intro ks
    induction ks with
    | nil => intro n q kd h; simp at h
    | cons k ks ih =>
      intro n q kd h
      cases q with
      | zero => simp at h; subst h; rfl
      | succ q =>
        simp only [sym, List.getElem?_cons_succ]
        rw [ih (n + 1) q kd (by simpa using h), show n + 1 + q = n + (q + 1) by omega]
  obtain ⟨v, hv, hrep⟩ := reps_get h (key pgs 0 q kd hq)
  rw [Array.getElem?_toList, hu] at hv
  cases hv
  simp only [SV.rep, Tm.den, envK, Nat.zero_add] at hrep
  rw [if_neg (by omega)] at hrep
  exact hrep
theorem k35 : retV (call cx0 Try.prog 1000 76 [.agg (sym pgs 0)] mBare []) (.agg (sym pgs 0)) = true := by kernel_rfl
theorem k192 : retE (call cx0 Try.prog 1000 104 [.agg (sym pgs 0), .agg (sym pgs 0)] mBare []) [] = true := by kernel_rfl
theorem to1 {l : List Sc} {k : Nat} {cs : Array Value} (h : Good l k cs) (w : World) : Calls Try.prog 76 #[.agg cs] w fun e w' => ∃ cs', e = .returned (.agg cs') ∧ Good l k cs' ∧ Below w.heap.size w w' := by
  obtain ⟨r, hr, hv⟩ := retV_ok k35
  obtain ⟨_, _, _, hcalls⟩ := call_ok (cx0_ok _).1 (cx0_ok (envK l k 0)).2 (named_of named) mixed 1000 76 [.agg (sym pgs 0)] mBare [] r (by rw [hr]; rfl) (fun _ => none) w [.agg cs]
    (by simp only [reps_cons, reps_nil, SV.rep]; exact ⟨⟨cs, rfl, good_reps h⟩, trivial⟩) (fun j sb h => by cases h) (fun _ _ _ => rfl) (by decide) (fun p hp => by cases hp)
  refine hcalls.mono fun e w' ⟨v, β', he, hv', hst⟩ => ?_
  rw [hv] at hv'
  simp only [SV.rep] at hv'
  obtain ⟨cs', rfl, hreps⟩ := hv'
  exact ⟨cs', he, reps_good hreps, hst.below⟩
theorem eq1 {l : List Sc} {k : Nat} {cs cs' : Array Value} (h : Good l k cs) (h' : Good l k cs') (w : World) : Calls Try.prog 104 #[.agg cs, .agg cs'] w fun e w' => e = .returned (.bool true) ∧ Below w.heap.size w w' := by
  have hk := k192
  unfold retE at hk
  split at hk
  · rename_i r hr
    split at hk
    · rename_i T hT
      obtain ⟨_, _, _, hcalls⟩ := call_ok (cx0_ok _).1 (cx0_ok (envK l k 0)).2 (named_of named) mixed 1000 104 [.agg (sym pgs 0), .agg (sym pgs 0)] mBare [] r (by rw [hr]; rfl) (fun _ => none) w [.agg cs, .agg cs']
        (by simp only [reps_cons, reps_nil, SV.rep]; exact ⟨⟨cs, rfl, good_reps h⟩, ⟨cs', rfl, good_reps h'⟩, trivial⟩) (fun j sb h => by cases h) (fun _ _ _ => rfl) (by decide) (fun p hp => by cases hp)
      refine hcalls.mono fun e w' ⟨v, β', he, hv', hst⟩ => ⟨?_, hst.below⟩
      rw [hT] at hv'
      simp only [SV.rep, SK.rep] at hv'
      rw [prove_ok (E := envK l k 0) _ (fun p hp => by cases hp) hk] at hv'
      subst hv'
      exact he
    · cases hk
  · cases hk
def toC : Sum := fun args m pc => match args with
  | [.os j n t] => match decB pc (rowsT pgs n t), decB pc (lim64 n), decB pc (over n), find m.mem j, Nat.blt m.nxt m.lim with
    | some true, some true, some false, some _, true => .ret ⟨.os m.nxt n t, [(m.nxt, ⟨[], none⟩)], m.nxt + 1, pc⟩
    | _, _, _, _, _ => .bad 332
  | _ => .bad 333
def eqC : Sum := fun args m pc => match args with
  | [.os j n t, .os j' n' t'] => match n.beq n', t.beq t', decB pc (rowsT pgs n t), decB pc (lim64 n), find m.mem j, find m.mem j' with
    | true, true, some true, some true, some _, some _ => val m pc (.sc .bool (.bl true))
    | _, _, _, _, _, _ => .bad 334
  | _ => .bad 335
section
variable {E : Env}
theorem rowsT_ok {pc : PC} (hF : ∀ c, E.fn 900 c = F900 c) (hp : PcOk E pc) {n t : Tm} (h : decB pc (rowsT pgs n t) = some true) : RowsOk kSc (n.den E).toI (t.den E).list := by
  have h1 := decB_ok hp _ h
  simp only [rowsT, Tm.den, hF, F900, Sc.toB_b] at h1
  have h2 := @of_decide_eq_true _ (Classical.propDecidable _) h1
  simp only [Sc.at_zero, Sc.at_succ] at h2
  rw [ksT_den] at h2
  exact h2
/-- A long slice, its rows as they lie in memory. -/
theorem os_rows {pc : PC} {β : Pl} {w : World} {mem : Mem} {j : Nat} {n t : Tm} {sb : SB} {v : Value} (hF : ∀ c, E.fn 900 c = F900 c) (hp : PcOk E pc) (hm : Reads E β mem w) (h : decB pc (rowsT pgs n t) = some true) (hf : find mem j = some sb) (hv : SV.rep E β (.os j n t) v) :
    ∃ b l c, β j = some b ∧ v = .slice (some ⟨b.blk, b.off, none⟩) l c ∧ l ≤ c ∧ (l : Int) = (n.den E).toI ∧ b.val = (t.den E).list ∧ b.blk < w.heap.size ∧
      ∀ k, k < l → Good b.val k (rowOf w b.blk b.off k) ∧ ∀ (q : Nat) (u : Value), (rowOf w b.blk b.off k)[q]? = some u → w.cell? ⟨b.blk, b.off + k * 16 + q, none⟩ = some u := by
  simp only [SV.rep] at hv
  obtain ⟨b, l, c, hb, hv, hlc, hln, hval⟩ := hv
  obtain ⟨b', hb', hreads⟩ := hm j sb (find_mem hf)
  rw [hb] at hb'; cases hb'
  have hrows := rowsT_ok hF hp h
  rw [← hln, ← hval] at hrows
  refine ⟨b, l, c, hb, hv, hlc, hln, hval, hreads.1, fun k hk => ?_⟩
  rcases hreads.3 with he | ⟨_, hg⟩
  · exfalso
    have := hrows.1
    rw [he] at this
    have e : kSc.length = 16 := rfl
    rw [e] at this
    simp at this
    omega
  · exact rows_of hg hrows hk
theorem a25 : aggT Try.prog 23 = some true := by kernel_rfl
theorem a30 : aggT Try.prog 28 = some true := by kernel_rfl
theorem s25 : szT Try.prog 23 = some 16 := by kernel_rfl
theorem toC_ok (hF : ∀ c, E.fn 900 c = F900 c) : SumOk Try.prog E 93 toC := by
  intro args m pc r hr β w vals hreps hm hfr hl hp
  unfold toC at hr
  split at hr
  · rename_i j n t
    split at hr
    · rename_i sb hd1 hd2 hd3 hf hL
      simp only [SV.reps] at hreps
      obtain ⟨v1, rest, rfl, hv1, rfl⟩ := hreps
      obtain ⟨b, l, c, hb, rfl, hlc, hln, hval, hblt, hrow⟩ := os_rows hF hp hm hd1 hf hv1
      simp only [Out.sel, Option.some.injEq] at hr
      subst hr
      have hlt : m.nxt < m.lim := by simp only [Nat.blt] at hL; exact Nat.le_of_ble_eq_true hL
      have hl20 : l ≤ 1048576 := by
        have h2 : (n.den E).toI ≤ 9223372036854775807 := of_decide_eq_true (decB_ok hp _ hd2)
        have h3 : ¬ IntKind.i64.wrap (1048576 - (n.den E).toI) < 0 := of_decide_eq_false (decB_ok hp _ hd3)
        rw [wrapEq] at h3
        unfold wrap64 at h3
        omega
      have hlen : b.val.length = l * 16 := by
        have h1 := (rowsT_ok hF hp hd1).1
        rw [← hln, ← hval] at h1
        have e : kSc.length = 16 := rfl
        rw [e] at h1
        omega
      refine ⟨hp, hlt, ⟨_, Try.func93, by kernel_rfl⟩, (to_walk b.blk b.off l c (rowOf w b.blk b.off) (Good b.val) good_fits w hlc hl20 hblt
        (fun k w' hk hbel => load_row a25 s25 (hrow k hk).1.1 hblt hbel (hrow k hk).2) (fun k w' hk => to1 (hrow k hk).1 w')).mono fun e w' ⟨arr, he, hh, hs, hcp, hbel⟩ => ?_⟩
      have hgen : GenOk ⟨w.heap.size, 0, l, b.val⟩ w' := by
        intro i x hx
        have hi := (List.getElem?_eq_some_iff.1 hx).1
        simp only at hi
        have hk : i / 16 < l := by omega
        obtain ⟨cs, hg, hc⟩ := hcp (i / 16) hk
        have hq : i % 16 < 16 := Nat.mod_lt _ (by decide)
        have hcs : cs[i % 16]? = some (cs[i % 16]'(by rw [hg.1]; exact hq)) := Array.getElem?_eq_getElem _
        have hp34 : pgs[i % 16]? = some (pgs[i % 16]'(by rw [pgs_len]; exact hq)) := List.getElem?_eq_getElem _
        have hrep := hg.2 (i % 16) _ _ hp34 hcs
        have hcell := hc _ _ hcs
        rw [show i / 16 * 16 + i % 16 = i by omega] at hcell
        refine ⟨_, by simp only [World.cell?, hh, Nat.zero_add]; exact hcell, rep_one hrep, _, _, ?_, hrep⟩
        have hrows := rowsT_ok hF hp hd1
        rw [← hln, ← hval] at hrows
        obtain ⟨c', hx'⟩ := hrows.2 i x hx
        have e : kSc.length = 16 := rfl
        rw [e] at hx'
        have h6 : kSc.getD (i % 16) .nil = .i (pgs[i % 16]'(by rw [pgs_len]; exact hq)).n := by
          simp only [kSc, List.getD, List.getElem?_map, hp34, Option.map_some, Option.getD_some]
        rw [h6] at hx'
        rw [hx']
        have : cellSc b.val (i / 16) (i % 16) = c' := by
          simp only [cellSc]
          rw [show i / 16 * 16 + i % 16 = i by omega]
          simp only [List.getD, hx, Option.getD_some]
          rw [hx']; rfl
        rw [this]
      have hat : upd β m.nxt ⟨w.heap.size, 0, l, b.val⟩ m.nxt = some ⟨w.heap.size, 0, l, b.val⟩ := by simp [upd]
      have hlt' : w.heap.size < w'.heap.size := (Array.getElem?_eq_some_iff.1 hh).1
      refine ⟨_, upd β m.nxt ⟨w.heap.size, 0, l, b.val⟩, he, ?_, ⟨hbel, upd_le hfr hlt _, fun i hi => ?_, Nat.le_succ _, fun i sb' hi => ?_, fun i sb1 i' sb2 b1 b2 h1 h2 hne _ _ => ?_⟩⟩
      · simp only [SV.rep]
        exact ⟨_, l, l, hat, rfl, Nat.le_refl _, hln, hval⟩
      · simp only at hi
        simp only [upd]
        rw [if_neg (by omega)]
      · rcases List.mem_cons.1 hi with hi | hi
        · cases hi
          exact ⟨_, hat, ⟨hlt', fun q s hq => by simp at hq, .inr ⟨rfl, hgen⟩, fun _ _ h => by cases h⟩, Nat.le_refl _, rfl, arr, 28, hh, trivial⟩
        · cases hi
      · rcases List.mem_cons.1 h1 with h1 | h1
        · rcases List.mem_cons.1 h2 with h2 | h2
          · cases h1; cases h2; exact absurd rfl hne
          · cases h2
        · cases h1
    · cases hr
  · cases hr
theorem eqC_ok (hF : ∀ c, E.fn 900 c = F900 c) : SumOk Try.prog E 95 eqC := by
  intro args m pc r hr β w vals hreps hm hfr hl hp
  unfold eqC at hr
  split at hr
  · rename_i j n t j' n' t'
    split at hr
    · rename_i sb sb' hn ht hd1 hd2 hf hf'
      have en := Tm.beq_eq hn
      have et := Tm.beq_eq ht
      subst en; subst et
      simp only [SV.reps] at hreps
      obtain ⟨v1, rest, rfl, hv1, v2, rest2, rfl, hv2, rfl⟩ := hreps
      obtain ⟨b, l, c, hb, rfl, hlc, hln, hval, hblt, hrow⟩ := os_rows hF hp hm hd1 hf hv1
      obtain ⟨b', l', c', hb', rfl, hlc', hln', hval', hblt', hrow'⟩ := os_rows hF hp hm hd1 hf' hv2
      have hll : l' = l := by omega
      subst hll
      have hl64 : l' ≤ 9223372036854775807 := by
        have : (n.den E).toI ≤ 9223372036854775807 := of_decide_eq_true (decB_ok hp _ hd2)
        omega
      simp only [val, Out.sel, Option.some.injEq] at hr
      subst hr
      have hvv : b'.val = b.val := by rw [hval, hval']
      refine ⟨hp, hl, ⟨_, Try.func95, by kernel_rfl⟩, (eq_walk b.blk b.off c b'.blk b'.off c' l' (rowOf w b.blk b.off) (rowOf w b'.blk b'.off) w hlc hlc' hl64
        (fun k w' hk hbel => load_row a30 sz30 (hrow k hk).1.1 hblt hbel (hrow k hk).2) (fun k w' hk hbel => load_row a30 sz30 (hrow' k hk).1.1 hblt' hbel (hrow' k hk).2)
        (fun k w' hk => eq1 (hrow k hk).1 (hvv ▸ (hrow' k hk).1) w')).mono fun e w' ⟨he, hbel⟩ => ⟨_, β, he, ?_, Step.same _ hbel⟩⟩
      simp only [SV.rep, SK.rep, Tm.den, Sc.toB_b]
    · cases hr
  · cases hr
theorem toC_pc (args : List SV) (m : Mm) (pc : PC) (hp : PcOk E pc) : Pcs E Res.pc (toC args m pc) := by
  unfold toC
  repeat' split
  all_goals first | exact .ret hp | exact .bad
theorem eqC_pc (args : List SV) (m : Mm) (pc : PC) (hp : PcOk E pc) : Pcs E Res.pc (eqC args m pc) := by
  unfold eqC
  repeat' split
  all_goals first | exact .val hp | exact .bad
end
end Go.Proofs.Ytamljpeicecbjaa.LeafV
