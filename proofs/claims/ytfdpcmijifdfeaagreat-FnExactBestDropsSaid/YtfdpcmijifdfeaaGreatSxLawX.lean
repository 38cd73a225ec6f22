/- Laws whose ways are parted into cases: each case a tree of its own. No condition. -/
import Derived.Test.YtfdpcmijifdfeaaGreatSxLaw
set_option linter.unusedVariables false
set_option linter.unusedSimpArgs false
noncomputable section
namespace Go.Sx
open Go Go.RowKit Go.ChangeShapes
section
variable {H : Type} {enc : TypeId × Value → H} {P : Program} {w : World} {r : Reach} {base : Nat} {sp : Nat → Bool} {held : Bool}
/-- The law's tree in a case: what is known beforehand. -/
def treeX (P : Program) (ctx : Ctx) (n f N : Nat) (ts : List TypeId) (ws : List Nat) (B : Nat) (D : List Tm) (cs : PC) : Bool :=
  match cksAll P ts with
  | some (l, s) => match bld N l ws 0 0 with
    | some b => match Nat.ble b.n B, defsOk B D, Nat.ble b.j 1000 with
      | true, true, true => allTrue (call ctx P n f (group s b.svs) ⟨b.mem, b.j, 2 ^ 256, 2 ^ 200⟩ (b.pc ++ (cs ++ defsPc B D)))
      | _, _, _ => false
    | none => false
  | none => false
/-- The same, each way parted into cases: what a case knows beforehand. -/
theorem law_holdsX {ctx : Ctx} {F : Nat → Sc → Sc} {n f N B : Nat} {D : List Tm} {ts : List TypeId} {args : Array Value} {ds : List (DataW H)} {ps : List MemPlace} {q : Nat}
    (hC : ∀ E : Env, E.fn = F → CtxOk P E ctx ∧ CtxPc E ctx) (hN : P.funcs.toList.all (fun fn => !(fn.name == "runtime.NumGoroutine")) = true)
    (hmix : P.follows .mixedOrders = true) (hF : ∀ c, F 900 c = F900 c) (hs : (cksAll P ts).map (fun x => rows x.1) = some q) (hk : ∀ ws : List Nat, ws.length = q → (∀ x, x ∈ ws → x ≤ N + 2) → ∀ E : Env, E.fn = F → ∃ cs, PcOk E cs ∧ treeX P ctx n f N ts ws B D cs = true)
    (hv : ∀ (j : Nat) t v, ts.toArray[j]? = some t → args[j]? = some v → Value.okWide P w r base t v) (hA : DataW.TrodAll enc P w 0 sp held ts args.toList ds ps) :
    Calls P f args w fun e w' => e = .returned (.bool true) ∧ Below w.heap.size w w' := by
  obtain ⟨⟨l, s⟩, hls, hq⟩ := Option.map_eq_some_iff.1 hs
  simp only at hq
  subst hq
  obtain ⟨k1, k2, k3⟩ := args_is (r := r) (base := base) hls (fun i t v ht hv' => hv i t v (by simpa using ht) (by simpa using hv')) hA
  have hk0 := hk (waysOf N l (flat args.toList)) (waysOf_length k1.1) (waysOf_le _ _)
  -- some case is there: its slices can be laid out
  obtain ⟨cs0, _, hk1⟩ := hk0 ⟨fun _ => .nil, F⟩ rfl
  have hk2 : ∃ b, bld N l (waysOf N l (flat args.toList)) 0 0 = some b ∧ Nat.ble b.n B = true ∧ defsOk B D = true ∧ Nat.ble b.j 1000 = true := by
    unfold treeX at hk1
    rw [hls] at hk1
    simp only at hk1
    split at hk1
    · rename_i b hb
      split at hk1
      · rename_i hB hD hj; exact ⟨b, hb, hB, hD, hj⟩
      · cases hk1
    · cases hk1
  obtain ⟨b, hb, hB, hD, hj⟩ := hk2
  obtain ⟨scs, bss, e1, e2, hall⟩ := bld_ok hb rfl k1 k2
  rw [Nat.zero_add] at e1 e2
  have hB' := Nat.le_of_ble_eq_true hB
  have hj' := Nat.le_of_ble_eq_true hj
  let E := extD ⟨fun i => scs[i]?.getD .nil, F⟩ B D
  obtain ⟨cs, hcs, hk'⟩ := hk0 E (extD_fn D)
  unfold treeX at hk'
  rw [hls] at hk'
  simp only [hb, hB, hD, hj] at hk'
  let β : Pl := fun i => bss[i]?
  obtain ⟨g1, g2, g3⟩ := hall E β (fun c => by rw [show E.fn = F from extD_fn D]; exact hF c) (fun i c hi => by
      have hlt := (List.getElem?_eq_some_iff.1 hi).1
      simp only [E]
      rw [Nat.zero_add, extD_old D (by omega)]
      simp [hi]) (fun i x hi => by rw [Nat.zero_add]; exact hi)
  have hfn : E.fn = F := extD_fn D
  have hpc0 : PcOk E (b.pc ++ (cs ++ defsPc B D)) := fun p hp => by
    rcases List.mem_append.1 hp with hp | hp
    · exact g3 p hp
    · rcases List.mem_append.1 hp with hp | hp
      · exact hcs p hp
      · exact extD_pc D hD p hp
  have hctx := hC E hfn
  have hfr : Fresh β b.j (2 ^ 256) := fun i hi _ => by
    simp only [β]
    exact List.getElem?_eq_none (by omega)
  have hjl : b.j ≤ 2 ^ 256 := Nat.le_trans hj' (by decide)
  obtain ⟨res, t, h1, h2, h3⟩ := allTrue_ok (pc := []) hk' (call_pc (P := P) hctx.2 n f (group s b.svs) ⟨b.mem, b.j, 2 ^ 256, 2 ^ 200⟩ _ hpc0)
  obtain ⟨_, _, _, hcalls⟩ := call_ok hctx.1 hctx.2 (named_of hN) hmix n f (group s b.svs) ⟨b.mem, b.j, 2 ^ 256, 2 ^ 200⟩ _ res h1 β w args.toList (k3 g1) g2 hfr hjl hpc0
  have e : args.toList.toArray = args := by simp
  rw [e] at hcalls
  refine hcalls.mono fun e w' ⟨v, β', he, hv', hst⟩ => ?_
  rw [h2] at hv'
  have hbb := bool_rep (t := t) (E := E) hv'
  rw [h3] at hbb
  subst hbb
  exact ⟨he, hst.below⟩

/-- Two cases by a test. -/
theorem case2 {ctx : Ctx} {n f N B : Nat} {D : List Tm} {ts : List TypeId} {ws : List Nat} {cs : PC} (t : Tm) {E : Env} (hcs : PcOk E cs)
    (h1 : PcOk E ((t, true) :: cs) → ∃ cs, PcOk E cs ∧ treeX P ctx n f N ts ws B D cs = true) (h2 : PcOk E ((t, false) :: cs) → ∃ cs, PcOk E cs ∧ treeX P ctx n f N ts ws B D cs = true) :
    ∃ cs, PcOk E cs ∧ treeX P ctx n f N ts ws B D cs = true := by
  cases ht : (t.den E).toB with
  | true => exact h1 (hcs.cons ht)
  | false => exact h2 (hcs.cons ht)
end
end Go.Sx
set_option linter.unusedVariables false
set_option linter.unusedSimpArgs false
noncomputable section
namespace Go.Sx
open Go Go.RowKit Go.ChangeShapes
section
variable {H : Type} {enc : TypeId × Value → H} {P : Program} {w : World} {r : Reach} {base : Nat} {sp : Nat → Bool} {held : Bool}
def CaseOk (P : Program) (E : Env) (n f N : Nat) (ts : List TypeId) (ws : List Nat) (B : Nat) (D : List Tm) : Prop :=
  ∃ (ctx : Ctx) (cs : PC), (CtxOk P E ctx ∧ CtxPc E ctx) ∧ PcOk E cs ∧ treeX P ctx n f N ts ws B D cs = true
/-- Each way parted into cases, each with its context. -/
theorem law_holdsC {F : Nat → Sc → Sc} {n f N B : Nat} {D : List Tm} {ts : List TypeId} {args : Array Value} {ds : List (DataW H)} {ps : List MemPlace} {q : Nat}
    (hN : P.funcs.toList.all (fun fn => !(fn.name == "runtime.NumGoroutine")) = true)
    (hmix : P.follows .mixedOrders = true) (hF : ∀ c, F 900 c = F900 c) (hs : (cksAll P ts).map (fun x => rows x.1) = some q) (hk : ∀ ws : List Nat, ws.length = q → (∀ x, x ∈ ws → x ≤ N + 2) → ∀ E : Env, E.fn = F → CaseOk P E n f N ts ws B D)
    (hv : ∀ (j : Nat) t v, ts.toArray[j]? = some t → args[j]? = some v → Value.okWide P w r base t v) (hA : DataW.TrodAll enc P w 0 sp held ts args.toList ds ps) :
    Calls P f args w fun e w' => e = .returned (.bool true) ∧ Below w.heap.size w w' := by
  obtain ⟨⟨l, s⟩, hls, hq⟩ := Option.map_eq_some_iff.1 hs
  simp only at hq
  subst hq
  obtain ⟨k1, k2, k3⟩ := args_is (r := r) (base := base) hls (fun i t v ht hv' => hv i t v (by simpa using ht) (by simpa using hv')) hA
  have hk0 := hk (waysOf N l (flat args.toList)) (waysOf_length k1.1) (waysOf_le _ _)
  -- some case is there: its slices can be laid out
  obtain ⟨ctx0, cs0, _, _, hk1⟩ := hk0 ⟨fun _ => .nil, F⟩ rfl
  have hk2 : ∃ b, bld N l (waysOf N l (flat args.toList)) 0 0 = some b ∧ Nat.ble b.n B = true ∧ defsOk B D = true ∧ Nat.ble b.j 1000 = true := by
    unfold treeX at hk1
    rw [hls] at hk1
    simp only at hk1
    split at hk1
    · rename_i b hb
      split at hk1
      · rename_i hB hD hj; exact ⟨b, hb, hB, hD, hj⟩
      · cases hk1
    · cases hk1
  obtain ⟨b, hb, hB, hD, hj⟩ := hk2
  obtain ⟨scs, bss, e1, e2, hall⟩ := bld_ok hb rfl k1 k2
  rw [Nat.zero_add] at e1 e2
  have hB' := Nat.le_of_ble_eq_true hB
  have hj' := Nat.le_of_ble_eq_true hj
  let E := extD ⟨fun i => scs[i]?.getD .nil, F⟩ B D
  obtain ⟨ctx, cs, hctx, hcs, hk'⟩ := hk0 E (extD_fn D)
  unfold treeX at hk'
  rw [hls] at hk'
  simp only [hb, hB, hD, hj] at hk'
  let β : Pl := fun i => bss[i]?
  obtain ⟨g1, g2, g3⟩ := hall E β (fun c => by rw [show E.fn = F from extD_fn D]; exact hF c) (fun i c hi => by
      have hlt := (List.getElem?_eq_some_iff.1 hi).1
      simp only [E]
      rw [Nat.zero_add, extD_old D (by omega)]
      simp [hi]) (fun i x hi => by rw [Nat.zero_add]; exact hi)
  have hfn : E.fn = F := extD_fn D
  have hpc0 : PcOk E (b.pc ++ (cs ++ defsPc B D)) := fun p hp => by
    rcases List.mem_append.1 hp with hp | hp
    · exact g3 p hp
    · rcases List.mem_append.1 hp with hp | hp
      · exact hcs p hp
      · exact extD_pc D hD p hp
  have hfr : Fresh β b.j (2 ^ 256) := fun i hi _ => by
    simp only [β]
    exact List.getElem?_eq_none (by omega)
  have hjl : b.j ≤ 2 ^ 256 := Nat.le_trans hj' (by decide)
  obtain ⟨res, t, h1, h2, h3⟩ := allTrue_ok (pc := []) hk' (call_pc (P := P) hctx.2 n f (group s b.svs) ⟨b.mem, b.j, 2 ^ 256, 2 ^ 200⟩ _ hpc0)
  obtain ⟨_, _, _, hcalls⟩ := call_ok hctx.1 hctx.2 (named_of hN) hmix n f (group s b.svs) ⟨b.mem, b.j, 2 ^ 256, 2 ^ 200⟩ _ res h1 β w args.toList (k3 g1) g2 hfr hjl hpc0
  have e : args.toList.toArray = args := by simp
  rw [e] at hcalls
  refine hcalls.mono fun e w' ⟨v, β', he, hv', hst⟩ => ?_
  rw [h2] at hv'
  have hbb := bool_rep (t := t) (E := E) hv'
  rw [h3] at hbb
  subst hbb
  exact ⟨he, hst.below⟩

/-- Two cases by a test. -/
theorem caseC {n f N B : Nat} {D : List Tm} {ts : List TypeId} {ws : List Nat} {cs : PC} (t : Tm) {E : Env} (hcs : PcOk E cs)
    (h1 : PcOk E ((t, true) :: cs) → CaseOk P E n f N ts ws B D) (h2 : PcOk E ((t, false) :: cs) → CaseOk P E n f N ts ws B D) : CaseOk P E n f N ts ws B D := by
  cases ht : (t.den E).toB with
  | true => exact h1 (hcs.cons ht)
  | false => exact h2 (hcs.cons ht)
end
end Go.Sx
