/- Marking lists: the contracts, for the executor. No condition. -/
import Derived.Test.YtfaamogbkekjcaaEH
import Derived.Test.YtfaamogbkekjcaaSxRes
noncomputable section
namespace Go.Proofs.Ytfaamogbkekjcaa.Leaf
open Go.RowKit Go.Sx
set_option linter.unusedVariables false
set_option linter.unusedSimpArgs false
set_option maxRecDepth 100000
theorem wrapEq (x : Int) : IntKind.i64.wrap x = wrap64 x := by rw [IntKind.wrap_i64]; unfold wrap64; rfl
def lim64 (n : Tm) : Tm := .op .lei n (.il 9223372036854775807)
def lim20 (n : Tm) : Tm := .op .lei n (.il 1048576)
def over (n : Tm) : Tm := .op .lti (.op (.subi .i64) (.il 1048576) n) (.il 0)
theorem Keeps.cell {g : Nat} {w w' : World} (h : Keeps g w w') {p : Addr} (hp : p.block < w.heap.size) (hne : p.block ≠ g) : w'.cell? p = w.cell? p := World.cell?_of_block (h.block _ hp hne)
/-- A block of the call's own stays what it is where another one is written to. -/
theorem ent_keeps {E : Env} {β : Pl} {B g : Nat} {sb : SB} {b : Bs} {w w' : World} (k : Keeps g w w') (hg : b.blk ≠ g) (hr : SB.reads E β sb b w) (ho : SB.owns sb b w) : SB.reads E β sb b w' ∧ SB.owns sb b w' := by
  obtain ⟨h0, arr, e, hh, hrw⟩ := ho
  refine ⟨⟨Nat.lt_of_lt_of_le hr.1 k.size, fun q s hq => ?_, hr.3.imp id fun ⟨g1, g2⟩ => ⟨g1, fun q x hq => ?_⟩, hr.4⟩, h0, arr, e, (k.block _ hr.1 hg).trans hh, hrw⟩
  · obtain ⟨v, hv, hv1⟩ := hr.2 q s hq
    exact ⟨v, (k.cell (p := ⟨b.blk, b.off + q, none⟩) hr.1 hg).trans hv, hv1⟩
  · obtain ⟨v, hv, hv1⟩ := g2 q x hq
    exact ⟨v, (k.cell (p := ⟨b.blk, b.off + q, none⟩) hr.1 hg).trans hv, hv1⟩
theorem owns_keeps {E : Env} {β : Pl} {B g : Nat} {mem : Mem} {w w' : World} (h : Owns E β B mem w) (k : Keeps g w w') (hne : ∀ i sb b, (i, sb) ∈ mem → β i = some b → b.blk ≠ g) : Owns E β B mem w' := by
  refine ⟨fun i sb hi => ?_, h.apart⟩
  obtain ⟨b, hb, hr, hB, ho⟩ := h.ent i sb hi
  obtain ⟨h1, h2⟩ := ent_keeps (B := B) k (hne i sb b hi hb) hr ho
  exact ⟨b, hb, h1, hB, h2⟩
theorem below_keeps {B g : Nat} {w0 w w' : World} (h : Below B w0 w) (k : Keeps g w w') (hB : B ≤ w.heap.size) (hg : B ≤ g) : Below B w0 w' :=
  h.trans ⟨k.os, k.tape, k.output, k.size, fun q hq => k.block q (Nat.lt_of_lt_of_le hq hB) (by omega)⟩
/-- A kind of marks: the cells of a row, what is written, and its symbolic values. -/
structure MkKind where
  m : Nat
  mv : Nat → Value
  sv : Nat → SV
structure MkOk (K : MkKind) : Prop where
  pos : 0 < K.m
  le : K.m ≤ 40
  rep : ∀ (E : Env) (β : Pl) (i : Nat), SV.rep E β (K.sv i) (K.mv i)
  inj : ∀ (E : Env) (β : Pl) (i : Nat) (v : Value), SV.rep E β (K.sv i) v → v = K.mv i
  one : ∀ i, (K.mv i).oneCell' = true
def marksL (sv : Nat → SV) : Nat → Nat → List SV
  | 0, _ => []
  | n + 1, i => sv i :: marksL sv n (i + 1)
theorem marksL_get {sv : Nat → SV} : ∀ {n i q : Nat}, q < n → (marksL sv n i)[q]? = some (sv (i + q))
  | n + 1, i, 0, _ => rfl
  | n + 1, i, q + 1, h => by
    simp only [marksL, List.getElem?_cons_succ]
    rw [marksL_get (by omega), show i + 1 + q = i + (q + 1) by omega]
theorem marksL_len {sv : Nat → SV} : ∀ {n i : Nat}, (marksL sv n i).length = n
  | 0, _ => rfl
  | n + 1, i => by simp [marksL, marksL_len]
/-- The number behind the marks of n rows. -/
def markK (m : Nat) (n : Tm) : Tm := .op (.addi .i64) (.op (.muli .i64) n (.il (.ofNat m))) (.il 1)
/-- A short list of the caller's own: its cells become marks. -/
def markS (K : MkKind) (σ : St) (j n : Nat) : Option (Out (SV × St)) :=
  match find σ.own j with
  | some sb => match Nat.ble (n * K.m) sb.cs.length, Nat.ble n 1000 with
    | true, true => some (.ret (.sc (.int .i64) (.il (.ofNat (1 + K.m * n))), { σ with own := setB σ.own j ⟨marksL K.sv (n * K.m) 0 ++ sb.cs.drop (n * K.m), sb.row⟩, sw := [] }))
    | _, _ => none
  | none => none
def isOne : Tm → Bool
  | .il (.ofNat k) => Nat.beq k 1
  | _ => false
theorem isOne_eq {t : Tm} (h : isOne t = true) : t = .il 1 := by
  unfold isOne at h
  split at h
  · rw [Nat.eq_of_beq_eq_true h]; rfl
  · cases h
/-- A list that grows is as long as it says. -/
def gsRoom (σ : St) (j n : Nat) : Bool :=
  match find σ.own j with
  | some sb => match sb.row with
    | some (_, _, k) => Nat.ble n k
    | none => false
  | none => false
def markX (K : MkKind) (ks : List SK) : List SV → St → Option (Out (SV × St)) := fun args σ => match args with
  | [s, .sc (.int .i64) t1] => match isOne t1 with
    | false => none
    | true => match s with
      | .sl j 0 n => markS K σ j n
      | .gs j n => match gsRoom σ j n with
        | true => markS K σ j n
        | false => none
      | .os j n t => match find σ.own j with
        | some _ => match decB σ.pc (rowsT ks n t), decB σ.pc (lim64 n), decB σ.pc (over n) with
          | some true, some true, some false => some (.ret (.sc (.int .i64) (markK K.m n), { σ with own := dropB σ.own j, pc := (.op .lti (markK K.m n) (.il 0), false) :: σ.pc, sw := [] }))
          | _, _, _ => none
        | none => none
      | _ => none
  | _ => none
section
variable {E : Env} {f : Nat} {K : MkKind} {ks : List SK}
def MkWalk (f : Nat) (K : MkKind) : Prop := ∀ (g len cap : Nat) (w : World) (e : TypeId) (arr : Array Value), w.heap[g]? = some (.cells arr e (0, 0)) → len * K.m ≤ arr.size → len ≤ cap → len ≤ 1048576 →
  Calls Try.prog f #[.slice (some ⟨g, 0, none⟩) len cap, .int .i64 1] w fun e1 w' => e1 = .returned (.int .i64 (1 + K.m * len)) ∧ Mk g e w w' arr K.mv (K.m * len)
theorem markS_ok (hK : MkOk K) (hf : ∃ fn, Try.prog.funcs[f]? = some fn ∧ fn.body.isSome = true) (walk : MkWalk f K) {σ : St} {j n : Nat} {o : Out (SV × St)} {s : SV} (ho : markS K σ j n = some o) {r : SV × St} (hr : o.sel E = some r) (hp : PcOk E σ.pc)
    (hs : ∀ (β : Pl) (v : Value) (b : Bs) (sb : SB) (w : World), find σ.own j = some sb → β j = some b → b.off = 0 → SB.owns sb b w → SV.rep E β s v → ∃ c, v = .slice (some ⟨b.blk, 0, none⟩) n c ∧ n ≤ c) {t1 : Tm} (ht1 : t1 = .il 1) :
    PcOk E r.2.pc ∧ FxOk Try.prog E f [s, .sc (.int .i64) t1] σ r := by
  subst ht1
  unfold markS at ho
  split at ho
  · rename_i sb hsb
    split at ho
    · rename_i hfit hn
      cases ho
      simp only [Out.sel, Option.some.injEq] at hr
      subst hr
      have hfit' := Nat.le_of_ble_eq_true hfit
      have hn' := Nat.le_of_ble_eq_true hn
      refine ⟨hp, fun β w0 w a vals hreps hrep => ⟨hf, ?_⟩⟩
      simp only [SV.reps] at hreps
      obtain ⟨v1, rest, rfl, hv1, v2, rest2, rfl, hv2, rfl⟩ := hreps
      simp only [SV.rep, SK.rep, Tm.den, Sc.toI_i] at hv2
      subst hv2
      have hmem := find_mem hsb
      obtain ⟨b, hb, hreads, hB, ho0⟩ := hrep.own.ent j sb hmem
      have hown := ho0
      obtain ⟨h0, arr, e, hh, hrw⟩ := ho0
      obtain ⟨c, rfl, hlc⟩ := hs β v1 b sb w hsb hb h0 hown hv1
      have hcell : ∀ i v, w.cell? ⟨b.blk, b.off + i, none⟩ = some v → arr[i]? = some v := by
        intro i v hv
        simpa [World.cell?, hh, h0] using hv
      have hsz : sb.cs.length ≤ arr.size := by
        rcases Nat.eq_zero_or_pos sb.cs.length with hz | hz
        · omega
        · obtain ⟨v, hv, _⟩ := hreads.2 (sb.cs.length - 1) _ (List.getElem?_eq_getElem (by omega))
          have := (Array.getElem?_eq_some_iff.1 (hcell _ _ hv)).1
          omega
      refine (walk b.blk n c w e arr hh (by omega) hlc (by omega)).mono fun e' w' ⟨he, hM⟩ => ?_
      obtain ⟨⟨arr', hh', hsz', hmk, hrest⟩, hkp⟩ := hM
      have hcell' : ∀ i, w'.cell? ⟨b.blk, b.off + i, none⟩ = arr'[i]? := fun i => by simp [World.cell?, hh', h0]
      refine ⟨_, β, he, ?_, Ext.refl _ _, ⟨fun i sb2 hi => ?_, fun i sb1 i' sb2 b1 b2 h1 h2 hne hb1 hb2 => ?_⟩, hrep.fresh, hrep.le, below_keeps hrep.below hkp hrep.below.size hB, fun p hp => by cases hp⟩
      · simp only [SV.rep, SK.rep, Tm.den, Sc.toI_i]
        congr 1
      · rcases setB_mem hi with ⟨h1, h2⟩ | ⟨h1, h2⟩
        · simp only at h1 h2
          subst h1; subst h2
          refine ⟨b, hb, ⟨Nat.lt_of_lt_of_le hreads.1 hkp.size, fun q s2 hq => ?_, ?_, hreads.4⟩, hB, h0, arr', e, hh', ?_⟩
          · rw [hcell']
            by_cases hqn : q < n * K.m
            · rw [List.getElem?_append_left (by rw [marksL_len]; exact hqn), marksL_get hqn] at hq
              cases hq
              rw [Nat.zero_add]
              exact ⟨_, hmk q (by rw [Nat.mul_comm]; exact hqn), hK.one q, hK.rep E β q⟩
            · rw [List.getElem?_append_right (by rw [marksL_len]; omega), marksL_len, List.getElem?_drop, show n * K.m + (q - n * K.m) = q by omega] at hq
              obtain ⟨v, hv, hv1, hv2⟩ := hreads.2 q s2 hq
              rw [hrest q (by rw [Nat.mul_comm]; omega)]
              exact ⟨v, hcell _ _ hv, hv1, hv2⟩
          · rcases hreads.3 with h | ⟨h, hg⟩
            · exact .inl h
            · rcases Nat.eq_zero_or_pos (n * K.m) with hz | hz
              · refine .inr ⟨by simp only; rw [h, hz]; rfl, fun q x hq => ?_⟩
                obtain ⟨v, hv, hv1⟩ := hg q x hq
                refine ⟨v, ?_, hv1⟩
                rw [hcell', hrest q (by rw [Nat.mul_comm]; omega)]
                exact hcell _ _ hv
              · rw [h] at hfit'; simp at hfit'; omega
          · have hlen : (marksL K.sv (n * K.m) 0 ++ sb.cs.drop (n * K.m)).length = sb.cs.length := by simp [marksL_len]; omega
            simp only [hlen, hsz']
            exact hrw
        · obtain ⟨b2, hb2, hr2, hB2, ho2⟩ := hrep.own.ent i sb2 h2
          have hne := hrep.own.apart i sb2 j sb b2 b h2 hmem h1 hb2 hb
          obtain ⟨g1, g2⟩ := ent_keeps (B := w0.heap.size) hkp hne hr2 ho2
          exact ⟨b2, hb2, g1, hB2, g2⟩
      · have key : ∀ {i sbi}, (i, sbi) ∈ setB σ.own j ⟨marksL K.sv (n * K.m) 0 ++ sb.cs.drop (n * K.m), sb.row⟩ → ∃ sb2, (i, sb2) ∈ σ.own := by
          intro i sbi hi
          rcases setB_mem hi with ⟨h1, _⟩ | ⟨_, h2⟩
          · simp only at h1; subst h1; exact ⟨sb, hmem⟩
          · exact ⟨sbi, h2⟩
        obtain ⟨s1, m1⟩ := key h1
        obtain ⟨s2, m2⟩ := key h2
        exact hrep.own.apart i s1 i' s2 b1 b2 m1 m2 hne hb1 hb2
    · cases ho
  · cases ho
/-- The contract of marking. -/
theorem markX_ok (hK : MkOk K) (hlen : ks.length = K.m) (hF : ∀ c, E.fn 900 c = F900 c) (hf : ∃ fn, Try.prog.funcs[f]? = some fn ∧ fn.body.isSome = true) (walk : MkWalk f K) :
    ∀ args σ o, markX K ks args σ = some o → ∀ r, o.sel E = some r → PcOk E σ.pc → PcOk E r.2.pc ∧ FxOk Try.prog E f args σ r := by
  intro args σ o ho r hr hp
  unfold markX at ho
  split at ho
  · rename_i s t1
    split at ho
    · cases ho
    · rename_i h1
      have ht1 := isOne_eq h1
      split at ho
      · rename_i j n
        exact markS_ok hK hf walk ho hr hp (fun β v b sb w hsb hb h0 ho2 hv => by
          simp only [SV.rep] at hv
          obtain ⟨b', c, hb', rfl, hc⟩ := hv
          rw [hb] at hb'; cases hb'
          exact ⟨c, by rw [h0], hc⟩) ht1
      · rename_i j n
        split at ho
        · rename_i hroom
          exact markS_ok hK hf walk ho hr hp (fun β v b sb w hsb hb h0 ho2 hv => by
            simp only [SV.rep] at hv
            obtain ⟨b', hb', _, rfl, _⟩ := hv
            rw [hb] at hb'; cases hb'
            refine ⟨_, rfl, ?_⟩
            unfold gsRoom at hroom
            rw [hsb] at hroom
            simp only at hroom
            split at hroom
            · rename_i e' sz k hrow
              obtain ⟨_, arr, e, _, hrw⟩ := ho2
              rw [hrow] at hrw
              have := Nat.le_of_ble_eq_true hroom
              simp only at hrw
              omega
            · cases hroom) ht1
        · cases ho
      · rename_i j n t
        split at ho
        · rename_i sb hsb
          split at ho
          · rename_i hd1 hd2 hd3
            cases ho
            simp only [Out.sel, Option.some.injEq] at hr
            subst hr; subst ht1
            have hm0 := hK.pos
            have hm1 := hK.le
            have h1 := decB_ok hp _ hd1
            simp only [rowsT, Tm.den, hF, F900, Sc.toB_b] at h1
            have hrows := @of_decide_eq_true _ (Classical.propDecidable _) h1
            simp only [Sc.at_zero, Sc.at_succ] at hrows
            rw [ksT_den] at hrows
            replace hrows := hrows.1
            have hlen2 : (ks.map fun k => Sc.i k.n).length = K.m := by simpa using hlen
            have h2 : (n.den E).toI ≤ 9223372036854775807 := of_decide_eq_true (decB_ok hp _ hd2)
            have h3 : ¬ IntKind.i64.wrap (1048576 - (n.den E).toI) < 0 := of_decide_eq_false (decB_ok hp _ hd3)
            have hN : 0 ≤ (n.den E).toI → (n.den E).toI ≤ 1048576 → ((markK K.m n).den E).toI = 1 + K.m * (n.den E).toI := by
              intro p1 p2
              have e1 : (n.den E).toI * Int.ofNat K.m ≤ 1048576 * 40 := Int.mul_le_mul p2 (Int.ofNat_le.2 hm1) (Int.natCast_nonneg _) (by decide)
              have e2 : 0 ≤ (n.den E).toI * Int.ofNat K.m := Int.mul_nonneg p1 (Int.natCast_nonneg _)
              show IntKind.i64.wrap (IntKind.i64.wrap ((n.den E).toI * Int.ofNat K.m) + 1) = _
              rw [wrap_in .i64 (n := (n.den E).toI * Int.ofNat K.m) (by rw [← kmin_eq]; show (-9223372036854775808 : Int) ≤ _; omega) (by rw [← kmax_eq]; show _ ≤ (9223372036854775807 : Int); omega)]
              rw [wrap_in .i64 (by rw [← kmin_eq]; show (-9223372036854775808 : Int) ≤ _; omega) (by rw [← kmax_eq]; show _ ≤ (9223372036854775807 : Int); omega)]
              rw [Int.mul_comm, Int.add_comm]; rfl
            have hle : 0 ≤ (n.den E).toI → (n.den E).toI ≤ 1048576 := by
              intro p1
              rw [wrapEq] at h3
              unfold wrap64 at h3
              omega
            have hn0 : 0 ≤ (n.den E).toI := by
              have h4 := hrows.1
              rw [hlen2] at h4
              by_cases h5 : 0 ≤ (n.den E).toI
              · exact h5
              · have : (n.den E).toI * (K.m : Int) < 0 := Int.mul_neg_of_neg_of_pos (by omega) (by omega)
                omega
            refine ⟨hp.cons ?_, fun β w0 w a vals hreps hrep => ⟨hf, ?_⟩⟩
            · show decide (((markK K.m n).den E).toI < 0) = false
              rw [hN hn0 (hle hn0)]
              have : (0 : Int) ≤ K.m * (n.den E).toI := Int.mul_nonneg (Int.natCast_nonneg _) hn0
              exact decide_eq_false (by omega)
            simp only [SV.reps] at hreps
            obtain ⟨v1, rest, rfl, hv1, v2, rest2, rfl, hv2, rfl⟩ := hreps
            simp only [SV.rep, SK.rep, Tm.den, Sc.toI_i] at hv1 hv2
            subst hv2
            obtain ⟨b, l, c, hb, rfl, hlc, hln, hval⟩ := hv1
            obtain ⟨b2, hb2, hreads, hB, h0, arr, e, hh, _⟩ := hrep.own.ent j sb (find_mem hsb)
            rw [hb] at hb2; cases hb2
            have hvl : b.val.length = l * K.m := by
              have h4 := hrows.1
              rw [hlen2, ← hln, ← hval, ← Int.natCast_mul] at h4
              exact Int.ofNat.inj h4
            have hsz : l * K.m ≤ arr.size := by
              rcases Nat.eq_zero_or_pos (l * K.m) with hz | hz
              · omega
              · rcases hreads.gen with he | ⟨_, hg⟩
                · rw [he] at hvl; simp at hvl; omega
                · have hx : b.val[l * K.m - 1]? = some (b.val[l * K.m - 1]'(by omega)) := List.getElem?_eq_getElem _
                  obtain ⟨v, hv, _⟩ := hg _ _ hx
                  simp only [World.cell?, hh, h0, Nat.zero_add] at hv
                  have := (Array.getElem?_eq_some_iff.1 hv).1
                  omega
            rw [h0]
            refine (walk b.blk l c w e arr hh hsz hlc (by have := hle hn0; omega)).mono fun e' w' ⟨he, hM⟩ => ?_
            have hsub : ∀ x, x ∈ dropB σ.own j → x ∈ σ.own := fun x hx => (dropB_mem hx).2
            refine ⟨_, β, he, ?_, Ext.refl _ _, owns_keeps (hrep.own.sub hsub) hM.keeps (fun i sb2 b2 hi hb2 => ?_), hrep.fresh, hrep.le, below_keeps hrep.below hM.keeps hrep.below.size hB, fun p hp => by cases hp⟩
            · simp only [SV.rep, SK.rep]
              rw [hN hn0 (hle hn0), hln]
            · obtain ⟨hij, hi'⟩ := dropB_mem hi
              exact hrep.own.apart i sb2 j sb b2 b hi' (find_mem hsb) hij hb2 hb
          · cases ho
        · cases ho
      · cases ho
  · cases ho
/-- The marks are looked for where they are. -/
def heldX (K : MkKind) : Sum := fun args m pc => match args with
  | [s, .sc (.int .i64) t1] => match isOne t1, sliceCells m.mem K.m s with
    | true, some (n, cs) => match SV.beqs cs (marksL K.sv (n * K.m) 0), Nat.ble n 1000 with
      | true, true => val m pc (.sc (.int .i64) (.il (.ofNat (1 + K.m * n))))
      | _, _ => .bad 342
    | _, _ => .bad 343
  | _ => .bad 344
def HeldWalk (f : Nat) (K : MkKind) : Prop := ∀ (b off len cap : Nat) (w : World), Held b off (K.m * len) K.mv w → len ≤ 1048576 →
  Calls Try.prog f #[.slice (some ⟨b, off, none⟩) len cap, .int .i64 1] w fun e1 w' => e1 = .returned (.int .i64 (1 + K.m * len)) ∧ Below w.heap.size w w'
theorem held_cells (hK : MkOk K) {β : Pl} {w : World} {sb : SB} {b : Bs} {o n : Nat} {cs : List SV} (hr : SB.reads E β sb b w) (hc : cut sb.cs o (n * K.m) = some cs) (he : SV.beqs cs (marksL K.sv (n * K.m) 0) = true) : Held b.blk (b.off + o) (K.m * n) K.mv w := by
  refine ⟨hr.1, fun i hi => ?_⟩
  have hi' : i < n * K.m := by rw [Nat.mul_comm]; exact hi
  have hcs := SV.beqs_eq _ _ he
  have hx : cs[i]? = some (K.sv i) := by rw [hcs, marksL_get hi', Nat.zero_add]
  obtain ⟨v, hv, _, hrep⟩ := hr.2 (o + i) _ (cut_get hc hx)
  rw [hK.inj E β i v hrep] at hv
  rw [Nat.add_assoc]; exact hv
theorem heldX_ok (hK : MkOk K) (hf : ∃ fn, Try.prog.funcs[f]? = some fn ∧ fn.body.isSome = true) (walk : HeldWalk f K) : SumOk Try.prog E f (heldX K) := by
  intro args m pc r hr β w vals hreps hm hfr hl hp
  unfold heldX at hr
  split at hr
  · rename_i s t1
    split at hr
    · rename_i n cs h1 hsl
      split at hr
      · rename_i hbe hn
        have ht1 := isOne_eq h1
        subst ht1
        simp only [val, Out.sel, Option.some.injEq] at hr
        subst hr
        have hn' := Nat.le_of_ble_eq_true hn
        simp only [SV.reps] at hreps
        obtain ⟨v1, rest, rfl, hv1, v2, rest2, rfl, hv2, rfl⟩ := hreps
        simp only [SV.rep, SK.rep, Tm.den, Sc.toI_i] at hv2
        subst hv2
        have key : ∃ b off c, v1 = .slice (some ⟨b, off, none⟩) n c ∧ Held b off (K.m * n) K.mv w := by
          unfold sliceCells at hsl
          split at hsl
          · rename_i j o n'
            split at hsl
            · rename_i sb hsb
              split at hsl
              · rename_i x hx
                cases hsl
                simp only [SV.rep] at hv1
                obtain ⟨b, c, hbj, rfl, _⟩ := hv1
                obtain ⟨b', hb', hreads⟩ := hm j sb (find_mem hsb)
                rw [hbj] at hb'; cases hb'
                exact ⟨_, _, _, rfl, held_cells hK hreads hx hbe⟩
              · cases hsl
            · cases hsl
          · rename_i j n'
            split at hsl
            · rename_i sb hsb
              split at hsl
              · rename_i x hx
                cases hsl
                simp only [SV.rep] at hv1
                obtain ⟨b, hbj, h0, rfl, _⟩ := hv1
                obtain ⟨b', hb', hreads⟩ := hm j sb (find_mem hsb)
                rw [hbj] at hb'; cases hb'
                have := held_cells (o := 0) hK hreads hx hbe
                rw [h0] at this
                exact ⟨_, _, _, rfl, this⟩
              · cases hsl
            · cases hsl
          · cases hsl
        obtain ⟨b, off, c, rfl, hh⟩ := key
        refine ⟨hp, hl, hf, (walk b off n c w hh (by omega)).mono fun e w' ⟨he, hbel⟩ => ⟨_, β, he, ?_, Step.same _ hbel⟩⟩
        simp only [SV.rep, SK.rep, Tm.den, Sc.toI_i]
        congr 1
      · cases hr
    · cases hr
  · cases hr
theorem heldX_pc (args : List SV) (m : Mm) (pc : PC) (hp : PcOk E pc) : Pcs E Res.pc (heldX K args m pc) := by
  intro r hr
  unfold heldX at hr
  split at hr
  · split at hr
    · split at hr
      · simp only [val, Out.sel, Option.some.injEq] at hr
        subst hr
        exact hp
      · cases hr
    · cases hr
  · cases hr
end
/-! The kinds of marks -/
def kD : MkKind := ⟨6, mvD, fun i => .sc (.int .i16) (.il (IntKind.i16.wrap (.ofNat (i + 1))))⟩
theorem kD_ok : MkOk kD := ⟨by decide, by decide, fun E β i => by simp only [kD, SV.rep, SK.rep, Tm.den, Sc.toI_i]; rfl, fun E β i v h => by simp only [kD, SV.rep, SK.rep, Tm.den, Sc.toI_i] at h; exact h, fun i => rfl⟩
end Go.Proofs.Ytfaamogbkekjcaa.Leaf
