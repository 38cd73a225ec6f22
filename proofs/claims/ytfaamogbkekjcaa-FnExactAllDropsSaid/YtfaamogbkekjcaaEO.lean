/- Open lists: the contracts of marking them, of looking for the marks, and of comparing two. No condition. -/
import Derived.Test.YtfaamogbkekjcaaEF
import Derived.Test.YtfaamogbkekjcaaSxIter
set_option linter.unusedVariables false
set_option linter.unusedSimpArgs false
set_option maxRecDepth 100000
noncomputable section
namespace Go.Proofs.Ytfaamogbkekjcaa.Leaf
open Go.RowKit Go.Sx
theorem named : (Try.prog.funcs.toList.all fun fn => !(fn.name == "runtime.NumGoroutine")) = true := by kernel_rfl
theorem mixed : Try.prog.follows .mixedOrders = true := by kernel_rfl
/-! Marks -/
def noE : Env := ⟨fun _ => .nil, fun _ _ => .nil⟩
def scM (s : SV) : Sc := match s with | .sc k t => .cons (.i k.n) (t.den noE) | _ => .nil
/-- What the marks of so many rows stand for. -/
def marksF (K : MkKind) (c : Sc) : Sc := Sc.ofList ((List.range (c.toI.toNat * K.m)).map fun i => scM (K.sv i))
/-- The marks' kinds are those of the rows. -/
def MkSc (K : MkKind) (ks : List SK) : Prop := ks.length = K.m ∧ ∀ i, ∃ k t, K.sv i = .sc k t ∧ ks[i % K.m]? = some k ∧ ∀ E : Env, t.den E = t.den noE
theorem marksF_get {K : MkKind} {c : Sc} {l : Nat} (hl : c.toI = l) : (marksF K c).list.length = l * K.m ∧ ∀ (i : Nat) (x : Sc), (marksF K c).list[i]? = some x → i < l * K.m ∧ x = scM (K.sv i) := by
  unfold marksF
  rw [ofList_list, hl, Int.toNat_natCast]
  refine ⟨by simp, fun i x hx => ?_⟩
  have hi := (List.getElem?_eq_some_iff.1 hx).1
  simp only [List.length_map, List.length_range] at hi
  refine ⟨hi, ?_⟩
  simp only [List.getElem?_map, List.getElem?_range hi, Option.map_some, Option.some.injEq] at hx
  exact hx.symm
theorem marksF_rows {K : MkKind} {ks : List SK} {c : Sc} {l : Nat} (hk : MkSc K ks) (hl : c.toI = l) : RowsOk (kScs ks) (l : Nat) (marksF K c).list := by
  obtain ⟨h1, h2⟩ := marksF_get (K := K) hl
  have hlen : (kScs ks).length = K.m := by simp [kScs, hk.1]
  refine ⟨by rw [h1, hlen]; simp, fun i x hx => ?_⟩
  obtain ⟨_, rfl⟩ := h2 i x hx
  obtain ⟨k, t, e1, e2, _⟩ := hk.2 i
  refine ⟨t.den noE, ?_⟩
  rw [hlen]
  have : (kScs ks).getD (i % K.m) .nil = .i k.n := by simp [kScs, List.getD, e2]
  rw [this, e1]; rfl
def mayBe (pc : PC) (n : Tm) : Bool := match prove true 60 pc (.op .lei (.il 0) n) with | true => prove true 60 pc (.op .lei n (.il 1048576)) | false => false
theorem mayBe_ok {E : Env} {pc : PC} {n : Tm} (hp : PcOk E pc) (h : mayBe pc n = true) : 0 ≤ (n.den E).toI ∧ (n.den E).toI ≤ 1048576 := by
  unfold mayBe at h
  split at h
  · rename_i h0; exact ⟨of_decide_eq_true (prove_ok 60 hp h0), of_decide_eq_true (prove_ok 60 hp h)⟩
  · cases h
def markO (K : MkKind) (ks : List SK) (id : Nat) : List SV → St → Option (Out (SV × St)) := fun args σ => match args with
  | [s, .sc (.int .i64) t1] => match s with
    | .og j ks' n t => match isOne t1, find σ.own j, eqKs ks ks', mayBe σ.pc n, Nat.blt σ.nxt σ.lim with
      | true, some sb, true, true, true => match sb.row with
        | some (e, z, 0) => some (.ret (.sc (.int .i64) (markK K.m n), { σ with own := (σ.nxt, ⟨[], some (e, z, 0)⟩) :: dropB σ.own j, nxt := σ.nxt + 1, pc := (.op .lti (markK K.m n) (.il 0), false) :: σ.pc, sw := [(.og j ks' n t, .og σ.nxt ks' n (.app id n))] }))
        | _ => none
      | _, _, _, _, _ => none
    | _ => markX K ks args σ
  | _ => none
section
variable {E : Env} {f : Nat} {K : MkKind} {ks : List SK}
theorem markK_den (hK : MkOk K) {n : Tm} {l : Nat} (hl : (l : Int) = (n.den E).toI) (h : l ≤ 1048576) : ((markK K.m n).den E).toI = 1 + K.m * l := by
  have hm0 := hK.pos
  have hm1 := hK.le
  have e1 : l * K.m ≤ 1048576 * 40 := Nat.mul_le_mul h hm1
  show IntKind.i64.wrap (IntKind.i64.wrap ((n.den E).toI * Int.ofNat K.m) + 1) = _
  rw [← hl]
  have e2 : (l : Int) * Int.ofNat K.m = ((l * K.m : Nat) : Int) := by rw [Int.natCast_mul]; rfl
  rw [e2]
  rw [wrap_in .i64 (n := ((l * K.m : Nat) : Int)) (by rw [← kmin_eq]; show (-9223372036854775808 : Int) ≤ _; omega) (by rw [← kmax_eq]; show _ ≤ (9223372036854775807 : Int); omega)]
  rw [wrap_in .i64 (by rw [← kmin_eq]; show (-9223372036854775808 : Int) ≤ _; omega) (by rw [← kmax_eq]; show _ ≤ (9223372036854775807 : Int); omega)]
  rw [Int.natCast_mul, Int.mul_comm, Int.add_comm]
theorem markO_fx (hK : MkOk K) (hk : MkSc K ks) {id : Nat} (hid : ∀ c, E.fn id c = marksF K c) (hF : ∀ c, E.fn 900 c = F900 c) (hf : ∃ fn, Try.prog.funcs[f]? = some fn ∧ fn.body.isSome = true) (walk : MkWalk f K) :
    ∀ args σ o, markO K ks id args σ = some o → ∀ r, o.sel E = some r → PcOk E σ.pc → FxOk Try.prog E f args σ r := by
  intro args σ o ho r hr hp
  unfold markO at ho
  split at ho
  · rename_i s t1
    split at ho
    · rename_i j ks' n t
      split at ho
      · rename_i sb h1 hsb hks hmay hlt
        split at ho
        · rename_i e z hrow
          cases ho
          simp only [Out.sel, Option.some.injEq] at hr
          subst hr
          have := isOne_eq h1
          subst this
          have := eqKs_eq hks
          subst this
          have hlt' : σ.nxt < σ.lim := by simpa [Nat.blt_eq] using hlt
          intro β w0 w a vals hreps hrep
          refine ⟨hf, ?_⟩
          simp only [SV.reps] at hreps
          obtain ⟨v1, rest, rfl, hv1, v2, rest2, rfl, hv2, rfl⟩ := hreps
          simp only [SV.rep, SK.rep, Tm.den, Sc.toI_i] at hv2
          subst hv2
          have hv1' := hv1
          simp only [SV.rep] at hv1
          obtain ⟨b, l, hb, rfl, hlc, hcm, hln, hval, hrows⟩ := hv1
          have hmem := find_mem hsb
          obtain ⟨b2, hb2, hreads, hB, h0', arr, e2, hh, hrw⟩ := hrep.own.ent j sb hmem
          rw [hb] at hb2; cases hb2
          have h0 := h0'
          rw [h0] at hv1' ⊢
          rw [hrow] at hrw
          simp only at hrw
          obtain ⟨rfl, hasz, _, hcapm, _⟩ := hrw
          have hl20 : l ≤ 1048576 := by
            have := (mayBe_ok hp hmay).2
            omega
          have hvl : b.val.length = l * K.m := by rw [hrows.len, hk.1]
          have hsz : l * K.m ≤ arr.size := by
            rcases Nat.eq_zero_or_pos (l * K.m) with hz | hz
            · omega
            · rcases hreads.gen with he | ⟨_, hg⟩
              · rw [he] at hvl; simp at hvl; omega
              · have hx : b.val[l * K.m - 1]? = some (b.val[l * K.m - 1]'(by omega)) := List.getElem?_eq_getElem _
                obtain ⟨v, hv, _⟩ := hg _ _ hx
                simp only [World.cell?, hh, h0, Nat.zero_add] at hv
                have := (Array.getElem?_eq_some_iff.1 hv).1
                omega
          refine (walk b.blk l b.cap w e2 arr hh hsz hlc hl20).mono fun e' w' ⟨he, hM⟩ => ?_
          obtain ⟨⟨arr', hh', hs', hmk, hrest⟩, hkp⟩ := hM
          have hln' : (n.den E).toI = (l : Nat) := hln.symm
          obtain ⟨m1, m2⟩ := marksF_get (K := K) hln'
          have hmr := marksF_rows hk hln'
          have hnone : β σ.nxt = none := hrep.fresh _ (Nat.le_refl _) hlt'
          have hmono : Pl.le β (upd β σ.nxt ⟨b.blk, 0, b.cap, (marksF K (n.den E)).list⟩) := upd_le hrep.fresh hlt' _
          have hat : upd β σ.nxt ⟨b.blk, 0, b.cap, (marksF K (n.den E)).list⟩ σ.nxt = some ⟨b.blk, 0, b.cap, (marksF K (n.den E)).list⟩ := by simp [upd]
          have others : ∀ i sbi c, (i, sbi) ∈ dropB σ.own j → β i = some c → c.blk ≠ b.blk := fun i sbi c hi hc => by
            obtain ⟨hij, hi'⟩ := dropB_mem hi
            exact hrep.own.apart i sbi j sb _ _ hi' hmem hij hc hb
          have blkne : ∀ i sbi c, (i, sbi) ∈ dropB σ.own j → upd β σ.nxt ⟨b.blk, 0, b.cap, (marksF K (n.den E)).list⟩ i = some c → c.blk ≠ b.blk := fun i sbi c hi hc => by
            obtain ⟨c2, hc2, _⟩ := hrep.own.ent i sbi (dropB_mem hi).2
            have := hmono i c2 hc2
            rw [hc] at this; cases this
            exact others i sbi _ hi hc2
          have hzero : (marksF K (n.den E)).list = [] → b.cap = 0 := fun hn => by
            have hl0 : l = 0 := by
              rw [hn] at m1
              simp only [List.length_nil] at m1
              rcases Nat.eq_zero_or_pos l with h | h
              · exact h
              · have := Nat.mul_pos h hK.pos; omega
            refine hreads.zc _ _ hrow ?_
            subst hl0
            exact List.eq_nil_of_length_eq_zero (by rw [hvl]; simp)
          refine ⟨_, upd β σ.nxt ⟨b.blk, 0, b.cap, (marksF K (n.den E)).list⟩, he, ?_, ext_upd hrep.fresh hlt' _, ⟨fun i sb2 hi => ?_, fun i sb1 i' sb2 b1 b2 g1 g2 hne hb1 hb2 => ?_⟩, fun i hi1 hi2 => ?_, hlt', below_keeps hrep.below hkp hrep.below.size hB, fun p hp' u hu => ?_⟩
          · simp only [SV.rep, SK.rep]
            rw [markK_den hK hln hl20]
          · rcases List.mem_cons.1 hi with hi | hi
            · cases hi
              refine ⟨_, hat, ⟨(Array.getElem?_eq_some_iff.1 hh').1, fun q s hq => by simp at hq, .inr ⟨rfl, fun i x hx => ?_⟩, fun _ _ h hn => hzero hn⟩, hB, rfl, arr', e2, hh', rfl, by rw [hs']; exact hasz, Nat.zero_le _, hcapm, by simp⟩
              obtain ⟨hi, rfl⟩ := m2 i x hx
              obtain ⟨k, t', c1, c2, c3⟩ := hk.2 i
              refine ⟨K.mv i, by simp only [World.cell?, hh', Nat.zero_add]; exact hmk i (by rw [Nat.mul_comm]; exact hi), hK.one i, k, t'.den noE, by rw [c1]; rfl, ?_⟩
              have := hK.rep E β i
              rw [c1] at this
              simp only [SV.rep] at this
              rw [← c3 E]; exact this
            · obtain ⟨b3, hb3, hr3, hB3, ho3⟩ := hrep.own.ent i sb2 (dropB_mem hi).2
              obtain ⟨g1, g2⟩ := ent_keeps (B := w0.heap.size) hkp (others i sb2 b3 hi hb3) hr3 ho3
              exact ⟨b3, hmono i b3 hb3, SB.reads_below g1 hmono (Below.refl _ _), hB3, g2⟩
          · rcases List.mem_cons.1 g1 with g1 | g1 <;> rcases List.mem_cons.1 g2 with g2 | g2
            · cases g1; cases g2; exact absurd rfl hne
            · cases g1
              rw [hat] at hb1; cases hb1
              exact fun e => blkne _ _ _ g2 hb2 e.symm
            · cases g2
              rw [hat] at hb2; cases hb2
              exact blkne _ _ _ g1 hb1
            · obtain ⟨c1, hc1, _⟩ := hrep.own.ent i sb1 (dropB_mem g1).2
              obtain ⟨c2, hc2, _⟩ := hrep.own.ent i' sb2 (dropB_mem g2).2
              have e1 := hmono i c1 hc1
              have e2 := hmono i' c2 hc2
              rw [hb1] at e1; rw [hb2] at e2
              cases e1; cases e2
              exact hrep.own.apart i sb1 i' sb2 _ _ (dropB_mem g1).2 (dropB_mem g2).2 hne hc1 hc2
          · have h1' : σ.nxt + 1 ≤ i := hi1
            unfold upd
            rw [if_neg (by omega)]
            exact hrep.fresh i (by omega) hi2
          · simp only [List.mem_cons, List.not_mem_nil, or_false] at hp'
            subst hp'
            simp only [SV.rep] at hu ⊢
            obtain ⟨b3, l3, hb3, k1, k2, k3, k4, k5, k6⟩ := hu
            rw [hb] at hb3; cases hb3
            have hll : l3 = l := by omega
            subst hll
            exact ⟨_, l3, hat, by rw [← h0]; exact k1, k2, k3, k4, by simp only [Tm.den]; rw [hid], hmr⟩
        · cases ho
      · cases ho
    · exact (markX_ok hK hk.1 hF hf walk _ σ o ho r hr hp).2
  · cases ho
theorem markO_pc (hK : MkOk K) (hk : MkSc K ks) {id : Nat} (hF : ∀ c, E.fn 900 c = F900 c) (hf : ∃ fn, Try.prog.funcs[f]? = some fn ∧ fn.body.isSome = true) (walk : MkWalk f K) :
    ∀ args σ o, markO K ks id args σ = some o → PcOk E σ.pc → Pcs E (fun r => r.2.pc) o := by
  intro args σ o ho hp r hr
  have old : ∀ args, markX K ks args σ = some o → PcOk E r.2.pc := fun args ho => (markX_ok hK hk.1 hF hf walk args σ o ho r hr hp).1
  unfold markO at ho
  split at ho
  · rename_i s t1
    split at ho
    · rename_i j ks' n t
      split at ho
      · rename_i sb h1 hsb hks hmay hlt
        split at ho
        · cases ho
          simp only [Out.sel, Option.some.injEq] at hr
          subst hr
          obtain ⟨n0, n1⟩ := mayBe_ok hp hmay
          refine hp.cons ?_
          show decide (((markK K.m n).den E).toI < 0) = false
          rw [markK_den hK (l := (n.den E).toI.toNat) (by omega) (by omega)]
          have : (0 : Int) ≤ K.m * ((n.den E).toI.toNat : Int) := Int.mul_nonneg (Int.natCast_nonneg _) (Int.natCast_nonneg _)
          exact decide_eq_false (by omega)
        · cases ho
      · cases ho
    · exact old _ ho
  · cases ho
/-! Looking for marks -/
def heldO (K : MkKind) (id : Nat) : Sum := fun args m pc => match args with
  | [s, .sc (.int .i64) t1] => match s with
    | .og j ks' n t => match t with
      | .app i n' => match isOne t1, Nat.beq i id, n.beq n', find m.mem j, mayBe pc n with
        | true, true, true, some _, true => val m pc (.sc (.int .i64) (markK K.m n))
        | _, _, _, _, _ => .bad 345
      | _ => .bad 346
    | s => heldX K [s, .sc (.int .i64) t1] m pc
  | _ => .bad 347
theorem heldO_ok (hK : MkOk K) (hk : MkSc K ks) {id : Nat} (hid : ∀ c, E.fn id c = marksF K c) (hf : ∃ fn, Try.prog.funcs[f]? = some fn ∧ fn.body.isSome = true) (walk : HeldWalk f K) : SumOk Try.prog E f (heldO K id) := by
  intro args m pc r hr
  unfold heldO at hr
  split at hr
  · rename_i s t1
    split at hr
    · rename_i j ks' n t
      split at hr
      · rename_i i n'
        split at hr
        · rename_i sb h1 hi hn hfd hmay
          intro β w vals hreps hm hfr hl hp
          have ht1 := isOne_eq h1
          subst ht1
          have hii := Nat.eq_of_beq_eq_true hi
          subst hii
          have hnn := Tm.beq_eq hn
          subst hnn
          simp only [val, Out.sel, Option.some.injEq] at hr
          subst hr
          simp only [SV.reps] at hreps
          obtain ⟨v1, rest, rfl, hv1, v2, rest2, rfl, hv2, rfl⟩ := hreps
          simp only [SV.rep, SK.rep, Tm.den, Sc.toI_i] at hv1 hv2
          subst hv2
          obtain ⟨b, l, hb, rfl, hlc, hcm, hln, hval, hrows⟩ := hv1
          obtain ⟨b', hb', hreads⟩ := hm j sb (find_mem hfd)
          rw [hb] at hb'; cases hb'
          have hl20 : l ≤ 1048576 := by have := (mayBe_ok hp hmay).2; omega
          have hln' : (n.den E).toI = (l : Nat) := hln.symm
          obtain ⟨m1, m2⟩ := marksF_get (K := K) hln'
          rw [hid] at hval
          have held : Held b.blk b.off (K.m * l) K.mv w := by
            refine ⟨hreads.1, fun i hi => ?_⟩
            have hi' : i < (marksF K (n.den E)).list.length := by rw [m1, Nat.mul_comm]; exact hi
            have hx : b.val[i]? = some ((marksF K (n.den E)).list[i]'hi') := by rw [hval]; exact List.getElem?_eq_getElem hi'
            rcases hreads.gen with he | ⟨_, hg⟩
            · rw [he] at hx; simp at hx
            · obtain ⟨v, c1, _, k', c, c2, c3⟩ := hg i _ hx
              obtain ⟨_, c4⟩ := m2 i _ (List.getElem?_eq_getElem hi')
              rw [c4] at c2
              obtain ⟨k, t', d1, _, d3⟩ := hk.2 i
              rw [d1] at c2
              simp only [scM, Sc.cons.injEq, Sc.i.injEq, Int.natCast_inj] at c2
              have hkk := SK.n_inj c2.1
              subst hkk
              have hv : SV.rep E β (K.sv i) v := by
                rw [d1]
                simp only [SV.rep]
                rw [d3 E, c2.2]; exact c3
              rw [hK.inj E β i v hv] at c1
              exact c1
          refine ⟨hp, hl, hf, (walk b.blk b.off l b.cap w held hl20).mono fun e w' ⟨he, hbel⟩ => ⟨_, β, he, ?_, Step.same _ hbel⟩⟩
          simp only [SV.rep, SK.rep]
          rw [markK_den hK hln hl20]
        · cases hr
      · cases hr
    · exact heldX_ok hK hf walk _ m pc r hr
  · cases hr
theorem heldO_pc {id : Nat} (args : List SV) (m : Mm) (pc : PC) (hp : PcOk E pc) : Pcs E Res.pc (heldO K id args m pc) := by
  unfold heldO
  split
  · split
    · split
      · split
        · exact .val hp
        · exact .bad
      · exact .bad
    · exact heldX_pc _ m pc hp
  · exact .bad
/-! Two open lists of the same rows are the same -/
def eqO : Sum := fun args m pc => match args with
  | [.og j ks n t, .og j' ks' n' t'] => match n.beq n', t.beq t', eqKs ks ks', mayBe pc n, find m.mem j, find m.mem j' with
    | true, true, true, true, some _, some _ => val m pc (.sc .bool (.bl true))
    | _, _, _, _, _, _ => .bad 348
  | _ => .bad 349
theorem eqO_pc (args : List SV) (m : Mm) (pc : PC) (hp : PcOk E pc) : Pcs E Res.pc (eqO args m pc) := by
  unfold eqO
  repeat' split
  all_goals first | exact .val hp | exact .bad
end
def invE : PC := [(.op .lei (.il 0) (.var 100000), true), (.op .lei (.il 0) (.var 0), true), (.op .lei (.var 0) (.il 1048576), true)]
def SE : LoopSpec := { b := 100000, places := [.slot 5], args := varsL 2 0, N := 901, pre := invE, inv := invE, cond := .op .lti (.var 100000) (.var 0), pol := false, next := [.op (.addi .i64) (.var 100000) (.il 1)] }
def cE : Ctx := withLoops (ctxL []) Try.prog 1000 [(4, SE)]
def mE : Mm := ⟨[(0, ⟨[], none⟩), (1, ⟨[], none⟩)], 2, 2 ^ 256, 2 ^ 200⟩
def pcE : PC := [(.op .lei (.il 0) (.var 0), true), (.op .lei (.var 0) (.il 1048576), true)]
def rE (f : Nat) (ks : List SK) : Out Res := call cE Try.prog 1000 f [.og 0 ks (.var 0) (.var 1), .og 1 ks (.var 0) (.var 1)] mE pcE
theorem SE_count : countB SE 2 0 true (.var 0) = true := by kernel_rfl
theorem SE_closed : SE.closed 2 = true := by kernel_rfl
def isTrueO : Out Res → Bool
  | .ret r => match r.v with
    | .sc .bool (.bl true) => true
    | _ => false
  | _ => false
theorem isTrueO_sel {E : Env} {o : Out Res} (h : isTrueO o = true) : ∃ r, o.sel E = some r ∧ r.v = .sc .bool (.bl true) := by
  unfold isTrueO at h
  split at h
  · rename_i r
    split at h
    · rename_i hv; exact ⟨r, rfl, hv⟩
    · cases h
  · cases h
def eqOk (ks0 : List SK) : Sum := fun args m pc => match args with
  | [.og j ks n t, .og j' ks' n' t'] => match eqKs ks ks0 with
    | true => eqO [.og j ks n t, .og j' ks' n' t'] m pc
    | false => .bad 350
  | _ => .bad 351
theorem eqOk_pc {E : Env} {ks0 : List SK} (args : List SV) (m : Mm) (pc : PC) (hp : PcOk E pc) : Pcs E Res.pc (eqOk ks0 args m pc) := by
  unfold eqOk
  split
  · split
    · exact eqO_pc _ m pc hp
    · exact .bad
  · exact .bad
theorem eqO_ok {E : Env} {f : Nat} {ks0 : List SK} (hk : isTrueO (rE f ks0) = true) (hf : ∃ fn, Try.prog.funcs[f]? = some fn ∧ fn.body.isSome = true) :
    SumOk Try.prog E f (eqOk ks0) := by
  intro args m pc r hr β w vals hreps hm hfr hl hp
  unfold eqOk at hr
  split at hr
  · rename_i j ks n t j' ks' n' t'
    split at hr
    · rename_i hks0
      have := eqKs_eq hks0
      subst this
      unfold eqO at hr
      simp only at hr
      split at hr
      · rename_i sb sb' hn ht hks hmay hf1 hf2
        have := Tm.beq_eq hn
        subst this
        have := Tm.beq_eq ht
        subst this
        have := eqKs_eq hks
        subst this
        simp only [val, Out.sel, Option.some.injEq] at hr
        subst hr
        refine ⟨hp, hl, hf, ?_⟩
        simp only [SV.reps] at hreps
        obtain ⟨v1, rest, rfl, hv1, v2, rest2, rfl, hv2, rfl⟩ := hreps
        obtain ⟨b1, hb1, hr1⟩ := hm j sb (find_mem hf1)
        obtain ⟨b2, hb2, hr2⟩ := hm j' sb' (find_mem hf2)
        obtain ⟨n0, n1⟩ := mayBe_ok hp hmay
        let F : Nat → Sc → Sc := fun _ _ => .nil
        let E' : Env := ⟨fun i => if i = 0 then n.den E else if i = 1 then t.den E else .nil, natF F 901 (loopN SE 2 F)⟩
        let β' : Pl := fun i => if i = 0 then some b1 else if i = 1 then some b2 else none
        have e0 : (Tm.var 0).den E' = n.den E := rfl
        have e1 : (Tm.var 1).den E' = t.den E := rfl
        have hpE : PcOk E' pcE := fun p hp => by
          simp only [pcE, List.mem_cons, List.not_mem_nil, or_false] at hp
          rcases hp with rfl | rfl
          · exact decide_eq_true n0
          · exact decide_eq_true n1
        have hlaw : ∀ E2 : Env, E2.fn = E'.fn → LoopLaw SE E2 := fun E2 h2 => count_law (F := F) SE_count SE_closed rfl rfl rfl rfl rfl (fun c => by rw [h2]; show natF F 901 (loopN SE 2 F) 901 c = _; unfold natF; rw [if_pos rfl]) (fun k hk => by rw [h2]; exact natF_lt (F := F) (N := 901) (g := loopN SE 2 F) (Nat.ne_of_lt (show k < 901 from hk)))
        have hC : ∀ E2 : Env, E2.fn = E'.fn → CtxOk Try.prog E2 cE ∧ CtxPc E2 cE := fun E2 h2 => withLoops_ok (fun E3 _ => ctxL_nil) (named_of named) mixed (fun k S hS => by
          simp only [List.mem_cons, Prod.mk.injEq, List.not_mem_nil, or_false] at hS
          obtain ⟨_, rfl⟩ := hS
          exact hlaw E2 h2)
        obtain ⟨r0, hr0, hrv⟩ := isTrueO_sel (E := E') hk
        have og' : ∀ (i j : Nat) (b : Bs) (v : Value), β j = some b → β' i = some b → SV.rep E β (.og j ks n t) v → SV.rep E' β' (.og i ks (.var 0) (.var 1)) v := by
          intro i j b v hb hb' h
          simp only [SV.rep] at h ⊢
          obtain ⟨b0, l, g0, g⟩ := h
          rw [hb] at g0; cases g0
          exact ⟨b, l, hb', g⟩
        have hread : ∀ (i j : Nat) (sb : SB) (b : Bs), SB.reads E β sb b w → SB.reads E' β' ⟨[], none⟩ b w := fun i j sb b h => ⟨h.1, fun q s hq => by simp at hq, h.3.imp id fun g => ⟨rfl, g.2⟩, fun _ _ h => by cases h⟩
        obtain ⟨_, _, _, hcalls⟩ := call_ok (hC E' rfl).1 (hC E' rfl).2 (named_of named) mixed 1000 f _ mE pcE r0 hr0 β' w [v1, v2]
          (by simp only [reps_cons, reps_nil]; exact ⟨og' 0 j b1 v1 hb1 rfl hv1, og' 1 j' b2 v2 hb2 rfl hv2, trivial⟩)
          (fun i sbi hi => by
            simp only [mE, List.mem_cons, Prod.mk.injEq, List.not_mem_nil, or_false] at hi
            rcases hi with ⟨rfl, rfl⟩ | ⟨rfl, rfl⟩
            · exact ⟨b1, rfl, hread 0 j sb b1 hr1⟩
            · exact ⟨b2, rfl, hread 1 j' sb' b2 hr2⟩)
          (fun i hi _ => by
            have : 2 ≤ i := hi
            show (if i = 0 then some b1 else if i = 1 then some b2 else none) = none
            rw [if_neg (by omega), if_neg (by omega)]) (by decide) hpE
        refine hcalls.mono fun e w' ⟨v, β'', he, hv, hst⟩ => ⟨_, β, he, ?_, Step.same _ hst.below⟩
        rw [hrv] at hv
        simp only [SV.rep, SK.rep] at hv ⊢
        exact hv
      · cases hr
    · cases hr
  · cases hr
end Go.Proofs.Ytfaamogbkekjcaa.Leaf
