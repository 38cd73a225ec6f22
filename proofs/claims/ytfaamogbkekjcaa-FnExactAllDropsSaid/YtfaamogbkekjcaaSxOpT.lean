/- The symbolic executor's single operations are sound, second part: comparing arrays, conversions, slices, and all of them. No condition. -/
import Derived.Test.YtfaamogbkekjcaaSxOpS
set_option linter.unusedVariables false
set_option linter.unusedSimpArgs false
noncomputable section
namespace Go.Sx
open Go Go.RowKit

section
variable {P : Program} {E : Env} {β : Pl} {m : Mm} {w : World} {pc : PC} {r : Res}

theorem mkEqs_den (a b : Tm) : ((mkEqs a b).den E).toB = decide ((a.den E).toS = (b.den E).toS) := by
  unfold mkEqs
  split
  · rename_i h; rw [Tm.beq_eq h]; simp [Tm.den]
  · rw [mkOp_den]; rfl
theorem bytes_eq (a b : List UInt8) : ((⟨a.toArray⟩ : ByteArray).toList == (⟨b.toArray⟩ : ByteArray).toList) = decide (a = b) := by
  rw [ByteArray.toList_eq, ByteArray.toList_eq]
  rw [Bool.eq_iff_iff]; simp
theorem strBin_ok {op : BinOp} {a b : Tm} (hp : PcOk E pc) (hl : m.nxt ≤ m.lim) (h : (strBin m pc op a b).sel E = some r) (t : TypeId) :
    OpOk P E β m.nxt m.lim w (binOp op t (.string ⟨(a.den E).toS.toArray⟩) (.string ⟨(b.den E).toS.toArray⟩)) r := by
  have hb : ∀ op, op ≠ .shl → op ≠ .shr → binOp op t (.string ⟨(a.den E).toS.toArray⟩) (.string ⟨(b.den E).toS.toArray⟩) = Op.stringOp op ⟨(a.den E).toS.toArray⟩ ⟨(b.den E).toS.toArray⟩ := by
    intro op h1 h2; cases op <;> first | exact absurd rfl h1 | exact absurd rfl h2 | simp [binOp]
  cases op <;> simp only [strBin, Out.sel, reduceCtorEq] at h
  case eql =>
    rw [hb _ (by simp) (by simp)]
    exact .val hl hp rfl (rep_bool (by rw [mkEqs_den]; exact bytes_eq _ _)) h
  case neq =>
    rw [hb _ (by simp) (by simp)]
    exact .val hl hp rfl (rep_bool (by rw [mkNot_den, mkEqs_den]; exact congrArg (!·) (bytes_eq _ _))) h
  case add =>
    rw [hb _ (by simp) (by simp)]
    obtain ⟨pc', hp', h⟩ := fork_sel hp h
    rcases h with ⟨hz, h⟩ | ⟨_, h⟩
    · rw [mkOp_den] at hz
      have hz' : (((a.den E).toS.length + (b.den E).toS.length : Nat) : Int) ≤ IntKind.i64.max := of_decide_eq_true hz
      refine .val (v := .string ⟨((a.den E).toS ++ (b.den E).toS).toArray⟩) hl hp' ?_ ?_ h
      · have : ¬ (((⟨(a.den E).toS.toArray⟩ : ByteArray).size + (⟨(b.den E).toS.toArray⟩ : ByteArray).size : Nat) : Int) > IntKind.i64.max := by
          simp only [ByteArray.size, List.size_toArray]; omega
        simp only [Op.stringOp, Sem.run_ite, if_neg this, Sem.run_pure, Result.ok.injEq, Value.string.injEq, and_true]
        apply ByteArray.ext
        simp [ByteArray.data_append]
      · simp [SV.rep, SK.rep, mkOp_den, Opc.den]
    · cases h

theorem mkEqb_den (a b : Tm) : ((mkEqb a b).den E).toB = ((a.den E).toB == (b.den E).toB) := by
  unfold mkEqb
  split
  · rename_i h; rw [Tm.beq_eq h]; simp [Tm.den]
  · split
    · simp [Tm.den]
    · rw [mkNot_den]; simp [Tm.den]
    · split
      · simp [Tm.den]
      · rw [mkNot_den]; simp [Tm.den]
      · rw [mkOp_den]; rfl

theorem eqCell_run {e : TypeId} {x y : SV} {q : Tm} (h : eqCell P e x y = some q) {vx vy : Value} (hx : SV.rep E β x vx) (hy : SV.rep E β y vy) (d : Nat) (w : World) :
    (Op.equalIn (d + 1) e vx vy).run P w = .ok (q.den E).toB w ∧ aggT P e = some false := by
  unfold eqCell at h
  split at h
  · rename_i hu
    cases h
    rw [bool_rep hx, bool_rep hy, mkEqb_den]
    exact ⟨run_equalIn_bool _ _ _ _ _ hu, by simp [aggT, hu]⟩
  · rename_i hu
    split at h
    · rename_i hk
      cases h
      have := ki_inj (Nat.eq_of_beq_eq_true hk)
      subst this
      rw [int_rep hx, int_rep hy, cmpI_den _ _ _ _ eqi_self]
      refine ⟨?_, by simp [aggT, hu]⟩
      rw [run_equalIn_int _ _ _ _ _ _ _ hu]
      rfl
    · cases h
  · rename_i hu
    split at h
    · rename_i hk
      cases h
      have := kf_inj (Nat.eq_of_beq_eq_true hk)
      subst this
      obtain ⟨p, rfl, hp⟩ := float_rep hx
      obtain ⟨p', rfl, hp'⟩ := float_rep hy
      rw [mkFeq_den, ← hp, ← hp']
      refine ⟨?_, by simp [aggT, hu]⟩
      simp only [Op.equalIn, Sem.run_bind, run_underlying hu, Result.andThen_ok, if_true, Sem.run_pure, Op.floatEq, F.eq, order_canon]
    · cases h
  · cases h

theorem part_one {e : TypeId} (ha : aggT P e = some false) {vs : List Value} {i : Nat} {v : Value} (hv : vs[i]? = some v) (w : World) : (part e vs.toArray i).run P w = .ok v w := by
  unfold part
  simp [aggT_run ha, hv]

/-- One round of the model's comparison of two arrays, and what is left of it. -/
theorem eqLoop_run {e : TypeId} (d : Nat) : ∀ {xs ys : List SV} {q : Tm}, eqCells P e xs ys = some q → ∀ (vx vy px py : List Value), SV.reps E β xs vx → SV.reps E β ys vy → px.length = py.length → ∀ w,
    (forIn (List.range' px.length vx.length) ((none, ()) : Option Bool × Unit) (fun i _ => do
      let b ← Op.equalIn (d + 1) e (← part e (px ++ vx).toArray (i * 1)) (← part e (py ++ vy).toArray (i * 1))
      if (!b) = true then pure (ForInStep.done ((some false, ()) : Option Bool × Unit)) else pure (ForInStep.yield ((none, ()) : Option Bool × Unit)))).run P w =
      .ok ((if (q.den E).toB then none else some false), ()) w
  | [], [], q, h, vx, vy, px, py, hx, hy, _, w => by
    simp at hx hy
    subst hx; subst hy
    cases h
    simp [Tm.den]
  | x :: xs, y :: ys, q, h, vx, vy, px, py, hx, hy, hl, w => by
    simp only [eqCells] at h
    split at h
    · cases h
    · rename_i a ha
      split at h
      · cases h
      · rename_i b hb
        cases h
        simp only [SV.reps] at hx hy
        obtain ⟨v, rx, rfl, hv, hrx⟩ := hx
        obtain ⟨u, ry, rfl, hu, hry⟩ := hy
        obtain ⟨h1, h2⟩ := eqCell_run ha hv hu d w
        have p1 : (part e (px ++ v :: rx).toArray px.length).run P w = .ok v w := part_one h2 (by simp) w
        have p2 : (part e (py ++ u :: ry).toArray px.length).run P w = .ok u w := part_one h2 (by rw [hl]; simp) w
        have ih := eqLoop_run d hb rx ry (px ++ [v]) (py ++ [u]) hrx hry (by simp [hl]) w
        simp only [List.append_assoc, List.singleton_append, List.length_append, List.length_cons, List.length_nil, Nat.zero_add] at ih
        simp only [List.length_cons, List.range'_succ, List.forIn_cons, Sem.run_bind, Nat.mul_one, p1, p2, Result.andThen_ok, h1, mkIteB_den, Tm.den, Sc.toB_b]
        cases (a.den E).toB
        · simp
        · simp only [Nat.mul_one] at ih
          simp only [Bool.not_true, Bool.false_eq_true, if_false, Sem.run_bind, Sem.run_pure, Result.andThen_ok, if_true]
          exact ih
  | [], _ :: _, _, h, _, _, _, _, _, _, _, _ => by cases h
  | _ :: _, [], _, h, _, _, _, _, _, _, _, _ => by cases h

theorem eqArr_runD {t : TypeId} {xs ys : List SV} {q : Tm} (h : eqArr P t xs ys = some q) {vx vy : Array Value} (hx : SV.reps E β xs vx.toList) (hy : SV.reps E β ys vy.toList) (d : Nat) (w : World) :
    (Op.equalIn (d + 1 + 1) t (.agg vx) (.agg vy)).run P w = .ok (q.den E).toB w ∧ P.eqGuardType P.depth t = false := by
  unfold eqArr at h
  split at h
  · rename_i n e hu
    split at h
    · rename_i hn hs hg
      refine ⟨?_, hg⟩
      have hn' : xs.length = n := Nat.eq_of_beq_eq_true hn
      have hlx := reps_length hx
      have key := eqLoop_run (P := P) d h vx.toList vy.toList [] [] hx hy rfl w
      simp only [List.nil_append, List.length_nil, Array.toArray_toList] at key
      rw [Op.equalIn]
      simp only [Sem.run_bind, run_underlying hu, Result.andThen_ok, szT_run hs]
      simp only [Std.Legacy.Range.forIn_eq_forIn_range', Std.Legacy.Range.size]
      have hsz : (n - 0 + 1 - 1) / 1 = vx.toList.length := by rw [Nat.div_one]; omega
      rw [hsz]
      rw [key]
      simp only [Result.andThen_ok]
      cases (q.den E).toB <;> rfl
    · cases h
  · cases h

theorem eqBool_run {op : BinOp} {t : TypeId} {a b : Tm} (hp : PcOk E pc) (hl : m.nxt ≤ m.lim) (ht : P.underlying t = some .bool)
    (h : (match op with | .eql => val m pc (.sc .bool (mkEqb a b)) | .neq => val m pc (.sc .bool (mkNot (mkEqb a b))) | _ => .bad 22).sel E = some r) :
    OpOk P E β m.nxt m.lim w (binOp op t (.bool (a.den E).toB) (.bool (b.den E).toB)) r := by
  split at h
  · exact .val hl hp (run_eql_bool _ _ _ _ ht) (rep_bool (by rw [mkEqb_den])) h
  · exact .val hl hp (run_neq_bool _ _ _ _ ht) (rep_bool (by rw [mkNot_den, mkEqb_den])) h
  · cases h

/-- A run of two parts, of which the first gives nothing and turns nothing. -/
theorem guard_run {α : Type} {s : Sem Unit} {f : Unit → Sem α} (h : s.run P w = .ok () w) : (s >>= f).run P w = (f ()).run P w := by
  simp [h]

theorem isNilS_rep {x : SV} {vx : Value} {b : Bool} (hx : SV.rep E β x vx) (h : isNilS x = some b) : ∃ (s : Option Addr) (n c : Nat), vx = .slice s n c ∧ s.isNone = b := by
  unfold isNilS at h
  split at h <;> cases h
  · simp only [SV.rep] at hx; subst hx; exact ⟨_, _, _, rfl, rfl⟩
  · simp only [SV.rep] at hx; obtain ⟨b, c, _, rfl, _⟩ := hx; exact ⟨_, _, _, rfl, rfl⟩
  · simp only [SV.rep] at hx; obtain ⟨b, _, _, rfl, _⟩ := hx; exact ⟨_, _, _, rfl, rfl⟩
  · simp only [SV.rep] at hx; obtain ⟨b, l, c, _, rfl, _⟩ := hx; exact ⟨_, _, _, rfl, rfl⟩
  · simp only [SV.rep] at hx; obtain ⟨b, l, _, rfl, _⟩ := hx; exact ⟨_, _, _, rfl, rfl⟩
theorem run_equal_nilS {t e : TypeId} (ht : P.underlying t = some (.slice e)) (s : Option Addr) (n c : Nat) :
    (Op.equal t (.slice s n c) (.slice none 0 0)).run P w = .ok s.isNone w := by
  unfold Op.equal
  rw [show Op.maxDepth = 9998 + 1 + 1 from rfl]
  unfold Op.equalIn
  rw [Sem.run_bind, run_underlying ht]
  cases s <;> rfl
theorem nilEqS_ok {op : BinOp} {t : TypeId} {x : SV} {vx : Value} (hx : SV.rep E β x vx) (hp : PcOk E pc) (hl : m.nxt ≤ m.lim)
    (h : (nilEqS P m pc op t x).sel E = some r) : OpOk P E β m.nxt m.lim w (binOp op t vx (.slice none 0 0)) r := by
  unfold nilEqS at h
  split at h
  · rename_i e b ht hb
    obtain ⟨s, n, c, rfl, rfl⟩ := isNilS_rep hx hb
    split at h
    · refine .val (v := .bool s.isNone) hl hp ?_ (rep_bool rfl) h
      simp only [binOp, Sem.run_bind, run_equal_nilS ht]
      rfl
    · refine .val (v := .bool (!s.isNone)) hl hp ?_ (rep_bool rfl) h
      simp only [binOp, Sem.run_bind, run_equal_nilS ht]
      rfl
    · cases h
  · cases h

theorem binS_ok {op : BinOp} {t : TypeId} {x y : SV} {vx vy : Value} (xo yo : Operand) (hx : SV.rep E β x vx) (hy : SV.rep E β y vy) (hp : PcOk E pc) (hl : m.nxt ≤ m.lim)
    (h : (binS P m pc op t x y).sel E = some r) : OpOk P E β m.nxt m.lim w (do eqGuard op t xo yo vx vy; binOp op t vx vy) r := by
  have go : (eqGuard op t xo yo vx vy).run P w = .ok () w → OpOk P E β m.nxt m.lim w (binOp op t vx vy) r → OpOk P E β m.nxt m.lim w (do eqGuard op t xo yo vx vy; binOp op t vx vy) r := by
    intro hg ⟨h1, h2, v, w', β', h3, h4⟩
    exact ⟨h1, h2, v, w', β', by rw [guard_run hg]; exact h3, h4⟩
  unfold binS at h
  split at h
  · rename_i k a k' b
    have ex := int_rep hx
    have ey := int_rep hy
    subst ex; subst ey
    refine go (by cases op <;> rfl) ?_
    split at h
    · exact shiftBin_ok hp hl h t
    · exact shiftBin_ok hp hl h t
    · rename_i h1 h2
      split at h
      · rename_i hk
        have := ki_inj (Nat.eq_of_beq_eq_true hk)
        subst this
        exact intBin_ok hp hl h ⟨h1, h2⟩ t
      · cases h
  · rename_i k a k' b
    obtain ⟨p, rfl, hpp⟩ := float_rep hx
    obtain ⟨q, rfl, hq⟩ := float_rep hy
    refine go (by cases op <;> rfl) ?_
    split at h
    · rename_i hk
      have := kf_inj (Nat.eq_of_beq_eq_true hk)
      subst this
      exact floatBin_ok hpp hq hp hl h t
    · cases h
  · have ex := str_rep hx
    have ey := str_rep hy
    subst ex; subst ey
    exact go (by cases op <;> rfl) (strBin_ok hp hl h t)
  · have ex := bool_rep hx
    have ey := bool_rep hy
    subst ex; subst ey
    refine go (by cases op <;> rfl) ?_
    split at h
    · rename_i ht; exact eqBool_run hp hl ht h
    · cases h
  · rename_i xs ys
    simp only [SV.rep] at hx hy
    obtain ⟨vx, rfl, hvx⟩ := hx
    obtain ⟨vy, rfl, hvy⟩ := hy
    split at h
    · cases h
    · rename_i q hq
      obtain ⟨h1, h2⟩ := eqArr_runD hq hvx hvy 9998 w
      refine go (run_eqGuard_agg _ _ _ _ _ _ _ h2) ?_
      split at h
      · refine .val (v := .bool (q.den E).toB) hl hp ?_ (rep_bool rfl) h
        simp only [binOp, Op.equal, Sem.run_bind]
        rw [show Op.maxDepth = 9998 + 1 + 1 from rfl, h1]
        rfl
      · refine .val (v := .bool (!(q.den E).toB)) hl hp ?_ (rep_bool (by rw [mkNot_den])) h
        simp only [binOp, Op.equal, Sem.run_bind]
        rw [show Op.maxDepth = 9998 + 1 + 1 from rfl, h1]
        rfl
      · cases h
  · rename_i x0 h0
    simp only [SV.rep] at hy
    subst hy
    refine go ?_ (nilEqS_ok hx hp hl h)
    have hn : ∃ b, isNilS x = some b := by
      unfold nilEqS at h
      split at h
      · rename_i hb; exact ⟨_, hb⟩
      · cases h
    obtain ⟨b, hb⟩ := hn
    obtain ⟨s, n, c, rfl, _⟩ := isNilS_rep hx hb
    cases op <;> rfl
  · cases h

theorem unS_ok {op : UnOp} {x : SV} {vx : Value} (hx : SV.rep E β x vx) (hp : PcOk E pc) (hl : m.nxt ≤ m.lim)
    (h : (unS m pc op x).sel E = some r) : OpOk P E β m.nxt m.lim w (Op.unary op vx) r := by
  unfold unS at h
  split at h
  · have ex := bool_rep hx
    subst ex
    exact .val hl hp rfl (rep_bool (by rw [mkNot_den])) h
  · have ex := int_rep hx
    subst ex
    exact .val hl hp rfl (rep_int (by rw [mkOp_den]; rfl)) h
  · obtain ⟨p, rfl, hpp⟩ := float_rep hx
    refine .valF hl hp ⟨_, w, rfl, ?_, .inl rfl⟩ h
    rw [mkOp_den, F.neg_canon, hpp]; rfl
  · cases h

theorem convS_ok {s d : TypeId} {x : SV} {vx : Value} (hx : SV.rep E β x vx) (hp : PcOk E pc) (hl : m.nxt ≤ m.lim)
    (h : (convS P m pc s d x).sel E = some r) : OpOk P E β m.nxt m.lim w (convert s d vx) r := by
  unfold convS at h
  split at h
  · rename_i us k k' a hs hd
    have ex := int_rep hx
    subst ex
    refine .val (v := .int k (k.wrap (a.den E).toI)) hl hp ?_ (rep_int (wrapT_den hp k a).symm) h
    simp only [convert, Sem.run_bind, run_underlying hs, run_underlying hd, Result.andThen_ok]
    cases us <;> rfl
  · rename_i us k k' a hs hd
    have ex := int_rep hx
    subst ex
    refine .valF hl hp ⟨k.nearest (a.den E).toI, w, ?_, ?_, .inl rfl⟩ h
    · simp only [convert, Sem.run_bind, run_underlying hs, run_underlying hd, Result.andThen_ok]
      cases us <;> rfl
    · rw [mkOp_den]; exact canon_write k (.number (decide ((a.den E).toI < 0)) (a.den E).toI.natAbs 0) rfl
  · rename_i us k s' a hs hd
    obtain ⟨p, rfl, hpp⟩ := float_rep hx
    obtain ⟨pc', hp', h⟩ := fork_sel hp h
    rcases h with ⟨hz, h⟩ | ⟨_, h⟩
    · rw [mkOp_den] at hz
      have hz' : F.toIntOk s' k (canon s' p) = true := by rw [hpp]; exact hz
      have hnn := toInt_canon s' p k hz'
      have hpc := canon_not s' p hnn
      rw [hpc] at hz' hpp
      unfold F.toIntOk at hz'
      split at hz'
      · rename_i n hn
        simp only [Bool.and_eq_true] at hz'
        have b1 : k.min ≤ n := of_decide_eq_true hz'.1
        have b2 : n ≤ k.max := of_decide_eq_true hz'.2
        refine .val (v := .int k n) hl hp' ?_ (rep_int ?_) h
        · simp only [convert, Sem.run_bind, run_underlying hs, run_underlying hd, Result.andThen_ok]
          cases us <;> simp [Conv.floatToInt, hn, b1, b2]
        · rw [mkOp_den]; simp only [Opc.den, Sc.toI_i, F.toInt]; rw [← hpp, hn]; rfl
      · cases hz'
    · cases h
  · rename_i us k s' a hs hd
    obtain ⟨p, rfl, hpp⟩ := float_rep hx
    have hc : (convert s d (.float s' p)).run P w = (Conv.floatToFloat s' p k).run P w := by
      simp only [convert, Sem.run_bind, run_underlying hs, run_underlying hd, Result.andThen_ok]
    split at h
    · rename_i hk
      have := kf_inj (Nat.eq_of_beq_eq_true hk)
      subst this
      refine .val (v := .float s' p) hl hp ?_ ?_ h
      · rw [hc]; simp [Conv.floatToFloat]
      · simp only [SV.rep, SK.rep]; exact ⟨p, rfl, hpp⟩
    · rename_i hk
      have hne : s' ≠ k := by rintro rfl; simp at hk
      split at h
      · rename_i hw
        obtain ⟨z, w', h1, h2, h3⟩ := conv_run (P := P) w s' k p hne (convOk_widens s' k (by cases s' <;> cases k <;> first | rfl | cases hw) _)
        exact .valF hl hp ⟨z, w', hc.trans h1, by rw [h2, mkOp_den, hpp]; rfl, h3⟩ h
      · obtain ⟨pc', hp', h⟩ := fork_sel hp h
        rcases h with ⟨hz, h⟩ | ⟨_, h⟩
        · rw [mkOp_den] at hz
          obtain ⟨z, w', h1, h2, h3⟩ := conv_run (P := P) w s' k p hne (by rw [hpp]; exact hz)
          exact .valF hl hp' ⟨z, w', hc.trans h1, by rw [h2, mkOp_den, hpp]; rfl, h3⟩ h
        · cases h
  · rename_i us a hs hd
    have ex := str_rep hx
    subst ex
    refine .val hl hp ?_ hx h
    simp only [convert, Sem.run_bind, run_underlying hs, run_underlying hd, Result.andThen_ok]
    cases us <;> rfl
  · cases h

end
end Go.Sx
