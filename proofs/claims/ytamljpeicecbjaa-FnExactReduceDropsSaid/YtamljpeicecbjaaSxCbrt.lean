/- The loops of the third root: what they compute, and that they end. No condition. -/
import Derived.Test.YtamljpeicecbjaaSxCube
import Derived.Test.YtamljpeicecbjaaSxLoop
set_option linter.unusedVariables false
set_option linter.unusedSimpArgs false
noncomputable section
namespace Go.Sx
open Go Ieee

def cmin : Nat := 3936146074321813504
def cmax : Nat := 5183643171103440896
def x43 : Nat := 4800837202776948736
def fbt (t : Tm) : Tm := .op (.fbits .f64) t .nil
/-- The word of t is at least n; at most n. -/
def geW (n : Nat) (t : Tm) : Tm × Bool := (.op .lei (.il (Int.ofNat n)) (fbt t), true)
def leW (t : Tm) (n : Nat) : Tm × Bool := (.op .lei (fbt t) (.il (Int.ofNat n)), true)
def eqW (t : Tm) (n : Nat) : Tm × Bool := (.op .eqi (fbt t) (.il (Int.ofNat n)), true)
theorem geW_iff {E : Env} {n : Nat} {t : Tm} : ((geW n t).1.den E).toB = true ↔ n ≤ (t.den E).toF := by
  show decide (Int.ofNat n ≤ Int.ofNat (t.den E).toF) = true ↔ _
  rw [decide_eq_true_eq]; exact Int.ofNat_le
theorem leW_iff {E : Env} {n : Nat} {t : Tm} : ((leW t n).1.den E).toB = true ↔ (t.den E).toF ≤ n := by
  show decide (Int.ofNat (t.den E).toF ≤ Int.ofNat n) = true ↔ _
  rw [decide_eq_true_eq]; exact Int.ofNat_le
theorem eqW_iff {E : Env} {n : Nat} {t : Tm} : ((eqW t n).1.den E).toB = true ↔ (t.den E).toF = n := by
  show decide (Int.ofNat (t.den E).toF = Int.ofNat n) = true ↔ _
  rw [decide_eq_true_eq]; exact Int.ofNat_inj
/-- Places that stay. -/
def extras : Nat → Nat → List Tm
  | 0, _ => []
  | m + 1, j => .var (1000 + j) :: extras m (j + 1)
theorem extras_den (fn : Nat → Sc → Sc) (v : List Sc) : ∀ (m j : Nat), v.length = j + m → (extras m j).map (Tm.den (envV 1000 fn v)) = v.drop j
  | 0, j, h => by simp only [extras, List.map_nil]; exact (List.drop_eq_nil_of_le (by omega)).symm
  | m + 1, j, h => by
    have hj : j < v.length := by omega
    have e : (Tm.var (1000 + j)).den (envV 1000 fn v) = v[j] := by simp [Tm.den, envV, hj]
    simp only [extras, List.map_cons, extras_den fn v m (j + 1) (by omega), e]
    exact (List.drop_eq_getElem_cons hj).symm
theorem at_ofList : ∀ (z : List Sc) (j : Nat), (Sc.ofList z).at_ j = (z[j]?).getD .nil
  | [], j => by cases j <;> rfl
  | a :: r, 0 => rfl
  | a :: r, j + 1 => by simp only [Sc.ofList, Sc.at_succ, at_ofList r j, List.getElem?_cons_succ]
theorem finOf_eq {fn : Nat → Sc → Sc} {N : Nat} {v z : List Sc} (hl : z.length = v.length) (h : fn N (Sc.ofList v) = Sc.ofList z) : finOf fn N v = z := by
  refine List.ext_getElem? fun i => ?_
  unfold finOf
  rw [h, List.getElem?_map]
  rcases Nat.lt_or_ge i v.length with hi | hi
  · have hz : i < z.length := by omega
    simp [hi, at_ofList, hz]
  · have hz : z.length ≤ i := by omega
    simp [hi, hz]

/-! While the number is 8 or more: an eighth of it, and twice the factor -/
def upIt : Nat → Sc → Sc → Sc × Sc
  | 0, b, x => (b, x)
  | n + 1, b, x => match F.le .f64 c8 b.toF with
    | true => upIt n (.f (F.div .f64 b.toF c8)) (.f (F.mul .f64 x.toF c2))
    | false => (b, x)
def upR (b x : Sc) : Sc × Sc := upIt 42 b x
def upF : Sc → Sc
  | .cons b (.cons x r) => .cons (upR b x).1 (.cons (upR b x).2 r)
  | c => c
theorem upF_cons (b x r : Sc) : upF (.cons b (.cons x r)) = .cons (upR b x).1 (.cons (upR b x).2 r) := rfl
def Sup (pl : List Place) (m : Nat) : LoopSpec :=
  { b := 1000, places := pl, N := 30, pre := [geW cmin (.var 1000), leW (.var 1000) cmax, eqW (.var 1001) c1], inv := [geW cmin (.var 1000), leW (.var 1001) x43], post := [leW (.var 1000) (c8 - 1)],
    cond := .op (.fle .f64) (.fl c8) (.var 1000), pol := false, next := .op (.fdiv .f64) (.var 1000) (.fl c8) :: .op (.fmul .f64) (.var 1001) (.fl c2) :: extras m 2 }
def upU : Nat → Nat
  | 0 => cmax
  | n + 1 => forceN (upU n) fun u => F.div .f64 u c8 + 4
def upX : Nat → Nat
  | 0 => c1
  | n + 1 => forceN (upX n) fun x => F.mul .f64 x c2
def upOk (i : Nat) : Bool := forceN (upU i) fun u => forceN (upU (i + 1)) fun u' => Nat.blt u infD && divU u c8 u'
theorem up_tab : allN upOk 42 = true := by kernel_rfl
theorem up_end : Nat.blt (upU 42) c8 = true := by kernel_rfl
def upXok (i : Nat) : Bool := Nat.ble (upX i) x43
theorem up_x : allN upXok 43 = true := by kernel_rfl
theorem c8_low : divD c8 c8 (c1 - 4) = true := by kernel_rfl
theorem upU_lt {i : Nat} (h : i < 42) : upU i < infD := by
  have := allN_ok up_tab h
  simp only [upOk, forceN_eq, Bool.and_eq_true] at this
  exact blt_lt this.1
theorem upU_div {i : Nat} (h : i < 42) : divU (upU i) c8 (upU (i + 1)) = true := by
  have := allN_ok up_tab h
  simp only [upOk, forceN_eq, Bool.and_eq_true] at this
  exact this.2
theorem env0 (fn : Nat → Sc → Sc) (a : Sc) (v : List Sc) : (Tm.var 1000).den (envV 1000 fn (a :: v)) = a := rfl
theorem env1 (fn : Nat → Sc → Sc) (a b : Sc) (v : List Sc) : (Tm.var 1001).den (envV 1000 fn (a :: b :: v)) = b := rfl
theorem env2 (fn : Nat → Sc → Sc) (a b c : Sc) (v : List Sc) : (Tm.var 1002).den (envV 1000 fn (a :: b :: c :: v)) = c := rfl
theorem env3 (fn : Nat → Sc → Sc) (a b c d : Sc) (v : List Sc) : (Tm.var 1003).den (envV 1000 fn (a :: b :: c :: d :: v)) = d := rfl
theorem up_rounds {pl : List Place} {m : Nat} {fn : Nat → Sc → Sc} {rest : List Sc} (hr : rest.length = m) : ∀ (n i : Nat) (b x : Sc), i + n = 42 → b.toF ≤ upU i → cmin ≤ b.toF → x.toF = upX i →
    Rounds (Sup pl m) fn (b :: x :: rest) ((upIt n b x).1 :: (upIt n b x).2 :: rest) ∧ (upIt n b x).1.toF ≤ c8 - 1
  | n, i, b, x, hin, hb, hlo, hx => by
    have hui : upU i < infD := by
      rcases Nat.lt_or_ge i 42 with h | h
      · exact upU_lt h
      · have : i = 42 := by omega
        subst this
        have := blt_lt up_end
        exact Nat.lt_trans this (by decide)
    have hbi : b.toF < infD := by omega
    have hx43 : x.toF ≤ x43 := by rw [hx]; exact Nat.le_of_ble_eq_true (show upXok i = true from allN_ok up_x (by omega))
    have hinv : PcOk (envV (Sup pl m).b fn (b :: x :: rest)) (Sup pl m).inv := by
      intro p hp
      rcases List.mem_cons.1 hp with rfl | hp
      · exact geW_iff.2 hlo
      · rcases List.mem_cons.1 hp with rfl | hp
        · exact leW_iff.2 hx43
        · cases hp
    have hle : F.le .f64 c8 b.toF = decide (c8 ≤ b.toF) := le_pos (by rw [infD_eq]; decide) (by rw [infD_eq]; exact hbi)
    have hcond : ((Sup pl m).cond.den (envV (Sup pl m).b fn (b :: x :: rest))).toB = F.le .f64 c8 b.toF := rfl
    cases hc : F.le .f64 c8 b.toF with
    | false =>
      have hlt : b.toF < c8 := by
        rw [hc] at hle
        have := of_decide_eq_false hle.symm
        omega
      have e : upIt n b x = (b, x) := by
        cases n with
        | zero => rfl
        | succ n => simp only [upIt, hc]
      rw [e]
      exact ⟨.stop hinv (by rw [hcond, hc]; rfl), by simp only; omega⟩
    | true =>
      have hge : c8 ≤ b.toF := by
        rw [hc] at hle
        exact of_decide_eq_true hle.symm
      cases n with
      | zero =>
        have : i = 42 := by omega
        subst this
        have := blt_lt up_end
        omega
      | succ n =>
        have hi : i < 42 := by omega
        have h1 : F.div .f64 b.toF c8 ≤ upU (i + 1) := divU_ok (upU_div hi) hb (Nat.le_refl _) hui (by decide)
        have h2 : cmin ≤ F.div .f64 b.toF c8 := Nat.le_trans (by decide) (divD_ok c8_low hge (Nat.le_refl _) hbi (by decide) (by decide))
        have h3 : F.mul .f64 x.toF c2 = upX (i + 1) := by rw [hx]; simp only [upX, forceN_eq]
        obtain ⟨g1, g2⟩ := up_rounds (pl := pl) (fn := fn) hr n (i + 1) (.f (F.div .f64 b.toF c8)) (.f (F.mul .f64 x.toF c2)) (by omega) h1 h2 h3
        have e : upIt (n + 1) b x = upIt n (.f (F.div .f64 b.toF c8)) (.f (F.mul .f64 x.toF c2)) := by simp only [upIt, hc]
        rw [e]
        refine ⟨.more hinv (by rw [hcond, hc]; rfl) ?_, g2⟩
        have en : (Sup pl m).next.map (Tm.den (envV (Sup pl m).b fn (b :: x :: rest))) = .f (F.div .f64 b.toF c8) :: .f (F.mul .f64 x.toF c2) :: rest := by
          show _ :: _ :: (extras m 2).map (Tm.den (envV 1000 fn (b :: x :: rest))) = _
          rw [extras_den fn _ m 2 (by simp; omega)]
          rfl
        rw [en]
        exact g1
theorem up_law {pl : List Place} {m : Nat} (hl : pl.length = m + 2) {fn : Nat → Sc → Sc} (hf : ∀ c, fn 30 c = upF c) : LoopLaw (Sup pl m) fn := by
  intro v hv hpre
  have hv' : v.length = m + 2 := hv.trans hl
  obtain ⟨b, x, rest, rfl⟩ : ∃ b x rest, v = b :: x :: rest := by
    cases v with
    | nil => simp at hv'
    | cons b v => cases v with
      | nil => simp at hv'
      | cons x rest => exact ⟨b, x, rest, rfl⟩
  have hr : rest.length = m := by simpa using hv'
  have p1 := geW_iff.1 (hpre _ (List.mem_cons_self ..))
  have p2 := leW_iff.1 (hpre _ (List.mem_cons_of_mem _ (List.mem_cons_self ..)))
  have p3 := eqW_iff.1 (hpre _ (List.mem_cons_of_mem _ (List.mem_cons_of_mem _ (List.mem_cons_self ..))))
  have g := up_rounds (pl := pl) (fn := fn) hr 42 0 b x rfl p2 p1 p3
  rw [← upR] at g
  obtain ⟨g1, g2⟩ := g
  have e : finS (Sup pl m) fn (b :: x :: rest) = (upR b x).1 :: (upR b x).2 :: rest := finOf_eq (by simp) (by
    show fn 30 (Sc.ofList (b :: x :: rest)) = _
    rw [hf]; exact upF_cons ..)
  rw [e]
  refine ⟨g1, fun p hp => ?_⟩
  rcases List.mem_cons.1 hp with rfl | hp
  · exact leW_iff.2 g2
  · cases hp

/-! While the number is less than 1: eight times it, and half the factor -/
def dnIt : Nat → Sc → Sc → Sc × Sc
  | 0, b, x => (b, x)
  | n + 1, b, x => match F.lt .f64 b.toF c1 with
    | true => dnIt n (.f (F.mul .f64 b.toF c8)) (.f (F.div .f64 x.toF c2))
    | false => (b, x)
def dnR (b x : Sc) : Sc × Sc := dnIt 50 b x
def dnF : Sc → Sc
  | .cons b (.cons x r) => .cons (dnR b x).1 (.cons (dnR b x).2 r)
  | c => c
theorem dnF_cons (b x r : Sc) : dnF (.cons b (.cons x r)) = .cons (dnR b x).1 (.cons (dnR b x).2 r) := rfl
def Sdn (pl : List Place) (m : Nat) : LoopSpec :=
  { b := 1000, places := pl, N := 31, pre := [geW cmin (.var 1000), leW (.var 1000) (c8 - 1), leW (.var 1001) x43], inv := [leW (.var 1000) (c8 - 1), leW (.var 1001) x43], post := [geW c1 (.var 1000)],
    cond := .op (.flt .f64) (.var 1000) (.fl c1), pol := false, next := .op (.fmul .f64) (.var 1000) (.fl c8) :: .op (.fdiv .f64) (.var 1001) (.fl c2) :: extras m 2 }
def dnL : Nat → Nat
  | 0 => cmin
  | n + 1 => forceN (dnL n) fun u => F.mul .f64 u c8
theorem dn_end : Nat.ble c1 (dnL 50) = true := by kernel_rfl
theorem dn_top : Nat.ble (F.mul .f64 (c1 - 1) c8) (c8 - 1) = true := by kernel_rfl
theorem dn_x : divU x43 c2 x43 = true := by kernel_rfl
theorem dn_rounds {pl : List Place} {m : Nat} {fn : Nat → Sc → Sc} {rest : List Sc} (hr : rest.length = m) : ∀ (n i : Nat) (b x : Sc), i + n = 50 → dnL i ≤ b.toF → b.toF ≤ c8 - 1 → x.toF ≤ x43 →
    Rounds (Sdn pl m) fn (b :: x :: rest) ((dnIt n b x).1 :: (dnIt n b x).2 :: rest) ∧ c1 ≤ (dnIt n b x).1.toF
  | n, i, b, x, hin, hlo, hb, hx => by
    have hbi : b.toF < infD := Nat.lt_of_le_of_lt hb (by decide)
    have hinv : PcOk (envV (Sdn pl m).b fn (b :: x :: rest)) (Sdn pl m).inv := by
      intro p hp
      rcases List.mem_cons.1 hp with rfl | hp
      · exact leW_iff.2 hb
      · rcases List.mem_cons.1 hp with rfl | hp
        · exact leW_iff.2 hx
        · cases hp
    have hlt : F.lt .f64 b.toF c1 = decide (b.toF < c1) := lt_pos (by rw [infD_eq]; exact hbi) (by rw [infD_eq]; decide)
    have hcond : ((Sdn pl m).cond.den (envV (Sdn pl m).b fn (b :: x :: rest))).toB = F.lt .f64 b.toF c1 := rfl
    cases hc : F.lt .f64 b.toF c1 with
    | false =>
      have hge : c1 ≤ b.toF := by
        rw [hc] at hlt
        have := of_decide_eq_false hlt.symm
        omega
      have e : dnIt n b x = (b, x) := by
        cases n with
        | zero => rfl
        | succ n => simp only [dnIt, hc]
      rw [e]
      exact ⟨.stop hinv (by rw [hcond, hc]; rfl), hge⟩
    | true =>
      have hl : b.toF < c1 := by
        rw [hc] at hlt
        exact of_decide_eq_true hlt.symm
      cases n with
      | zero =>
        have : i = 50 := by omega
        subst this
        have := Nat.le_of_ble_eq_true dn_end
        omega
      | succ n =>
        have h1 : dnL (i + 1) ≤ F.mul .f64 b.toF c8 := by
          simp only [dnL, forceN_eq]
          exact mul_bits hlo (Nat.le_refl _) (by rw [infD_eq]; exact hbi) (by rw [infD_eq]; decide)
        have h2 : F.mul .f64 b.toF c8 ≤ c8 - 1 := Nat.le_trans (mul_bits (k := .f64) (show b.toF ≤ c1 - 1 by omega) (Nat.le_refl _) (by rw [infD_eq]; decide) (by rw [infD_eq]; decide)) (Nat.le_of_ble_eq_true dn_top)
        have h3 : F.div .f64 x.toF c2 ≤ x43 := divU_ok dn_x hx (Nat.le_refl _) (by decide) (by decide)
        obtain ⟨g1, g2⟩ := dn_rounds (pl := pl) (fn := fn) hr n (i + 1) (.f (F.mul .f64 b.toF c8)) (.f (F.div .f64 x.toF c2)) (by omega) h1 h2 h3
        have e : dnIt (n + 1) b x = dnIt n (.f (F.mul .f64 b.toF c8)) (.f (F.div .f64 x.toF c2)) := by simp only [dnIt, hc]
        rw [e]
        refine ⟨.more hinv (by rw [hcond, hc]; rfl) ?_, g2⟩
        have en : (Sdn pl m).next.map (Tm.den (envV (Sdn pl m).b fn (b :: x :: rest))) = .f (F.mul .f64 b.toF c8) :: .f (F.div .f64 x.toF c2) :: rest := by
          show _ :: _ :: (extras m 2).map (Tm.den (envV 1000 fn (b :: x :: rest))) = _
          rw [extras_den fn _ m 2 (by simp; omega)]
          rfl
        rw [en]
        exact g1
theorem dn_law {pl : List Place} {m : Nat} (hl : pl.length = m + 2) {fn : Nat → Sc → Sc} (hf : ∀ c, fn 31 c = dnF c) : LoopLaw (Sdn pl m) fn := by
  intro v hv hpre
  have hv' : v.length = m + 2 := hv.trans hl
  obtain ⟨b, x, rest, rfl⟩ : ∃ b x rest, v = b :: x :: rest := by
    cases v with
    | nil => simp at hv'
    | cons b v => cases v with
      | nil => simp at hv'
      | cons x rest => exact ⟨b, x, rest, rfl⟩
  have hr : rest.length = m := by simpa using hv'
  have p1 := geW_iff.1 (hpre _ (List.mem_cons_self ..))
  have p2 := leW_iff.1 (hpre _ (List.mem_cons_of_mem _ (List.mem_cons_self ..)))
  have p3 := leW_iff.1 (hpre _ (List.mem_cons_of_mem _ (List.mem_cons_of_mem _ (List.mem_cons_self ..))))
  have g := dn_rounds (pl := pl) (fn := fn) hr 50 0 b x rfl p1 p2 p3
  rw [← dnR] at g
  obtain ⟨g1, g2⟩ := g
  have e : finS (Sdn pl m) fn (b :: x :: rest) = (dnR b x).1 :: (dnR b x).2 :: rest := finOf_eq (by simp) (by
    show fn 31 (Sc.ofList (b :: x :: rest)) = _
    rw [hf]; exact dnF_cons ..)
  rw [e]
  refine ⟨g1, fun p hp => ?_⟩
  rcases List.mem_cons.1 hp with rfl | hp
  · exact geW_iff.2 g2
  · cases hp

/-! Six of Newton's steps -/
def nwIt : Nat → Sc → Sc → Sc → Sc × Sc
  | 0, r, i, _ => (r, i)
  | n + 1, r, i, b => nwIt n (.f (newt b.toF r.toF)) (.i (IntKind.i64.wrap (i.toI + 1))) b
def nwR (r i b : Sc) : Sc × Sc := nwIt 6 r i b
def nwF : Sc → Sc
  | .cons r (.cons i (.cons b rest)) => .cons (nwR r i b).1 (.cons (nwR r i b).2 (.cons b rest))
  | c => c
theorem nwF_cons (r i b rest : Sc) : nwF (.cons r (.cons i (.cons b rest))) = .cons (nwR r i b).1 (.cons (nwR r i b).2 (.cons b rest)) := rfl
def newtT : Tm :=
  .op (.fsub .f64) (.var 1000) (.op (.fdiv .f64) (.op (.fsub .f64) (.op (.fmul .f64) (.op (.fmul .f64) (.var 1000) (.var 1000)) (.var 1000)) (.var 1002)) (.op (.fmul .f64) (.op (.fmul .f64) (.fl c3) (.var 1000)) (.var 1000)))
def rxT : Tm := .op (.fmul .f64) (.var 1000) (.var 1003)
def Snw (pl : List Place) (m : Nat) : LoopSpec :=
  { b := 1000, places := pl, N := 32, pre := [eqW (.var 1000) c15, (.op .eqi (.var 1001) (.il 0), true), geW c1 (.var 1002), leW (.var 1002) (c8 - 1), leW (.var 1003) x43], inv := [],
    post := [(.op (.convok .f64 .f32) rxT .nil, true), (.op (.convok .f64 .f32) (.op (.fneg .f64) rxT .nil) .nil, true)],
    cond := .op .lti (.var 1001) (.il 6), pol := false, next := newtT :: .op (.addi .i64) (.var 1001) (.il 1) :: extras (m + 2) 2 }
theorem nw_r : ∀ (n : Nat) (r i b : Sc), (nwIt n r i b).1.toF = newtN b.toF n r.toF
  | 0, _, _, _ => rfl
  | n + 1, r, i, b => by simp only [nwIt, newtN, nw_r n]; rfl
theorem nw_rounds {pl : List Place} {m : Nat} {fn : Nat → Sc → Sc} {b x : Sc} {rest : List Sc} (hr : rest.length = m) : ∀ (n : Nat) (r i : Sc), n ≤ 6 → i.toI = 6 - n →
    Rounds (Snw pl m) fn (r :: i :: b :: x :: rest) ((nwIt n r i b).1 :: (nwIt n r i b).2 :: b :: x :: rest)
  | n, r, i, hn, hi => by
    have hinv : PcOk (envV (Snw pl m).b fn (r :: i :: b :: x :: rest)) (Snw pl m).inv := fun p hp => by cases hp
    have hcond : ((Snw pl m).cond.den (envV (Snw pl m).b fn (r :: i :: b :: x :: rest))).toB = decide (i.toI < 6) := rfl
    cases n with
    | zero => exact .stop hinv (by rw [hcond]; exact decide_eq_false (by omega))
    | succ n =>
      refine .more hinv (by rw [hcond]; exact decide_eq_true (by omega)) ?_
      have hw : IntKind.i64.wrap (i.toI + 1) = i.toI + 1 := wrap_in .i64 (by rw [← kmin_eq]; show (-9223372036854775808 : Int) ≤ _; omega) (by rw [← kmax_eq]; show _ ≤ (9223372036854775807 : Int); omega)
      have en : (Snw pl m).next.map (Tm.den (envV (Snw pl m).b fn (r :: i :: b :: x :: rest))) = .f (newt b.toF r.toF) :: .i (IntKind.i64.wrap (i.toI + 1)) :: b :: x :: rest := by
        show _ :: _ :: (extras (m + 2) 2).map (Tm.den (envV 1000 fn (r :: i :: b :: x :: rest))) = _
        rw [extras_den fn _ (m + 2) 2 (by simp; omega)]
        rfl
      rw [en]
      exact nw_rounds hr n _ _ (by omega) (by show IntKind.i64.wrap (i.toI + 1) = _; rw [hw]; omega)

/-! The other sign -/
theorem xor_top {x n : Nat} (h : x < 2 ^ n) : x ^^^ 2 ^ n = 2 ^ n + x := by
  apply Nat.eq_of_testBit_eq
  intro j
  rw [Nat.testBit_xor, Nat.testBit_two_pow]
  rcases Nat.lt_trichotomy j n with hj | hj | hj
  · rw [Nat.testBit_two_pow_add_gt hj]
    have : decide (n = j) = false := decide_eq_false (by omega)
    rw [this, Bool.xor_false]
  · subst hj
    rw [Nat.testBit_two_pow_add_eq]
    simp
  · have e1 : x.testBit j = false := Nat.testBit_lt_two_pow (Nat.lt_trans h (Nat.pow_lt_pow_right (by omega) hj))
    have e2 : (2 ^ n + x).testBit j = false := Nat.testBit_lt_two_pow (by
      have : 2 ^ (n + 1) ≤ 2 ^ j := Nat.pow_le_pow_right (by omega) hj
      rw [Nat.pow_succ] at this
      omega)
    have : decide (n = j) = false := decide_eq_false (by omega)
    rw [e1, e2, this]; rfl
theorem neg_pos (k : FloatKind) {x : Nat} (h : x < k.format.infRung) : F.neg k x = k.format.word true x := by
  have hs := inf_lt_sign k.format
  have e : Op.negFloat k x = k.format.word true x := by
    unfold Op.negFloat
    have hw : k.format.signWeight = 2 ^ (k.format.exponentBits + k.format.fractionBits) := rfl
    rw [xor_top (by rw [← hw]; omega)]
    simp [Format.word, hw]
  unfold F.neg
  rw [e]
  obtain ⟨m, i, h1, _, _⟩ := read_pos k.format h
  refine canon_not k _ ?_
  unfold isNan
  rw [read_neg h h1]
  rfl
theorem narrow_neg {w : Nat} (h : w ≤ topR) : F.convOk .f64 .f32 (F.neg .f64 w) = true ∧ F.conv .f64 .f32 (F.neg .f64 w) = F.neg .f32 (F.conv .f64 .f32 w) ∧ F.conv .f64 .f32 w < FloatKind.f32.format.infRung := by
  have hlt : w < double.infRung := Nat.lt_of_le_of_lt h (by decide)
  obtain ⟨m, e, h1, h2⟩ := narrow_pos hlt
  have h3 : RgN single (valN double w) (-1074) ≤ RgN single (valN double topR) (-1074) := RgN_mono single (by decide) (valN_le.2 h)
  have h4 : RgN single (valN double topR) (-1074) < single.infRung := by decide +kernel
  have hz : RgN single (valN double w) (-1074) < single.infRung := Nat.lt_of_le_of_lt h3 h4
  have hn : F.neg .f64 w = double.word true w := neg_pos .f64 hlt
  have hrn : double.read (double.word true w) = .number true m e := read_neg (k := .f64) hlt h1
  have hw1 : single.write (.number true m e) = single.word true (single.write (.number false m e)) := nearest_neg single true m e
  rw [h1] at h2
  have hconv : F.conv .f64 .f32 w = RgN single (valN double w) (-1074) := by
    unfold F.conv
    simp only [reduceCtorEq, if_false]
    show (match double.read w with
      | .nan _ _ => nanOf .f32
      | y => single.write y) = _
    rw [h1]
    exact h2
  have hconvn : F.conv .f64 .f32 (F.neg .f64 w) = single.word true (RgN single (valN double w) (-1074)) := by
    rw [hn]
    unfold F.conv
    simp only [reduceCtorEq, if_false]
    show (match double.read (double.word true w) with
      | .nan _ _ => nanOf .f32
      | y => single.write y) = _
    rw [hrn]
    show single.write (.number true m e) = _
    rw [hw1, h2]
  refine ⟨?_, ?_, by rw [hconv]; exact hz⟩
  · rw [hn]
    unfold F.convOk
    simp only [reduceCtorEq, if_false]
    show (match double.read (double.word true w) with
      | .number n m e => !(single.read (single.write (.number n m e))).isInfinity
      | _ => true) = true
    rw [hrn]
    simp only
    rw [hw1, h2]
    obtain ⟨m', e', g1, _⟩ := read_pos single hz
    rw [show single.read (single.word true (RgN single (valN double w) (-1074))) = .number true m' e' from read_neg (k := .f32) hz g1]
    rfl
  · rw [hconvn, hconv]
    exact (neg_pos .f32 hz).symm
theorem rx_top : Nat.ble (F.mul .f64 c64 x43) topR = true := by kernel_rfl
theorem rx_le {r x : Nat} (hr : r ≤ c64) (hx : x ≤ x43) : F.mul .f64 r x ≤ topR :=
  Nat.le_trans (mul_bits (k := .f64) hr hx (by rw [infD_eq]; decide) (by rw [infD_eq]; decide)) (Nat.le_of_ble_eq_true rx_top)
theorem nw_law {pl : List Place} {m : Nat} (hl : pl.length = m + 4) {fn : Nat → Sc → Sc} (hf : ∀ c, fn 32 c = nwF c) : LoopLaw (Snw pl m) fn := by
  intro v hv hpre
  have hv' : v.length = m + 4 := hv.trans hl
  obtain ⟨r, i, b, x, rest, rfl⟩ : ∃ r i b x rest, v = r :: i :: b :: x :: rest := by
    cases v with
    | nil => simp at hv'
    | cons r v => cases v with
      | nil => simp at hv'
      | cons i v => cases v with
        | nil => simp at hv'
        | cons b v => cases v with
          | nil => simp at hv'
          | cons x rest => exact ⟨r, i, b, x, rest, rfl⟩
  have hr : rest.length = m := by simpa using hv'
  have q2 := List.mem_cons_of_mem (eqW (.var 1000) c15) (List.mem_cons_self (a := (Tm.op .eqi (.var 1001) (.il 0), true)) (l := [geW c1 (.var 1002), leW (.var 1002) (c8 - 1), leW (.var 1003) x43]))
  have p1 := eqW_iff.1 (hpre _ (List.mem_cons_self ..))
  have p2 : i.toI = 0 := of_decide_eq_true (hpre _ q2)
  have p3 := geW_iff.1 (hpre _ (List.mem_cons_of_mem _ (List.mem_cons_of_mem _ (List.mem_cons_self ..))))
  have p4 := leW_iff.1 (hpre _ (List.mem_cons_of_mem _ (List.mem_cons_of_mem _ (List.mem_cons_of_mem _ (List.mem_cons_self ..)))))
  have p5 := leW_iff.1 (hpre _ (List.mem_cons_of_mem _ (List.mem_cons_of_mem _ (List.mem_cons_of_mem _ (List.mem_cons_of_mem _ (List.mem_cons_self ..))))))
  have g := nw_rounds (pl := pl) (fn := fn) (b := b) (x := x) hr 6 r i (Nat.le_refl _) (by omega)
  rw [← nwR] at g
  have hb1 : c1 ≤ b.toF := p3
  have hb2 : b.toF ≤ c8 - 1 := p4
  have hx : x.toF ≤ x43 := p5
  have hr0 : r.toF = c15 := p1
  have hrr : (nwR r i b).1.toF ≤ c64 := by
    rw [nwR, nw_r, hr0]
    exact newt6_le hb1 (Nat.lt_of_le_of_lt hb2 (by decide))
  have e : finS (Snw pl m) fn (r :: i :: b :: x :: rest) = (nwR r i b).1 :: (nwR r i b).2 :: b :: x :: rest := finOf_eq (by simp) (by
    show fn 32 (Sc.ofList (r :: i :: b :: x :: rest)) = _
    rw [hf]; exact nwF_cons ..)
  rw [e]
  refine ⟨g, fun p hp => ?_⟩
  have hy := rx_le hrr hx
  rcases List.mem_cons.1 hp with rfl | hp
  · exact narrow_ok hy
  · rcases List.mem_cons.1 hp with rfl | hp
    · exact (narrow_neg hy).1
    · cases hp
end Go.Sx
