/- The contracts of IsMatched's steps, asked cheaply. No condition. -/
import Derived.Test.YtamljpeicecbjaaIt
set_option linter.unusedVariables false
set_option linter.unusedSimpArgs false
set_option maxRecDepth 100000
noncomputable section
namespace Go.Proofs.Ytamljpeicecbjaa.Leaf
open Go.Sx
def tk : Nat → List Tm → List Tm
  | 0, _ => []
  | m + 1, l => match l with | [] => [] | t :: r => t :: tk m r
def dr : Nat → List Tm → List Tm
  | 0, l => l
  | m + 1, l => match l with | [] => [] | _ :: r => dr m r
theorem dr_cons : ∀ {k : Nat} {ts : List Tm}, k < ts.length → dr k ts = ts.getD k .nil :: dr (k + 1) ts
  | 0, t :: r, _ => rfl
  | k + 1, t :: r, h => by
    have := dr_cons (k := k) (ts := r) (by simpa using h)
    simpa [dr] using this
theorem tmAt_getD : ∀ {ts : List Tm} {k : Nat}, tmAt ts k = ts.getD k .nil
  | [], k => by simp [tmAt]
  | t :: r, 0 => rfl
  | t :: r, k + 1 => by simpa [tmAt] using tmAt_getD (ts := r) (k := k)
theorem vars_subst {ts : List Tm} : ∀ {m k : Nat}, k + m ≤ ts.length → (listT (vars m k)).subst ts = listT (tk m (dr k ts))
  | 0, k, _ => rfl
  | m + 1, k, h => by
    rw [dr_cons (by omega)]
    simp only [vars, listT, Tm.subst, tk]
    rw [vars_subst (m := m) (k := k + 1) (by omega)]
theorem selT_upto {ts : List Tm} : ∀ {m k : Nat}, k + m ≤ ts.length → selT ts (upto m k) = tk m (dr k ts)
  | 0, k, _ => rfl
  | m + 1, k, h => by
    rw [dr_cons (by omega)]
    simp only [upto, selT, tk]
    rw [selT_upto (m := m) (k := k + 1) (by omega), tmAt_getD]
theorem selT_append {ts : List Tm} : ∀ {a b : List Nat}, selT ts (a ++ b) = selT ts a ++ selT ts b
  | [], b => rfl
  | i :: a, b => by simp [selT, selT_append (a := a) (b := b)]
theorem substF_append {ts : List Tm} : ∀ {a b : PC}, substF ts (a ++ b) = substF ts a ++ substF ts b
  | [], b => rfl
  | (t, x) :: a, b => by simp [substF, substF_append (a := a) (b := b)]
def hdS (n : Nat) (l : List Tm) : Tm := .app (10 + n) (listT l)
def asS (n o : Nat) (pre rest : PC) (ts : List Tm) : PC := substF ts pre ++ ((hdS n (tk (6 + 34 * n) (dr o ts)), true) :: substF ts rest)
def sumS (ps : List Pa) (n o : Nat) (pre rest : PC) (mk : List Tm → SV) (els : Sum) : Sum := fun args m pc => match matchP m.mem pc ps args with
  | some ts => forkAs (fun pc => val m pc (mk ts)) (els args m) (asS n o pre rest ts) pc
  | none => els args m pc
section
variable {E : Env}
theorem sumS_ok {f n o : Nat} {ps : List Pa} {ass pre rest : PC} {mk mk' : List Tm → SV} {els : Sum} (he : ass = pre ++ ((hdS n (vars (6 + 34 * n) o), true) :: rest)) (hb : Nat.ble (o + (6 + 34 * n)) (bldP ps 0 0).n = true)
    (hmk : ∀ ts, (bldP ps 0 0).n = ts.length → mk' ts = mk ts) (h : SumOk Try.prog E f (sumQ ps ass mk els)) : SumOk Try.prog E f (sumS ps n o pre rest mk' els) := by
  intro args m pc r hr β w vals hreps hm hf hl hp
  unfold sumS at hr
  split at hr
  · rename_i ts hts
    obtain ⟨e1, _⟩ := matchP_ok Try.prog hp hm (n := 0) (j := 0) hts hreps
    rw [Nat.zero_add] at e1
    have hb' := Nat.le_of_ble_eq_true hb
    have ea : asS n o pre rest ts = substF ts ass := by
      subst he
      rw [substF_append]
      simp only [asS, substF, hdS, Tm.subst]
      rw [vars_subst (by omega)]
    refine h args m pc r ?_ β w vals hreps hm hf hl hp
    unfold sumQ
    rw [hts]
    simp only
    rw [← ea, ← hmk ts e1]
    exact hr
  · rename_i hts
    refine h args m pc r ?_ β w vals hreps hm hf hl hp
    unfold sumQ
    rw [hts]
    exact hr
theorem sumS_pc {n o : Nat} {ps : List Pa} {pre rest : PC} {mk : List Tm → SV} {els : Sum} (hels : ∀ args m pc, PcOk E pc → Pcs E Res.pc (els args m pc)) (args : List SV) (m : Mm) (pc : PC) (hp : PcOk E pc) : Pcs E Res.pc (sumS ps n o pre rest mk els args m pc) := by
  unfold sumS
  split
  · intro r hr
    obtain ⟨pc1, hp1, hc⟩ := forkAs_sel hp hr
    rcases hc with ⟨_, hr⟩ | hr
    · simp only [val, Out.sel, Option.some.injEq] at hr
      subst hr
      exact hp1
    · exact hels args m pc1 hp1 r hr
  · exact hels args m pc hp
/-! The contracts -/
def kI (n : Nat) : PC := okP n (6 + 34 * n) 6
theorem oi_1 : Nat.ble (0 + (6 + 34 * 1)) (bldP (paO 1) 0 0).n = true := by kernel_rfl
theorem oi_2 : Nat.ble (0 + (6 + 34 * 2)) (bldP (paO 2) 0 0).n = true := by kernel_rfl
theorem oi_3 : Nat.ble (0 + (6 + 34 * 3)) (bldP (paO 3) 0 0).n = true := by kernel_rfl
theorem oi_4 : Nat.ble (0 + (6 + 34 * 4)) (bldP (paO 4) 0 0).n = true := by kernel_rfl
theorem oi_5 : Nat.ble (0 + (6 + 34 * 5)) (bldP (paO 5) 0 0).n = true := by kernel_rfl
theorem oi_6 : Nat.ble (0 + (6 + 34 * 6)) (bldP (paO 6) 0 0).n = true := by kernel_rfl
theorem oi_b {n : Nat} (h1 : 1 ≤ n) (h6 : n ≤ 6) : Nat.ble (0 + (6 + 34 * n)) (bldP (paO n) 0 0).n = true := by
  match n, h1, h6 with
  | 1, _, _ => exact oi_1
  | 2, _, _ => exact oi_2
  | 3, _, _ => exact oi_3
  | 4, _, _ => exact oi_4
  | 5, _, _ => exact oi_5
  | 6, _, _ => exact oi_6
def ofI' (n : Nat) : Sum := sumS (paO n) n 0 [] (kI n ++ [(allZ (ptI n), false)]) (fun ts => mkR rpO (nths (.app (260 + n) (listT ts)) 2 0)) (elO 111)
theorem ofI'_ok (hE : FokO E.fn) (n : Nat) (h1 : 1 ≤ n) (h6 : n ≤ 6) : SumOk Try.prog E 111 (ofI' n) :=
  sumS_ok (ass := okI n) rfl (oi_b h1 h6) (fun _ _ => rfl) (ofI_ok hE n h1 h6)
def amI (n : Nat) : PC := [(.op (.fle .f32) (.fl 0) (avI n), true), (.op (.ffin .f32) (avI n) .nil, true)]
def preF (n f t : Nat) : PC := [(.op .eqi (.var (12 + 34 * n)) (.il (.ofNat f)), true), (.op .eqi (.var (13 + 34 * n)) (.il (.ofNat t)), true)]
def resF (n f t : Nat) (b : Bool) : PC := ((kI n ++ [(allZ (ptI n), false)]) ++ amI n) ++ [(.op (.ffin .f32) (xvI n f t) .nil, b)]
def sfZ (n f t : Nat) : Sum := sumS (paS n) n 0 (preF n f t) (resF n f t true) (fun ts => mkR rpS ((shI n f t 6 0).map (Tm.subst ts))) (sumS (paS n) n 0 (preF n f t) (resF n f t false) (fun ts => mkR rpS ((z6I 6).map (Tm.subst ts))) (elS 67))
theorem sz_1 : Nat.ble (0 + (6 + 34 * 1)) (bldP (paS 1) 0 0).n = true := by kernel_rfl
theorem sz_2 : Nat.ble (0 + (6 + 34 * 2)) (bldP (paS 2) 0 0).n = true := by kernel_rfl
theorem sz_3 : Nat.ble (0 + (6 + 34 * 3)) (bldP (paS 3) 0 0).n = true := by kernel_rfl
theorem sz_4 : Nat.ble (0 + (6 + 34 * 4)) (bldP (paS 4) 0 0).n = true := by kernel_rfl
theorem sz_5 : Nat.ble (0 + (6 + 34 * 5)) (bldP (paS 5) 0 0).n = true := by kernel_rfl
theorem sz_6 : Nat.ble (0 + (6 + 34 * 6)) (bldP (paS 6) 0 0).n = true := by kernel_rfl
theorem sz_b {n : Nat} (h1 : 1 ≤ n) (h6 : n ≤ 6) : Nat.ble (0 + (6 + 34 * n)) (bldP (paS n) 0 0).n = true := by
  match n, h1, h6 with
  | 1, _, _ => exact sz_1
  | 2, _, _ => exact sz_2
  | 3, _, _ => exact sz_3
  | 4, _, _ => exact sz_4
  | 5, _, _ => exact sz_5
  | 6, _, _ => exact sz_6
theorem sfZ_one (hE : FokC E.fn) {n f t : Nat} (h1 : 1 ≤ n) (h6 : n ≤ 6) (k1 : (treeIs rpS (oSY n f t) (listT (shI n f t 6 0)) && treeIs rpS (oSN n f t) (listT (z6I 6))) = true)
    (h2 : (((Nat.ble (bldP (paS n) 0 0).j 1000 && undersF (bldP (paS n) 0 0).n (asY n f t)) && ((Nat.beq (shI n f t 6 0).length 7 && Nat.beq 7 (sizeR rpS.2)) && underL (bldP (paS n) 0 0).n (shI n f t 6 0))) && ((Nat.ble (bldP (paS n) 0 0).j 1000 && undersF (bldP (paS n) 0 0).n (asN n f t)) && ((Nat.beq (z6I 6).length 7 && Nat.beq 7 (sizeR rpS.2)) && underL (bldP (paS n) 0 0).n (z6I 6)))) = true) : SumOk Try.prog E 67 (sfZ n f t) :=
  sumS_ok (ass := asY n f t) rfl (sz_b h1 h6) (fun _ _ => rfl) (sumT_okI (cxC_okC hE) (and_l h2) (and_l k1) (sumS_ok (ass := asN n f t) rfl (sz_b h1 h6) (fun _ _ => rfl) (sumT_okI (cxC_okC hE) (and_r h2) (and_r k1) (elS_ok hE 67))))
theorem sfZ_pc (hE : FokC E.fn) (n f t : Nat) : ∀ args m pc, PcOk E pc → Pcs E Res.pc (sfZ n f t args m pc) := fun args m pc hp => sumS_pc (fun args m pc hp => sumS_pc (elS_pc hE 67) args m pc hp) args m pc hp
theorem sfZ_ok (hE : FokC E.fn) : ∀ n f t, 1 ≤ n → n ≤ 6 → f < n → t < n → f ≠ t → SumOk Try.prog E 67 (sfZ n f t) := fun n f t h1 h6 hf ht hne => match n, f, t, h1, h6, hf, ht, hne with
  | 1, 0, 0, _, _, _, _, h => absurd rfl h
  | 2, 0, 0, _, _, _, _, h => absurd rfl h
  | 2, 0, 1, _, _, _, _, _ => sfZ_one hE (by decide) (by decide) ky_2_0_1 kz_2_0_1
  | 2, 1, 0, _, _, _, _, _ => sfZ_one hE (by decide) (by decide) ky_2_1_0 kz_2_1_0
  | 2, 1, 1, _, _, _, _, h => absurd rfl h
  | 3, 0, 0, _, _, _, _, h => absurd rfl h
  | 3, 0, 1, _, _, _, _, _ => sfZ_one hE (by decide) (by decide) ky_3_0_1 kz_3_0_1
  | 3, 0, 2, _, _, _, _, _ => sfZ_one hE (by decide) (by decide) ky_3_0_2 kz_3_0_2
  | 3, 1, 0, _, _, _, _, _ => sfZ_one hE (by decide) (by decide) ky_3_1_0 kz_3_1_0
  | 3, 1, 1, _, _, _, _, h => absurd rfl h
  | 3, 1, 2, _, _, _, _, _ => sfZ_one hE (by decide) (by decide) ky_3_1_2 kz_3_1_2
  | 3, 2, 0, _, _, _, _, _ => sfZ_one hE (by decide) (by decide) ky_3_2_0 kz_3_2_0
  | 3, 2, 1, _, _, _, _, _ => sfZ_one hE (by decide) (by decide) ky_3_2_1 kz_3_2_1
  | 3, 2, 2, _, _, _, _, h => absurd rfl h
  | 4, 0, 0, _, _, _, _, h => absurd rfl h
  | 4, 0, 1, _, _, _, _, _ => sfZ_one hE (by decide) (by decide) ky_4_0_1 kz_4_0_1
  | 4, 0, 2, _, _, _, _, _ => sfZ_one hE (by decide) (by decide) ky_4_0_2 kz_4_0_2
  | 4, 0, 3, _, _, _, _, _ => sfZ_one hE (by decide) (by decide) ky_4_0_3 kz_4_0_3
  | 4, 1, 0, _, _, _, _, _ => sfZ_one hE (by decide) (by decide) ky_4_1_0 kz_4_1_0
  | 4, 1, 1, _, _, _, _, h => absurd rfl h
  | 4, 1, 2, _, _, _, _, _ => sfZ_one hE (by decide) (by decide) ky_4_1_2 kz_4_1_2
  | 4, 1, 3, _, _, _, _, _ => sfZ_one hE (by decide) (by decide) ky_4_1_3 kz_4_1_3
  | 4, 2, 0, _, _, _, _, _ => sfZ_one hE (by decide) (by decide) ky_4_2_0 kz_4_2_0
  | 4, 2, 1, _, _, _, _, _ => sfZ_one hE (by decide) (by decide) ky_4_2_1 kz_4_2_1
  | 4, 2, 2, _, _, _, _, h => absurd rfl h
  | 4, 2, 3, _, _, _, _, _ => sfZ_one hE (by decide) (by decide) ky_4_2_3 kz_4_2_3
  | 4, 3, 0, _, _, _, _, _ => sfZ_one hE (by decide) (by decide) ky_4_3_0 kz_4_3_0
  | 4, 3, 1, _, _, _, _, _ => sfZ_one hE (by decide) (by decide) ky_4_3_1 kz_4_3_1
  | 4, 3, 2, _, _, _, _, _ => sfZ_one hE (by decide) (by decide) ky_4_3_2 kz_4_3_2
  | 4, 3, 3, _, _, _, _, h => absurd rfl h
  | 5, 0, 0, _, _, _, _, h => absurd rfl h
  | 5, 0, 1, _, _, _, _, _ => sfZ_one hE (by decide) (by decide) ky_5_0_1 kz_5_0_1
  | 5, 0, 2, _, _, _, _, _ => sfZ_one hE (by decide) (by decide) ky_5_0_2 kz_5_0_2
  | 5, 0, 3, _, _, _, _, _ => sfZ_one hE (by decide) (by decide) ky_5_0_3 kz_5_0_3
  | 5, 0, 4, _, _, _, _, _ => sfZ_one hE (by decide) (by decide) ky_5_0_4 kz_5_0_4
  | 5, 1, 0, _, _, _, _, _ => sfZ_one hE (by decide) (by decide) ky_5_1_0 kz_5_1_0
  | 5, 1, 1, _, _, _, _, h => absurd rfl h
  | 5, 1, 2, _, _, _, _, _ => sfZ_one hE (by decide) (by decide) ky_5_1_2 kz_5_1_2
  | 5, 1, 3, _, _, _, _, _ => sfZ_one hE (by decide) (by decide) ky_5_1_3 kz_5_1_3
  | 5, 1, 4, _, _, _, _, _ => sfZ_one hE (by decide) (by decide) ky_5_1_4 kz_5_1_4
  | 5, 2, 0, _, _, _, _, _ => sfZ_one hE (by decide) (by decide) ky_5_2_0 kz_5_2_0
  | 5, 2, 1, _, _, _, _, _ => sfZ_one hE (by decide) (by decide) ky_5_2_1 kz_5_2_1
  | 5, 2, 2, _, _, _, _, h => absurd rfl h
  | 5, 2, 3, _, _, _, _, _ => sfZ_one hE (by decide) (by decide) ky_5_2_3 kz_5_2_3
  | 5, 2, 4, _, _, _, _, _ => sfZ_one hE (by decide) (by decide) ky_5_2_4 kz_5_2_4
  | 5, 3, 0, _, _, _, _, _ => sfZ_one hE (by decide) (by decide) ky_5_3_0 kz_5_3_0
  | 5, 3, 1, _, _, _, _, _ => sfZ_one hE (by decide) (by decide) ky_5_3_1 kz_5_3_1
  | 5, 3, 2, _, _, _, _, _ => sfZ_one hE (by decide) (by decide) ky_5_3_2 kz_5_3_2
  | 5, 3, 3, _, _, _, _, h => absurd rfl h
  | 5, 3, 4, _, _, _, _, _ => sfZ_one hE (by decide) (by decide) ky_5_3_4 kz_5_3_4
  | 5, 4, 0, _, _, _, _, _ => sfZ_one hE (by decide) (by decide) ky_5_4_0 kz_5_4_0
  | 5, 4, 1, _, _, _, _, _ => sfZ_one hE (by decide) (by decide) ky_5_4_1 kz_5_4_1
  | 5, 4, 2, _, _, _, _, _ => sfZ_one hE (by decide) (by decide) ky_5_4_2 kz_5_4_2
  | 5, 4, 3, _, _, _, _, _ => sfZ_one hE (by decide) (by decide) ky_5_4_3 kz_5_4_3
  | 5, 4, 4, _, _, _, _, h => absurd rfl h
  | 6, 0, 0, _, _, _, _, h => absurd rfl h
  | 6, 0, 1, _, _, _, _, _ => sfZ_one hE (by decide) (by decide) ky_6_0_1 kz_6_0_1
  | 6, 0, 2, _, _, _, _, _ => sfZ_one hE (by decide) (by decide) ky_6_0_2 kz_6_0_2
  | 6, 0, 3, _, _, _, _, _ => sfZ_one hE (by decide) (by decide) ky_6_0_3 kz_6_0_3
  | 6, 0, 4, _, _, _, _, _ => sfZ_one hE (by decide) (by decide) ky_6_0_4 kz_6_0_4
  | 6, 0, 5, _, _, _, _, _ => sfZ_one hE (by decide) (by decide) ky_6_0_5 kz_6_0_5
  | 6, 1, 0, _, _, _, _, _ => sfZ_one hE (by decide) (by decide) ky_6_1_0 kz_6_1_0
  | 6, 1, 1, _, _, _, _, h => absurd rfl h
  | 6, 1, 2, _, _, _, _, _ => sfZ_one hE (by decide) (by decide) ky_6_1_2 kz_6_1_2
  | 6, 1, 3, _, _, _, _, _ => sfZ_one hE (by decide) (by decide) ky_6_1_3 kz_6_1_3
  | 6, 1, 4, _, _, _, _, _ => sfZ_one hE (by decide) (by decide) ky_6_1_4 kz_6_1_4
  | 6, 1, 5, _, _, _, _, _ => sfZ_one hE (by decide) (by decide) ky_6_1_5 kz_6_1_5
  | 6, 2, 0, _, _, _, _, _ => sfZ_one hE (by decide) (by decide) ky_6_2_0 kz_6_2_0
  | 6, 2, 1, _, _, _, _, _ => sfZ_one hE (by decide) (by decide) ky_6_2_1 kz_6_2_1
  | 6, 2, 2, _, _, _, _, h => absurd rfl h
  | 6, 2, 3, _, _, _, _, _ => sfZ_one hE (by decide) (by decide) ky_6_2_3 kz_6_2_3
  | 6, 2, 4, _, _, _, _, _ => sfZ_one hE (by decide) (by decide) ky_6_2_4 kz_6_2_4
  | 6, 2, 5, _, _, _, _, _ => sfZ_one hE (by decide) (by decide) ky_6_2_5 kz_6_2_5
  | 6, 3, 0, _, _, _, _, _ => sfZ_one hE (by decide) (by decide) ky_6_3_0 kz_6_3_0
  | 6, 3, 1, _, _, _, _, _ => sfZ_one hE (by decide) (by decide) ky_6_3_1 kz_6_3_1
  | 6, 3, 2, _, _, _, _, _ => sfZ_one hE (by decide) (by decide) ky_6_3_2 kz_6_3_2
  | 6, 3, 3, _, _, _, _, h => absurd rfl h
  | 6, 3, 4, _, _, _, _, _ => sfZ_one hE (by decide) (by decide) ky_6_3_4 kz_6_3_4
  | 6, 3, 5, _, _, _, _, _ => sfZ_one hE (by decide) (by decide) ky_6_3_5 kz_6_3_5
  | 6, 4, 0, _, _, _, _, _ => sfZ_one hE (by decide) (by decide) ky_6_4_0 kz_6_4_0
  | 6, 4, 1, _, _, _, _, _ => sfZ_one hE (by decide) (by decide) ky_6_4_1 kz_6_4_1
  | 6, 4, 2, _, _, _, _, _ => sfZ_one hE (by decide) (by decide) ky_6_4_2 kz_6_4_2
  | 6, 4, 3, _, _, _, _, _ => sfZ_one hE (by decide) (by decide) ky_6_4_3 kz_6_4_3
  | 6, 4, 4, _, _, _, _, h => absurd rfl h
  | 6, 4, 5, _, _, _, _, _ => sfZ_one hE (by decide) (by decide) ky_6_4_5 kz_6_4_5
  | 6, 5, 0, _, _, _, _, _ => sfZ_one hE (by decide) (by decide) ky_6_5_0 kz_6_5_0
  | 6, 5, 1, _, _, _, _, _ => sfZ_one hE (by decide) (by decide) ky_6_5_1 kz_6_5_1
  | 6, 5, 2, _, _, _, _, _ => sfZ_one hE (by decide) (by decide) ky_6_5_2 kz_6_5_2
  | 6, 5, 3, _, _, _, _, _ => sfZ_one hE (by decide) (by decide) ky_6_5_3 kz_6_5_3
  | 6, 5, 4, _, _, _, _, _ => sfZ_one hE (by decide) (by decide) ky_6_5_4 kz_6_5_4
  | 6, 5, 5, _, _, _, _, h => absurd rfl h
def sfE : Sum := fun args m pc => match shArgS args m.mem with
  | some (n, f, t) => sfZ n f t args m pc
  | none => elS 67 args m pc
theorem sfE_ok (hE : FokC E.fn) : SumOk Try.prog E 67 sfE := by
  intro args m pc r hr
  unfold sfE at hr
  split at hr
  · rename_i n f t h
    obtain ⟨a, b, c, d, e⟩ := shArgS_ok h
    exact sfZ_ok hE n f t a b c d e args m pc r hr
  · exact elS_ok hE 67 args m pc r hr
theorem sfE_pc (hE : FokC E.fn) (args : List SV) (m : Mm) (pc : PC) (hp : PcOk E pc) : Pcs E Res.pc (sfE args m pc) := by
  unfold sfE
  split
  · exact sfZ_pc hE _ _ _ args m pc hp
  · exact elS_pc hE 67 args m pc hp
/-! A part that is not finite -/
def nfK (n t : Nat) : Nat → Nat → PC
  | 0, _ => []
  | m + 1, k => (.op (.fle .f32) (.fl 0) (.var (26 + 34 * n + k)), true) :: (.op (.ffin .f32) (.var (26 + 34 * n + k)) .nil, (match Nat.beq k t with | true => false | false => true)) :: nfK n t m (k + 1)
def asK (n t : Nat) : PC := [(.var 0, false)] ++ ((hdS n (vars (6 + 34 * n) 20), true) :: nfK n t 6 0)
def oNf (n t : Nat) : Out Res := callQ Try.prog cxO 1000 179 (paG n) (asK n t)
def n2I : List Tm := [.fl 0, .il 4]
theorem nk_1_0 : treeIs rpO (oNf 1 0) (listT n2I) = true := by kernel_rfl
theorem nl_1_0 : ((Nat.ble (bldP (paG 1) 0 0).j 1000 && undersF (bldP (paG 1) 0 0).n (asK 1 0)) && ((Nat.beq n2I.length 2 && Nat.beq 2 (sizeR rpO.2)) && underL (bldP (paG 1) 0 0).n n2I)) = true := by kernel_rfl
theorem nk_2_0 : treeIs rpO (oNf 2 0) (listT n2I) = true := by kernel_rfl
theorem nl_2_0 : ((Nat.ble (bldP (paG 2) 0 0).j 1000 && undersF (bldP (paG 2) 0 0).n (asK 2 0)) && ((Nat.beq n2I.length 2 && Nat.beq 2 (sizeR rpO.2)) && underL (bldP (paG 2) 0 0).n n2I)) = true := by kernel_rfl
theorem nk_2_1 : treeIs rpO (oNf 2 1) (listT n2I) = true := by kernel_rfl
theorem nl_2_1 : ((Nat.ble (bldP (paG 2) 0 0).j 1000 && undersF (bldP (paG 2) 0 0).n (asK 2 1)) && ((Nat.beq n2I.length 2 && Nat.beq 2 (sizeR rpO.2)) && underL (bldP (paG 2) 0 0).n n2I)) = true := by kernel_rfl
theorem nk_3_0 : treeIs rpO (oNf 3 0) (listT n2I) = true := by kernel_rfl
theorem nl_3_0 : ((Nat.ble (bldP (paG 3) 0 0).j 1000 && undersF (bldP (paG 3) 0 0).n (asK 3 0)) && ((Nat.beq n2I.length 2 && Nat.beq 2 (sizeR rpO.2)) && underL (bldP (paG 3) 0 0).n n2I)) = true := by kernel_rfl
theorem nk_3_1 : treeIs rpO (oNf 3 1) (listT n2I) = true := by kernel_rfl
theorem nl_3_1 : ((Nat.ble (bldP (paG 3) 0 0).j 1000 && undersF (bldP (paG 3) 0 0).n (asK 3 1)) && ((Nat.beq n2I.length 2 && Nat.beq 2 (sizeR rpO.2)) && underL (bldP (paG 3) 0 0).n n2I)) = true := by kernel_rfl
theorem nk_3_2 : treeIs rpO (oNf 3 2) (listT n2I) = true := by kernel_rfl
theorem nl_3_2 : ((Nat.ble (bldP (paG 3) 0 0).j 1000 && undersF (bldP (paG 3) 0 0).n (asK 3 2)) && ((Nat.beq n2I.length 2 && Nat.beq 2 (sizeR rpO.2)) && underL (bldP (paG 3) 0 0).n n2I)) = true := by kernel_rfl
theorem nk_4_0 : treeIs rpO (oNf 4 0) (listT n2I) = true := by kernel_rfl
theorem nl_4_0 : ((Nat.ble (bldP (paG 4) 0 0).j 1000 && undersF (bldP (paG 4) 0 0).n (asK 4 0)) && ((Nat.beq n2I.length 2 && Nat.beq 2 (sizeR rpO.2)) && underL (bldP (paG 4) 0 0).n n2I)) = true := by kernel_rfl
theorem nk_4_1 : treeIs rpO (oNf 4 1) (listT n2I) = true := by kernel_rfl
theorem nl_4_1 : ((Nat.ble (bldP (paG 4) 0 0).j 1000 && undersF (bldP (paG 4) 0 0).n (asK 4 1)) && ((Nat.beq n2I.length 2 && Nat.beq 2 (sizeR rpO.2)) && underL (bldP (paG 4) 0 0).n n2I)) = true := by kernel_rfl
theorem nk_4_2 : treeIs rpO (oNf 4 2) (listT n2I) = true := by kernel_rfl
theorem nl_4_2 : ((Nat.ble (bldP (paG 4) 0 0).j 1000 && undersF (bldP (paG 4) 0 0).n (asK 4 2)) && ((Nat.beq n2I.length 2 && Nat.beq 2 (sizeR rpO.2)) && underL (bldP (paG 4) 0 0).n n2I)) = true := by kernel_rfl
theorem nk_4_3 : treeIs rpO (oNf 4 3) (listT n2I) = true := by kernel_rfl
theorem nl_4_3 : ((Nat.ble (bldP (paG 4) 0 0).j 1000 && undersF (bldP (paG 4) 0 0).n (asK 4 3)) && ((Nat.beq n2I.length 2 && Nat.beq 2 (sizeR rpO.2)) && underL (bldP (paG 4) 0 0).n n2I)) = true := by kernel_rfl
theorem nk_5_0 : treeIs rpO (oNf 5 0) (listT n2I) = true := by kernel_rfl
theorem nl_5_0 : ((Nat.ble (bldP (paG 5) 0 0).j 1000 && undersF (bldP (paG 5) 0 0).n (asK 5 0)) && ((Nat.beq n2I.length 2 && Nat.beq 2 (sizeR rpO.2)) && underL (bldP (paG 5) 0 0).n n2I)) = true := by kernel_rfl
theorem nk_5_1 : treeIs rpO (oNf 5 1) (listT n2I) = true := by kernel_rfl
theorem nl_5_1 : ((Nat.ble (bldP (paG 5) 0 0).j 1000 && undersF (bldP (paG 5) 0 0).n (asK 5 1)) && ((Nat.beq n2I.length 2 && Nat.beq 2 (sizeR rpO.2)) && underL (bldP (paG 5) 0 0).n n2I)) = true := by kernel_rfl
theorem nk_5_2 : treeIs rpO (oNf 5 2) (listT n2I) = true := by kernel_rfl
theorem nl_5_2 : ((Nat.ble (bldP (paG 5) 0 0).j 1000 && undersF (bldP (paG 5) 0 0).n (asK 5 2)) && ((Nat.beq n2I.length 2 && Nat.beq 2 (sizeR rpO.2)) && underL (bldP (paG 5) 0 0).n n2I)) = true := by kernel_rfl
theorem nk_5_3 : treeIs rpO (oNf 5 3) (listT n2I) = true := by kernel_rfl
theorem nl_5_3 : ((Nat.ble (bldP (paG 5) 0 0).j 1000 && undersF (bldP (paG 5) 0 0).n (asK 5 3)) && ((Nat.beq n2I.length 2 && Nat.beq 2 (sizeR rpO.2)) && underL (bldP (paG 5) 0 0).n n2I)) = true := by kernel_rfl
theorem nk_5_4 : treeIs rpO (oNf 5 4) (listT n2I) = true := by kernel_rfl
theorem nl_5_4 : ((Nat.ble (bldP (paG 5) 0 0).j 1000 && undersF (bldP (paG 5) 0 0).n (asK 5 4)) && ((Nat.beq n2I.length 2 && Nat.beq 2 (sizeR rpO.2)) && underL (bldP (paG 5) 0 0).n n2I)) = true := by kernel_rfl
theorem nk_6_0 : treeIs rpO (oNf 6 0) (listT n2I) = true := by kernel_rfl
theorem nl_6_0 : ((Nat.ble (bldP (paG 6) 0 0).j 1000 && undersF (bldP (paG 6) 0 0).n (asK 6 0)) && ((Nat.beq n2I.length 2 && Nat.beq 2 (sizeR rpO.2)) && underL (bldP (paG 6) 0 0).n n2I)) = true := by kernel_rfl
theorem nk_6_1 : treeIs rpO (oNf 6 1) (listT n2I) = true := by kernel_rfl
theorem nl_6_1 : ((Nat.ble (bldP (paG 6) 0 0).j 1000 && undersF (bldP (paG 6) 0 0).n (asK 6 1)) && ((Nat.beq n2I.length 2 && Nat.beq 2 (sizeR rpO.2)) && underL (bldP (paG 6) 0 0).n n2I)) = true := by kernel_rfl
theorem nk_6_2 : treeIs rpO (oNf 6 2) (listT n2I) = true := by kernel_rfl
theorem nl_6_2 : ((Nat.ble (bldP (paG 6) 0 0).j 1000 && undersF (bldP (paG 6) 0 0).n (asK 6 2)) && ((Nat.beq n2I.length 2 && Nat.beq 2 (sizeR rpO.2)) && underL (bldP (paG 6) 0 0).n n2I)) = true := by kernel_rfl
theorem nk_6_3 : treeIs rpO (oNf 6 3) (listT n2I) = true := by kernel_rfl
theorem nl_6_3 : ((Nat.ble (bldP (paG 6) 0 0).j 1000 && undersF (bldP (paG 6) 0 0).n (asK 6 3)) && ((Nat.beq n2I.length 2 && Nat.beq 2 (sizeR rpO.2)) && underL (bldP (paG 6) 0 0).n n2I)) = true := by kernel_rfl
theorem nk_6_4 : treeIs rpO (oNf 6 4) (listT n2I) = true := by kernel_rfl
theorem nl_6_4 : ((Nat.ble (bldP (paG 6) 0 0).j 1000 && undersF (bldP (paG 6) 0 0).n (asK 6 4)) && ((Nat.beq n2I.length 2 && Nat.beq 2 (sizeR rpO.2)) && underL (bldP (paG 6) 0 0).n n2I)) = true := by kernel_rfl
theorem nk_6_5 : treeIs rpO (oNf 6 5) (listT n2I) = true := by kernel_rfl
theorem nl_6_5 : ((Nat.ble (bldP (paG 6) 0 0).j 1000 && undersF (bldP (paG 6) 0 0).n (asK 6 5)) && ((Nat.beq n2I.length 2 && Nat.beq 2 (sizeR rpO.2)) && underL (bldP (paG 6) 0 0).n n2I)) = true := by kernel_rfl
def nfS (n t : Nat) : Sum := sumS (paG n) n 20 [(.var 0, false)] (nfK n t 6 0) (fun ts => mkR rpO (n2I.map (Tm.subst ts))) (elO 179)
theorem sg_1 : Nat.ble (20 + (6 + 34 * 1)) (bldP (paG 1) 0 0).n = true := by kernel_rfl
theorem sg_2 : Nat.ble (20 + (6 + 34 * 2)) (bldP (paG 2) 0 0).n = true := by kernel_rfl
theorem sg_3 : Nat.ble (20 + (6 + 34 * 3)) (bldP (paG 3) 0 0).n = true := by kernel_rfl
theorem sg_4 : Nat.ble (20 + (6 + 34 * 4)) (bldP (paG 4) 0 0).n = true := by kernel_rfl
theorem sg_5 : Nat.ble (20 + (6 + 34 * 5)) (bldP (paG 5) 0 0).n = true := by kernel_rfl
theorem sg_6 : Nat.ble (20 + (6 + 34 * 6)) (bldP (paG 6) 0 0).n = true := by kernel_rfl
theorem sg_b {n : Nat} (h1 : 1 ≤ n) (h6 : n ≤ 6) : Nat.ble (20 + (6 + 34 * n)) (bldP (paG n) 0 0).n = true := by
  match n, h1, h6 with
  | 1, _, _ => exact sg_1
  | 2, _, _ => exact sg_2
  | 3, _, _ => exact sg_3
  | 4, _, _ => exact sg_4
  | 5, _, _ => exact sg_5
  | 6, _, _ => exact sg_6
theorem nfS_one (hE : FokO E.fn) {n t : Nat} (h1 : 1 ≤ n) (h6 : n ≤ 6) (k1 : treeIs rpO (oNf n t) (listT n2I) = true)
    (k2 : ((Nat.ble (bldP (paG n) 0 0).j 1000 && undersF (bldP (paG n) 0 0).n (asK n t)) && ((Nat.beq n2I.length 2 && Nat.beq 2 (sizeR rpO.2)) && underL (bldP (paG n) 0 0).n n2I)) = true) : SumOk Try.prog E 179 (nfS n t) :=
  sumS_ok (ass := asK n t) rfl (sg_b h1 h6) (fun _ _ => rfl) (sumT_okI (cxO_okO hE) k2 k1 (elO_ok hE 179))
theorem nfS_ok (hE : FokO E.fn) : ∀ n t, 1 ≤ n → n ≤ 6 → t < n → SumOk Try.prog E 179 (nfS n t) := fun n t h1 h6 ht => match n, t, h1, h6, ht with
  | 1, 0, _, _, _ => nfS_one hE (by decide) (by decide) nk_1_0 nl_1_0
  | 2, 0, _, _, _ => nfS_one hE (by decide) (by decide) nk_2_0 nl_2_0
  | 2, 1, _, _, _ => nfS_one hE (by decide) (by decide) nk_2_1 nl_2_1
  | 3, 0, _, _, _ => nfS_one hE (by decide) (by decide) nk_3_0 nl_3_0
  | 3, 1, _, _, _ => nfS_one hE (by decide) (by decide) nk_3_1 nl_3_1
  | 3, 2, _, _, _ => nfS_one hE (by decide) (by decide) nk_3_2 nl_3_2
  | 4, 0, _, _, _ => nfS_one hE (by decide) (by decide) nk_4_0 nl_4_0
  | 4, 1, _, _, _ => nfS_one hE (by decide) (by decide) nk_4_1 nl_4_1
  | 4, 2, _, _, _ => nfS_one hE (by decide) (by decide) nk_4_2 nl_4_2
  | 4, 3, _, _, _ => nfS_one hE (by decide) (by decide) nk_4_3 nl_4_3
  | 5, 0, _, _, _ => nfS_one hE (by decide) (by decide) nk_5_0 nl_5_0
  | 5, 1, _, _, _ => nfS_one hE (by decide) (by decide) nk_5_1 nl_5_1
  | 5, 2, _, _, _ => nfS_one hE (by decide) (by decide) nk_5_2 nl_5_2
  | 5, 3, _, _, _ => nfS_one hE (by decide) (by decide) nk_5_3 nl_5_3
  | 5, 4, _, _, _ => nfS_one hE (by decide) (by decide) nk_5_4 nl_5_4
  | 6, 0, _, _, _ => nfS_one hE (by decide) (by decide) nk_6_0 nl_6_0
  | 6, 1, _, _, _ => nfS_one hE (by decide) (by decide) nk_6_1 nl_6_1
  | 6, 2, _, _, _ => nfS_one hE (by decide) (by decide) nk_6_2 nl_6_2
  | 6, 3, _, _, _ => nfS_one hE (by decide) (by decide) nk_6_3 nl_6_3
  | 6, 4, _, _, _ => nfS_one hE (by decide) (by decide) nk_6_4 nl_6_4
  | 6, 5, _, _, _ => nfS_one hE (by decide) (by decide) nk_6_5 nl_6_5
theorem nfS_pc (hE : FokO E.fn) (n t : Nat) : ∀ args m pc, PcOk E pc → Pcs E Res.pc (nfS n t args m pc) := fun args m pc hp => sumS_pc (elO_pc hE 179) args m pc hp
/-- The first part that is known not to be finite. -/
def nfAt (pc : PC) : List SV → Nat → Option Nat
  | [], _ => none
  | s :: r, k => match s with
    | .sc _ u => match Go.Sx.look pc (.op (.ffin .f32) u .nil) with
      | some false => some k
      | _ => nfAt pc r (k + 1)
    | _ => nfAt pc r (k + 1)
def nfG : Sum := fun args m pc => match args with
  | [g, x, .agg cs] => match shPtr [x] m.mem, nfAt pc cs 0 with
    | some n, some t => match Nat.blt t n with
      | true => nfS n t args m pc
      | false => elO 179 args m pc
    | _, _ => elO 179 args m pc
  | _ => elO 179 args m pc
theorem nfG_ok (hE : FokO E.fn) : SumOk Try.prog E 179 nfG := by
  intro args m pc r hr
  unfold nfG at hr
  split at hr
  · split at hr
    · rename_i n t h1 h2
      split at hr
      · rename_i h3
        obtain ⟨a, b⟩ := shPtr_ok h1
        exact nfS_ok hE n t a b (by simpa [Nat.blt_eq] using h3) _ m pc r hr
      · exact elO_ok hE 179 _ m pc r hr
    · exact elO_ok hE 179 _ m pc r hr
  · exact elO_ok hE 179 _ m pc r hr
theorem nfG_pc (hE : FokO E.fn) (args : List SV) (m : Mm) (pc : PC) (hp : PcOk E pc) : Pcs E Res.pc (nfG args m pc) := by
  unfold nfG
  split
  · split
    · split
      · exact nfS_pc hE _ _ _ m pc hp
      · exact elO_pc hE 179 _ m pc hp
    · exact elO_pc hE 179 _ m pc hp
  · exact elO_pc hE 179 _ m pc hp
def gI (n : Nat) : PC := substF (selV (piG n)) (okP n (6 + 34 * n) 6)
def ofG' (n : Nat) : Sum := sumS (paG n) n 20 [(.var 0, false)] (gI n) (fun ts => mkR rpO (nths (.app (260 + n) (listT (tk (12 + 34 * n) (dr 20 ts) ++ tk 16 (dr 1 ts)))) 2 0)) nfG
theorem ofG_gen (hE : FokO E.fn) {els : Sum} (h : SumOk Try.prog E 179 els) (n : Nat) (h1 : 1 ≤ n) (h6 : n ≤ 6) : SumOk Try.prog E 179 (sumRp (paG n) (asG n) rpO 2 (260 + n) (piG n) els) := by
  match n, h1, h6 with
  | 1, _, _ => exact sumRp_ok (ctx := cxO) (n := 1000) (D := OD 1) (pcx := asG 1) (cxO_okO hE) nm mixed (hE.of 261 (OD 1) (show (261, OD 1) ∈ DsO from .tail _ (.tail _ (.tail _ (.tail _ (.tail _ (.head _))))))) fk_1 (fun _ _ h => h) fg_1 h
  | 2, _, _ => exact sumRp_ok (ctx := cxO) (n := 1000) (D := OD 2) (pcx := asG 2) (cxO_okO hE) nm mixed (hE.of 262 (OD 2) (show (262, OD 2) ∈ DsO from .tail _ (.tail _ (.tail _ (.tail _ (.head _)))))) fk_2 (fun _ _ h => h) fg_2 h
  | 3, _, _ => exact sumRp_ok (ctx := cxO) (n := 1000) (D := OD 3) (pcx := asG 3) (cxO_okO hE) nm mixed (hE.of 263 (OD 3) (show (263, OD 3) ∈ DsO from .tail _ (.tail _ (.tail _ (.head _))))) fk_3 (fun _ _ h => h) fg_3 h
  | 4, _, _ => exact sumRp_ok (ctx := cxO) (n := 1000) (D := OD 4) (pcx := asG 4) (cxO_okO hE) nm mixed (hE.of 264 (OD 4) (show (264, OD 4) ∈ DsO from .tail _ (.tail _ (.head _)))) fk_4 (fun _ _ h => h) fg_4 h
  | 5, _, _ => exact sumRp_ok (ctx := cxO) (n := 1000) (D := OD 5) (pcx := asG 5) (cxO_okO hE) nm mixed (hE.of 265 (OD 5) (show (265, OD 5) ∈ DsO from .tail _ (.head _))) fk_5 (fun _ _ h => h) fg_5 h
  | 6, _, _ => exact sumRp_ok (ctx := cxO) (n := 1000) (D := OD 6) (pcx := asG 6) (cxO_okO hE) nm mixed (hE.of 266 (OD 6) (show (266, OD 6) ∈ DsO from .head _)) fk_6 (fun _ _ h => h) fg_6 h
theorem he_1 : asG 1 = [(.var 0, false)] ++ ((hdS 1 (vars (6 + 34 * 1) 20), true) :: gI 1) := by kernel_rfl
theorem he_2 : asG 2 = [(.var 0, false)] ++ ((hdS 2 (vars (6 + 34 * 2) 20), true) :: gI 2) := by kernel_rfl
theorem he_3 : asG 3 = [(.var 0, false)] ++ ((hdS 3 (vars (6 + 34 * 3) 20), true) :: gI 3) := by kernel_rfl
theorem he_4 : asG 4 = [(.var 0, false)] ++ ((hdS 4 (vars (6 + 34 * 4) 20), true) :: gI 4) := by kernel_rfl
theorem he_5 : asG 5 = [(.var 0, false)] ++ ((hdS 5 (vars (6 + 34 * 5) 20), true) :: gI 5) := by kernel_rfl
theorem he_6 : asG 6 = [(.var 0, false)] ++ ((hdS 6 (vars (6 + 34 * 6) 20), true) :: gI 6) := by kernel_rfl
theorem he_ {n : Nat} (h1 : 1 ≤ n) (h6 : n ≤ 6) : asG n = [(.var 0, false)] ++ ((hdS n (vars (6 + 34 * n) 20), true) :: gI n) := by
  match n, h1, h6 with
  | 1, _, _ => exact he_1
  | 2, _, _ => exact he_2
  | 3, _, _ => exact he_3
  | 4, _, _ => exact he_4
  | 5, _, _ => exact he_5
  | 6, _, _ => exact he_6
theorem sgn_1 : (bldP (paG 1) 0 0).n = 32 + 34 * 1 := by kernel_rfl
theorem sgn_2 : (bldP (paG 2) 0 0).n = 32 + 34 * 2 := by kernel_rfl
theorem sgn_3 : (bldP (paG 3) 0 0).n = 32 + 34 * 3 := by kernel_rfl
theorem sgn_4 : (bldP (paG 4) 0 0).n = 32 + 34 * 4 := by kernel_rfl
theorem sgn_5 : (bldP (paG 5) 0 0).n = 32 + 34 * 5 := by kernel_rfl
theorem sgn_6 : (bldP (paG 6) 0 0).n = 32 + 34 * 6 := by kernel_rfl
theorem sg_n {n : Nat} (h1 : 1 ≤ n) (h6 : n ≤ 6) : (bldP (paG n) 0 0).n = 32 + 34 * n := by
  match n, h1, h6 with
  | 1, _, _ => exact sgn_1
  | 2, _, _ => exact sgn_2
  | 3, _, _ => exact sgn_3
  | 4, _, _ => exact sgn_4
  | 5, _, _ => exact sgn_5
  | 6, _, _ => exact sgn_6
theorem ofG'_ok (hE : FokO E.fn) (n : Nat) (h1 : 1 ≤ n) (h6 : n ≤ 6) : SumOk Try.prog E 179 (ofG' n) :=
  sumS_ok (he_ h1 h6) (sg_b h1 h6) (fun ts hts => by
    have hl : ts.length = 32 + 34 * n := by rw [← hts]; exact sg_n h1 h6
    unfold piG
    rw [selT_append, selT_upto (by omega), selT_upto (by omega)]) (ofG_gen hE (nfG_ok hE) n h1 h6)
theorem ofG'_pc (hE : FokO E.fn) (n : Nat) : ∀ args m pc, PcOk E pc → Pcs E Res.pc (ofG' n args m pc) := fun args m pc hp => sumS_pc (nfG_pc hE) args m pc hp
def cxR : Ctx := ctxL ((111, shiftW (disp shArgO ofI' (elO 111))) :: (179, disp shPtrG ofG' (elO 179)) :: (67, sfE) :: (152, shiftY (disp shArg2 ckS (elS 152))) :: (67, sfD) :: (177, disp shPtr2 cvS (elC 177)) :: (178, disp shArg2 cvI (elC 178)) :: (152, shiftX (call cxC Try.prog 1000 152)) :: (157, disp shPtr2 mxN (call cxB Try.prog 1000 157)) :: (69, disp shArg2 mxI (call cxB Try.prog 1000 69)) :: (157, disp shPtr2 mxS (call cxB Try.prog 1000 157)) :: (172, thick 172) :: (174, thick 174) :: (173, offS 173) :: (175, offS 175) :: orL (ctxL l3) Try.prog 1000 l5)
theorem cxR_okF (hE : FokO E.fn) : CtxOk Try.prog E cxR ∧ CtxPc E cxR :=
  ctxL_cons (ctxL_cons (ctxL_cons (cxO_okF hE.toFokC) (sfE_ok hE.toFokC) (sfE_pc hE.toFokC))
    (disp_ok (fun _ _ n hn => ofG'_ok hE n (shPtrG_ok hn).1 (shPtrG_ok hn).2) (elO_ok hE 179)) (disp_pc (fun n => ofG'_pc hE n) (elO_pc hE 179)))
    (shiftW_ok (disp_ok (fun _ _ n hn => ofI'_ok hE n (shArgO_ok hn).1 (shArgO_ok hn).2) (elO_ok hE 111))) (shiftW_pc (disp_pc (fun n => fun args m pc hp => sumS_pc (elO_pc hE 111) args m pc hp) (elO_pc hE 111)))
end
end Go.Proofs.Ytamljpeicecbjaa.Leaf
set_option linter.unusedVariables false
set_option linter.unusedSimpArgs false
set_option maxRecDepth 100000
noncomputable section
namespace Go.Proofs.Ytamljpeicecbjaa.Leaf
open Go.Sx
def paI (n : Nat) : List Pa := [.aggS n pgs t6, .agg f6, .agg f16, .sc k32]
def rpI : Rp := (true, [(false, [.bool]), (false, [.int .i64])])
/-- None of these is above nought. -/
def nsT : List Tm → Tm
  | [] => .bl true
  | u :: r => match r with
    | [] => .op .notb (.op (.flt .f32) (.fl 0) u) .nil
    | _ => .ite (.op (.flt .f32) (.fl 0) u) (.bl false) (nsT r)
def pcI (n : Nat) : PC := okI n ++ [(nsT (ptI n), false)]
theorem nsT_den {E : Env} : ∀ {l : List Tm}, ((nsT l).den E).toB = true → ∀ u, u ∈ l → F.lt .f32 0 (u.den E).toF = false
  | [], _, u, hu => by cases hu
  | [v], h, u, hu => by
    simp only [List.mem_cons, List.not_mem_nil, or_false] at hu
    subst hu
    have h' : (!F.lt .f32 0 (u.den E).toF) = true := h
    simpa using h'
  | v :: v' :: r, h, u, hu => by
    obtain ⟨h1, h2⟩ : F.lt .f32 0 (v.den E).toF = false ∧ ((nsT (v' :: r)).den E).toB = true := by
      have h' : (if F.lt .f32 0 (v.den E).toF = true then Sc.b false else (nsT (v' :: r)).den E).toB = true := h
      cases hc : F.lt .f32 0 (v.den E).toF with
      | true => rw [hc] at h'; simp at h'
      | false => rw [hc] at h'; exact ⟨rfl, by simpa using h'⟩
    rcases List.mem_cons.1 hu with rfl | hu
    · exact h1
    · exact nsT_den h2 u hu
theorem okP_le {E : Env} {n p : Nat} : ∀ {m : Nat}, PcOk E (okP n p m) → ∀ q, q < m → F.le .f32 0 (E.v (p + q)).toF = true
  | m + 1, h, q, hq => by
    simp only [okP] at h
    rcases Nat.lt_or_ge q m with h1 | h1
    · exact okP_le (fun x hx => h x (List.mem_append.2 (.inl hx))) q h1
    · have : q = m := by omega
      subst this
      exact h (.op (.fle .f32) (.fl 0) (.var (p + q)), true) (List.mem_append.2 (.inr (List.mem_append.2 (.inl (List.mem_cons_self ..)))))
theorem pcI_ok {n : Nat} (E : Env) (h : PcOk E (okI n)) : PcOk E (pcI n) := by
  refine pc_append h (PcOk.cons (fun p hp => by cases hp) ?_)
  have hz : ((allZ (ptI n)).den E).toB = false := h (allZ (ptI n), false) (List.mem_append.2 (.inr (List.mem_cons_self ..)))
  have hle := okP_le (E := E) (n := n) (p := 6 + 34 * n) (m := 6) (fun x hx => h x (List.mem_append.2 (.inl (List.mem_append.2 (.inr hx)))))
  cases hc : ((nsT (ptI n)).den E).toB with
  | false => rfl
  | true =>
    have hall := nsT_den hc
    have : ((allZ (ptI n)).den E).toB = true := allZ_den.2 fun u hu => by
      have h1 := hall u hu
      obtain ⟨q, hq, rfl⟩ : ∃ q, q < 6 ∧ u = .var (6 + 34 * n + q) := by
        simp only [ptI, vars, List.mem_cons, List.not_mem_nil, or_false] at hu
        rcases hu with rfl | rfl | rfl | rfl | rfl | rfl
        · exact ⟨0, by decide, rfl⟩
        · exact ⟨1, by decide, rfl⟩
        · exact ⟨2, by decide, rfl⟩
        · exact ⟨3, by decide, rfl⟩
        · exact ⟨4, by decide, rfl⟩
        · exact ⟨5, by decide, rfl⟩
      rcases Nat.eq_zero_or_pos ((E.v (6 + 34 * n + q)).toF % FloatKind.f32.format.signWeight) with h0 | h0
      · exact h0
      · have := nz_lt (hle q hq) (by omega)
        have h1' : F.lt .f32 0 (E.v (6 + 34 * n + q)).toF = false := h1
        rw [this] at h1'
        cases h1'
    rw [this] at hz
    cases hz
def oIS (n : Nat) : Out Res := callQ Try.prog cxR 1000 115 (paI n) (pcI n)
def oII (n : Nat) : Out Res := callQ Try.prog cxR 1000 116 (paI n) (pcI n)
def aQ (n : Nat) : Tm := .var (28 + 34 * n)
def pQ (n q : Nat) : Tm := .var (6 + 34 * n + q)
def mQ (n f : Nat) : Tm := .ite (.op (.flt .f32) (pQ n f) (aQ n)) (pQ n f) (aQ n)
def xQ (n f t : Nat) : Tm := .op (.fadd .f32) (pQ n t) (mQ n f)
def shQ (n f t : Nat) : Nat → Nat → List Tm
  | 0, _ => []
  | m + 1, q => (match Nat.beq q f with
    | true => .op (.fsub .f32) (pQ n f) (mQ n f)
    | false => match Nat.beq q t with
      | true => xQ n f t
      | false => pQ n q) :: shQ n f t m (q + 1)
def offQ (n : Nat) (l : List Tm) : Tm := .app (260 + n) (listT (vars (6 + 34 * n) 0 ++ (l ++ vars 16 (12 + 34 * n))))
def bQ (n : Nat) : Tm := offQ n (vars 6 (6 + 34 * n))
def twoQ (b : Bool) (c : Tm) : Tm := listT [.bl b, c]
def pairQ (n f t : Nat) (rest : Tm) : Tm := .ite (.ite (.op (.ffin .f32) (xQ n f t) .nil) (.ite (.op .eqi (.nth 1 (offQ n (shQ n f t 6 0))) (.il 0)) (.op (.flt .f32) (.nth 0 (offQ n (shQ n f t 6 0))) (.nth 0 (bQ n))) (.bl false)) (.bl false)) (twoQ false (.il 0)) rest
/-- All pairs, in order. -/
def pairsQ (n : Nat) : Nat → Nat → Nat → Tm
  | 0, _, _ => twoQ true (.il 0)
  | k + 1, f, t => match Nat.beq t n with
    | true => pairsQ n k (f + 1) 0
    | false => match Nat.blt f n with
      | false => twoQ true (.il 0)
      | true => match Nat.beq f t with
        | true => pairsQ n k f (t + 1)
        | false => pairQ n f t (pairsQ n k f (t + 1))
def ID (n : Nat) : Tm := .ite (.ite (.op (.fle .f32) (.fl 0) (aQ n)) (.op .notb (.op (.ffin .f32) (aQ n) .nil) .nil) (.bl true)) (twoQ false (.il 2)) (.ite (.op .notb (.op .eqi (.nth 1 (bQ n)) (.il 0)) .nil) (twoQ false (.nth 1 (bQ n))) (pairsQ n 60 0 0))
theorem defsAsc_consI {id b : Nat} {D : Tm} {r : List (Nat × Tm)} (h1 : Nat.blt id b = true) (h2 : D.appsLt id = true) (h3 : defsAsc r id = true) : defsAsc ((id, D) :: r) b = true := by
  simp only [defsAsc, h1, h2, h3]
end Go.Proofs.Ytamljpeicecbjaa.Leaf
