/- Contracts of functions whose arguments are plain values, aggregates, pointers to such and functions; names for what they compute. No condition. -/
import Derived.Test.YtfdpcmijifdfeaaGreatSxLaw
set_option linter.unusedVariables false
set_option linter.unusedSimpArgs false
noncomputable section
namespace Go.Sx
open Go Go.RowKit

/-- What an argument is. -/
inductive Pa where
  | sc (k : SK) | agg (ks : List SK) | pt (ks : List SK) | fn (g : Nat)
  /-- An aggregate, or a pointer to one, whose first cell is a slice of m rows. -/
  | aggS (m : Nat) (ks rk : List SK) | ptS (m : Nat) (ks rk : List SK)
  /-- A slice of m rows. -/
  | sl (m : Nat) (ks : List SK)
  /-- An open list of rows: its length and its cells. -/
  | og (ks : List SK)
def beqKs : List SK → List SK → Bool
  | [], [] => true
  | a :: x, b :: y => match beqK a b with | true => beqKs x y | false => false
  | _, _ => false
theorem beqKs_eq : ∀ {x y : List SK}, beqKs x y = true → x = y
  | [], [], _ => rfl
  | a :: x, b :: y, h => by
    simp only [beqKs] at h
    split at h
    · rename_i h1; rw [beqK_eq h1, beqKs_eq h]
    · cases h
  | [], _ :: _, h => by cases h
  | _ :: _, [], h => by cases h

def bldP : List Pa → Nat → Nat → Bld
  | [], n, j => ⟨[], n, j, [], []⟩
  | .sc k :: r, n, j => let b := bldP r (n + 1) j; ⟨.sc k (.var n) :: b.svs, b.n, b.j, b.mem, strPc [k] n ++ b.pc⟩
  | .agg ks :: r, n, j => let b := bldP r (n + ks.length) j; ⟨.agg (sym ks n) :: b.svs, b.n, b.j, b.mem, strPc ks n ++ b.pc⟩
  | .pt ks :: r, n, j => let b := bldP r (n + ks.length) (j + 1); ⟨.ptr j 0 :: b.svs, b.n, b.j, (j, ⟨sym ks n, none⟩) :: b.mem, strPc ks n ++ b.pc⟩
  | .aggS m ks rk :: r, n, j => let b := bldP r (n + rk.length + (times ks m).length) (j + 1)
    ⟨.agg (.sl j 0 m :: sym rk n) :: b.svs, b.n, b.j, (j, ⟨sym (times ks m) (n + rk.length), none⟩) :: b.mem, strPc rk n ++ (strPc (times ks m) (n + rk.length) ++ b.pc)⟩
  | .ptS m ks rk :: r, n, j => let b := bldP r (n + rk.length + (times ks m).length) (j + 2)
    ⟨.ptr (j + 1) 0 :: b.svs, b.n, b.j, (j + 1, ⟨.sl j 0 m :: sym rk n, none⟩) :: (j, ⟨sym (times ks m) (n + rk.length), none⟩) :: b.mem, strPc rk n ++ (strPc (times ks m) (n + rk.length) ++ b.pc)⟩
  | .sl m ks :: r, n, j => let b := bldP r (n + (times ks m).length) (j + 1)
    ⟨.sl j 0 m :: b.svs, b.n, b.j, (j, ⟨sym (times ks m) n, none⟩) :: b.mem, strPc (times ks m) n ++ b.pc⟩
  | .og ks :: r, n, j => let b := bldP r (n + 2) (j + 1)
    ⟨.og j ks (.var n) (.var (n + 1)) :: b.svs, b.n, b.j, (j, ⟨[], none⟩) :: b.mem, b.pc⟩
  | .fn g :: r, n, j => let b := bldP r n j; ⟨.fn (.func g) [] [] :: b.svs, b.n, b.j, b.mem, b.pc⟩

/-- The texts among these are no longer than a whole number can say. -/
def strs (pc : PC) : List SK → List Tm → Bool
  | .str :: ks, t :: ts => match decB pc (.op .lei (.op .lens t .nil) (.il 9223372036854775807)) with
    | some true => strs pc ks ts
    | _ => false
  | _ :: ks, _ :: ts => strs pc ks ts
  | _, _ => true
/-- The terms of cells, the first of them a slice of m rows: those of the other cells, then those of the rows. -/
def matchS (mem : Mem) (pc : PC) (m : Nat) (ks rk : List SK) : List SV → Option (List Tm × List Tm)
  | .sl j o m' :: cs => match Nat.beq m m', find mem j, matchKs rk cs with
    | true, some sb, some t1 => match cut sb.cs o (times ks m).length with
      | some rs => match matchKs (times ks m) rs with
        | some t2 => match strs pc rk t1, strs pc (times ks m) t2 with
          | true, true => some (t1, t2)
          | _, _ => none
        | none => none
      | none => none
    | _, _, _ => none
  | _ => none
def matchP (mem : Mem) (pc : PC) : List Pa → List SV → Option (List Tm)
  | [], [] => some []
  | .sc k :: ps, .sc k' t :: ss => match beqK k k', strs pc [k] [t], matchP mem pc ps ss with
    | true, true, some ts => some (t :: ts)
    | _, _, _ => none
  | .agg ks :: ps, .agg cs :: ss => match matchKs ks cs with
    | some t1 => match strs pc ks t1, matchP mem pc ps ss with
      | true, some ts => some (t1 ++ ts)
      | _, _ => none
    | none => none
  | .pt ks :: ps, .ptr j o :: ss => match find mem j with
    | some sb => match cut sb.cs o ks.length with
      | some cs => match matchKs ks cs with
        | some t1 => match strs pc ks t1, matchP mem pc ps ss with
          | true, some ts => some (t1 ++ ts)
          | _, _ => none
        | none => none
      | none => none
    | none => none
  | .aggS m ks rk :: ps, .agg cs :: ss => match matchS mem pc m ks rk cs, matchP mem pc ps ss with
    | some (t1, t2), some ts => some (t1 ++ t2 ++ ts)
    | _, _ => none
  | .ptS m ks rk :: ps, .ptr j o :: ss => match find mem j with
    | some sb => match cut sb.cs o (rk.length + 1) with
      | some cs => match matchS mem pc m ks rk cs, matchP mem pc ps ss with
        | some (t1, t2), some ts => some (t1 ++ t2 ++ ts)
        | _, _ => none
      | none => none
    | none => none
  | .sl m ks :: ps, .sl j o m' :: ss => match matchS mem pc m ks [] [.sl j o m'], matchP mem pc ps ss with
    | some (_, t2), some ts => some (t2 ++ ts)
    | _, _ => none
  | .og ks :: ps, .og j ks' a b :: ss => match beqKs ks ks', find mem j, matchP mem pc ps ss with
    | true, some _, some ts => some (a :: b :: ts)
    | _, _, _ => none
  | .fn g :: ps, .fn f a c :: ss => match SV.beq (.fn (.func g) [] []) (.fn f a c), matchP mem pc ps ss with
    | true, some ts => some ts
    | _, _ => none
  | _, _ => none
def sumP (ps : List Pa) (mk : List Tm → SV) : Sum := fun args m pc =>
  match matchP m.mem pc ps args with
  | some ts => val m pc (mk ts)
  | none => .bad 310
def callP (P : Program) (ctx : Ctx) (n f : Nat) (ps : List Pa) : Out Res :=
  call ctx P n f (bldP ps 0 0).svs ⟨(bldP ps 0 0).mem, (bldP ps 0 0).j, 2 ^ 256, 2 ^ 200⟩ (bldP ps 0 0).pc
def retV (o : Out Res) (V : SV) : Bool :=
  match o with
  | .ret r => SV.beq r.v V
  | _ => false

section
variable {P : Program} {E : Env} {β : Pl} {w : World}

theorem strs_ok {pc : PC} (hp : PcOk E pc) : ∀ {ks : List SK} {ts : List Tm} {E' : Env} {n : Nat}, strs pc ks ts = true → ks.length = ts.length → (∀ (i : Nat) (t : Tm), ts[i]? = some t → E'.v (n + i) = t.den E) → PcOk E' (strPc ks n)
  | [], _, E', n, _, _, _ => fun p h => by cases h
  | k :: ks, [], E', n, _, hl, _ => by simp at hl
  | k :: ks, t :: ts, E', n, h, hl, hE => by
    have ih : strs pc ks ts = true → PcOk E' (strPc ks (n + 1)) := fun h' => strs_ok hp h' (by simpa using hl) fun i t' hi => by
      have := hE (i + 1) t' (by simpa using hi)
      rwa [show n + 1 + i = n + (i + 1) by omega]
    cases k with
    | bool => exact ih (by simpa [strs] using h)
    | int _ => exact ih (by simpa [strs] using h)
    | float _ => exact ih (by simpa [strs] using h)
    | str =>
      simp only [strs] at h
      split at h
      · rename_i hd
        intro p hp'
        rcases List.mem_cons.1 hp' with rfl | hp'
        · have h1 := decB_ok hp _ hd
          have h2 := hE 0 t rfl
          rw [Nat.add_zero] at h2
          simp only [Tm.den, Opc.den, Sc.toI_i, Sc.toB_b, h2] at h1 ⊢
          exact h1
        · exact ih h p hp'
      · cases h

theorem matchKs_sym {ks : List SK} {cs : List SV} {ts : List Tm} {vs : List Value} {E' : Env} {β' : Pl} {n : Nat} (h : matchKs ks cs = some ts) (hr : SV.reps E β cs vs) (hE : ∀ (i : Nat) (t : Tm), ts[i]? = some t → E'.v (n + i) = t.den E) :
    SV.reps E' β' (sym ks n) vs := by
  obtain ⟨g1, g2, g3⟩ := matchKs_reps h hr
  refine sym_reps ks n vs g1 fun i k v hi hv => ?_
  have hlt := (List.getElem?_eq_some_iff.1 hi).1
  have ht : ts[i]? = some (ts[i]'(by omega)) := List.getElem?_eq_getElem _
  rw [hE i _ ht]
  exact g3 i k _ v hi ht hv

theorem matchS_ok (P : Program) {mem : Mem} {pc : PC} (hp : PcOk E pc) (hm : Reads E β mem w) {m : Nat} {ks rk : List SK} {cs : List SV} {t1 t2 : List Tm} {vs : List Value} (h : matchS mem pc m ks rk cs = some (t1, t2)) (hr : SV.reps E β cs vs) :
    t1.length = rk.length ∧ t2.length = (times ks m).length ∧ ∃ b : Bs, ∀ (E' : Env) (β' : Pl) (n j : Nat), (∀ (i : Nat) (t : Tm), t1[i]? = some t → E'.v (n + i) = t.den E) → (∀ (i : Nat) (t : Tm), t2[i]? = some t → E'.v (n + rk.length + i) = t.den E) → β' j = some b →
      SV.reps E' β' (.sl j 0 m :: sym rk n) vs ∧ SB.reads E' β' ⟨sym (times ks m) (n + rk.length), none⟩ b w ∧ PcOk E' (strPc rk n) ∧ PcOk E' (strPc (times ks m) (n + rk.length)) := by
  unfold matchS at h
  split at h
  · rename_i j o m' cs'
    split at h
    · rename_i sb t1' hb hsb h1
      split at h
      · rename_i rs hcut
        split at h
        · rename_i t2' h2
          split at h
          · rename_i hs1 hs2
            simp only [Option.some.injEq, Prod.mk.injEq] at h
            obtain ⟨rfl, rfl⟩ := h
            simp only [SV.reps] at hr
            obtain ⟨v, rest, rfl, hv, hrest⟩ := hr
            simp only [SV.rep] at hv
            obtain ⟨b, c, hbj, rfl, hmc⟩ := hv
            obtain ⟨b', hb', hreads⟩ := hm j sb (find_mem hsb)
            rw [hbj] at hb'; cases hb'
            obtain ⟨us, _, hlen, hus, hone, hcell⟩ := loadCells_run (P := P) hreads hcut
            obtain ⟨k1, k2, _⟩ := matchKs_reps h1 hrest
            obtain ⟨k3, k4, _⟩ := matchKs_reps h2 hus
            refine ⟨k2, k4, ⟨b.blk, b.off + o, c, []⟩, fun E' β' n j' hE1 hE2 hβ => ?_⟩
            have e := Nat.eq_of_beq_eq_true hb
            subst e
            have hsym := matchKs_sym (E' := E') (β' := β') (n := n + rk.length) h2 hus hE2
            refine ⟨?_, ⟨hreads.1, fun i s hi => ?_, .inl rfl, fun _ _ h => by cases h⟩, strs_ok hp hs1 k2.symm hE1, strs_ok hp hs2 k4.symm hE2⟩
            · simp only [reps_cons, SV.rep]
              exact ⟨⟨_, c, hβ, rfl, hmc⟩, matchKs_sym h1 hrest hE1⟩
            · obtain ⟨u, hu, hrep⟩ := reps_get hsym hi
              exact ⟨u, hcell i u hu, hone u (List.mem_of_getElem? hu), hrep⟩
          · cases h
        · cases h
      · cases h
    · cases h
  · cases h
theorem matchP_ok (P : Program) {mem : Mem} {pc : PC} (hp : PcOk E pc) (hm : Reads E β mem w) : ∀ {ps : List Pa} {ss : List SV} {ts : List Tm} {vals : List Value} {n j : Nat}, matchP mem pc ps ss = some ts → SV.reps E β ss vals →
    (bldP ps n j).n = n + ts.length ∧ ∃ bss : List Bs, (bldP ps n j).j = j + bss.length ∧ ∀ (E' : Env) (β' : Pl), (∀ (i : Nat) (t : Tm), ts[i]? = some t → E'.v (n + i) = t.den E) → (∀ (i : Nat) (x : Bs), bss[i]? = some x → β' (j + i) = some x) →
      SV.reps E' β' (bldP ps n j).svs vals ∧ Reads E' β' (bldP ps n j).mem w ∧ PcOk E' (bldP ps n j).pc := by
  intro ps
  induction ps with
  | nil =>
    intro ss ts vals n j h hr
    cases ss with
    | nil =>
      simp only [matchP, Option.some.injEq] at h
      subst h
      simp only [reps_nil] at hr
      subst hr
      exact ⟨rfl, [], rfl, fun E' β' _ _ => ⟨by simp [bldP], fun j sb h => (by cases h), fun p h => (by cases h)⟩⟩
    | cons s ss => simp [matchP] at h
  | cons p ps ih =>
    intro ss ts vals n j h hr
    cases ss with
    | nil => cases p <;> simp [matchP] at h
    | cons s ss =>
      simp only [SV.reps] at hr
      obtain ⟨v, rest, rfl, hv, hrest⟩ := hr
      cases p with
      | sc k =>
        cases s <;> simp only [matchP] at h <;> (first | cases h | skip)
        rename_i k' t
        split at h
        · rename_i ts' hk hs hmm
          simp only [Option.some.injEq] at h
          subst h
          have e := beqK_eq hk
          subst e
          obtain ⟨e1, bss, e2, hall⟩ := ih (n := n + 1) (j := j) hmm hrest
          refine ⟨by simp only [bldP, e1, List.length_cons]; omega, bss, by simp only [bldP, e2], fun E' β' hE hβ => ?_⟩
          obtain ⟨g1, g2, g3⟩ := hall E' β' (fun i t' hi => by rw [show n + 1 + i = n + (i + 1) by omega]; exact hE (i + 1) t' (by simpa using hi)) hβ
          have h0 := hE 0 t rfl
          rw [Nat.add_zero] at h0
          refine ⟨?_, g2, fun q hq => ?_⟩
          · simp only [bldP, reps_cons]
            refine ⟨?_, g1⟩
            simp only [SV.rep, Tm.den] at hv ⊢
            rw [h0]; exact hv
          · simp only [bldP] at hq
            rcases List.mem_append.1 hq with hq | hq
            · exact strs_ok hp (ks := [k]) (ts := [t]) hs rfl (fun i t' hi => by
                cases i with
                | zero => simp at hi; subst hi; simpa using h0
                | succ i => simp at hi) q hq
            · exact g3 q hq
        · cases h
      | agg ks =>
        cases s <;> simp only [matchP] at h <;> (first | cases h | skip)
        rename_i cs
        split at h
        · rename_i t1 h1
          split at h
          · rename_i ts' hs hmm
            simp only [Option.some.injEq] at h
            subst h
            simp only [SV.rep] at hv
            obtain ⟨vs, rfl, hvs⟩ := hv
            obtain ⟨k1, k2, _⟩ := matchKs_reps h1 hvs
            obtain ⟨e1, bss, e2, hall⟩ := ih (n := n + ks.length) (j := j) hmm hrest
            refine ⟨by simp only [bldP, e1, List.length_append, k2]; omega, bss, by simp only [bldP, e2], fun E' β' hE hβ => ?_⟩
            have hE1 : ∀ (i : Nat) (t : Tm), t1[i]? = some t → E'.v (n + i) = t.den E := fun i t hi => hE i t (by rw [List.getElem?_append_left (List.getElem?_eq_some_iff.1 hi).1]; exact hi)
            obtain ⟨g1, g2, g3⟩ := hall E' β' (fun i t' hi => by
              rw [show n + ks.length + i = n + (t1.length + i) by omega]
              exact hE _ t' (by rw [List.getElem?_append_right (by omega), Nat.add_sub_cancel_left]; exact hi)) hβ
            refine ⟨?_, g2, fun q hq => ?_⟩
            · simp only [bldP, reps_cons, SV.rep]
              exact ⟨⟨vs, rfl, matchKs_sym h1 hvs hE1⟩, g1⟩
            · simp only [bldP] at hq
              rcases List.mem_append.1 hq with hq | hq
              · exact strs_ok hp hs k2.symm hE1 q hq
              · exact g3 q hq
          · cases h
        · cases h
      | pt ks =>
        cases s <;> simp only [matchP] at h <;> (first | cases h | skip)
        rename_i jj o
        split at h
        · rename_i sb hsb
          split at h
          · rename_i cs hcs
            split at h
            · rename_i t1 h1
              split at h
              · rename_i ts' hs hmm
                simp only [Option.some.injEq] at h
                subst h
                simp only [SV.rep] at hv
                obtain ⟨b, hb, rfl⟩ := hv
                obtain ⟨b', hb', hreads⟩ := hm jj sb (find_mem hsb)
                rw [hb] at hb'; cases hb'
                obtain ⟨vs, _, hlen, hvs, hone, hcell⟩ := loadCells_run (P := P) hreads hcs
                obtain ⟨k1, k2, _⟩ := matchKs_reps h1 hvs
                obtain ⟨e1, bss, e2, hall⟩ := ih (n := n + ks.length) (j := j + 1) hmm hrest
                refine ⟨by simp only [bldP, e1, List.length_append, k2]; omega, ⟨b.blk, b.off + o, 0, []⟩ :: bss, by simp only [bldP, e2, List.length_cons]; omega, fun E' β' hE hβ => ?_⟩
                have hE1 : ∀ (i : Nat) (t : Tm), t1[i]? = some t → E'.v (n + i) = t.den E := fun i t hi => hE i t (by rw [List.getElem?_append_left (List.getElem?_eq_some_iff.1 hi).1]; exact hi)
                obtain ⟨g1, g2, g3⟩ := hall E' β' (fun i t' hi => by
                  rw [show n + ks.length + i = n + (t1.length + i) by omega]
                  exact hE _ t' (by rw [List.getElem?_append_right (by omega), Nat.add_sub_cancel_left]; exact hi)) (fun i x hi => by rw [show j + 1 + i = j + (i + 1) by omega]; exact hβ (i + 1) x (by simpa using hi))
                have hb0 := hβ 0 _ rfl
                rw [Nat.add_zero] at hb0
                have hsym := matchKs_sym (β' := β') h1 hvs hE1
                refine ⟨?_, fun j' sb' hj => ?_, fun q hq => ?_⟩
                · simp only [bldP, reps_cons, SV.rep]
                  exact ⟨⟨_, hb0, rfl⟩, g1⟩
                · simp only [bldP] at hj
                  rcases List.mem_cons.1 hj with hj | hj
                  · cases hj
                    refine ⟨_, hb0, hreads.1, fun i s hi => ?_, .inl rfl, fun _ _ h => by cases h⟩
                    obtain ⟨u, hu, hrep⟩ := reps_get hsym hi
                    exact ⟨u, hcell i u hu, hone u (List.mem_of_getElem? hu), hrep⟩
                  · exact g2 j' sb' hj
                · simp only [bldP] at hq
                  rcases List.mem_append.1 hq with hq | hq
                  · exact strs_ok hp hs k2.symm hE1 q hq
                  · exact g3 q hq
              · cases h
            · cases h
          · cases h
        · cases h
      | aggS m ks rk =>
        cases s <;> simp only [matchP] at h <;> (first | cases h | skip)
        rename_i cs
        split at h
        · rename_i t1 t2 ts' hS hmm
          simp only [Option.some.injEq] at h
          subst h
          simp only [SV.rep] at hv
          obtain ⟨vs, rfl, hvs⟩ := hv
          obtain ⟨k1, k2, b, hb⟩ := matchS_ok P hp hm hS hvs
          obtain ⟨e1, bss, e2, hall⟩ := ih (n := n + rk.length + (times ks m).length) (j := j + 1) hmm hrest
          refine ⟨by simp only [bldP, e1, List.length_append, k1, k2]; omega, b :: bss, by simp only [bldP, e2, List.length_cons]; omega, fun E' β' hE hβ => ?_⟩
          have hb0 := hβ 0 _ rfl
          rw [Nat.add_zero] at hb0
          obtain ⟨c1, c2, c3, c4⟩ := hb E' β' n j (fun i t hi => hE i t (by rw [List.append_assoc, List.getElem?_append_left (List.getElem?_eq_some_iff.1 hi).1]; exact hi))
            (fun i t hi => by
              rw [show n + rk.length + i = n + (t1.length + i) by omega]
              exact hE _ t (by rw [List.append_assoc, List.getElem?_append_right (by omega), Nat.add_sub_cancel_left, List.getElem?_append_left (List.getElem?_eq_some_iff.1 hi).1]; exact hi)) hb0
          obtain ⟨g1, g2, g3⟩ := hall E' β' (fun i t' hi => by
            rw [show n + rk.length + (times ks m).length + i = n + ((t1 ++ t2).length + i) by rw [List.length_append]; omega]
            exact hE _ t' (by rw [List.getElem?_append_right (by omega), Nat.add_sub_cancel_left]; exact hi)) (fun i x hi => by rw [show j + 1 + i = j + (i + 1) by omega]; exact hβ (i + 1) x (by simpa using hi))
          refine ⟨?_, fun j' sb' hj => ?_, fun q hq => ?_⟩
          · simp only [bldP]
            rw [reps_cons]
            refine ⟨?_, g1⟩
            simp only [SV.rep]
            exact ⟨vs, rfl, c1⟩
          · simp only [bldP] at hj
            rcases List.mem_cons.1 hj with hj | hj
            · cases hj; exact ⟨_, hb0, c2⟩
            · exact g2 j' sb' hj
          · simp only [bldP] at hq
            rcases List.mem_append.1 hq with hq | hq
            · exact c3 q hq
            · rcases List.mem_append.1 hq with hq | hq
              · exact c4 q hq
              · exact g3 q hq
        · cases h
      | ptS m ks rk =>
        cases s <;> simp only [matchP] at h <;> (first | cases h | skip)
        rename_i jj o
        split at h
        · rename_i sb hsb
          split at h
          · rename_i cs hcs
            split at h
            · rename_i t1 t2 ts' hS hmm
              simp only [Option.some.injEq] at h
              subst h
              simp only [SV.rep] at hv
              obtain ⟨b0, hb0', rfl⟩ := hv
              obtain ⟨b', hb', hreads⟩ := hm jj sb (find_mem hsb)
              rw [hb0'] at hb'; cases hb'
              obtain ⟨vs, _, hlen, hvs, hone, hcell⟩ := loadCells_run (P := P) hreads hcs
              obtain ⟨k1, k2, b, hb⟩ := matchS_ok P hp hm hS hvs
              obtain ⟨e1, bss, e2, hall⟩ := ih (n := n + rk.length + (times ks m).length) (j := j + 2) hmm hrest
              refine ⟨by simp only [bldP, e1, List.length_append, k1, k2]; omega, b :: ⟨b0.blk, b0.off + o, 0, []⟩ :: bss, by simp only [bldP, e2, List.length_cons]; omega, fun E' β' hE hβ => ?_⟩
              have hb0 := hβ 0 _ rfl
              have hb1 := hβ 1 _ rfl
              rw [Nat.add_zero] at hb0
              obtain ⟨c1, c2, c3, c4⟩ := hb E' β' n j (fun i t hi => hE i t (by rw [List.append_assoc, List.getElem?_append_left (List.getElem?_eq_some_iff.1 hi).1]; exact hi))
                (fun i t hi => by
                  rw [show n + rk.length + i = n + (t1.length + i) by omega]
                  exact hE _ t (by rw [List.append_assoc, List.getElem?_append_right (by omega), Nat.add_sub_cancel_left, List.getElem?_append_left (List.getElem?_eq_some_iff.1 hi).1]; exact hi)) hb0
              obtain ⟨g1, g2, g3⟩ := hall E' β' (fun i t' hi => by
                rw [show n + rk.length + (times ks m).length + i = n + ((t1 ++ t2).length + i) by rw [List.length_append]; omega]
                exact hE _ t' (by rw [List.getElem?_append_right (by omega), Nat.add_sub_cancel_left]; exact hi)) (fun i x hi => by rw [show j + 2 + i = j + (i + 2) by omega]; exact hβ (i + 2) x (by simpa using hi))
              refine ⟨?_, fun j' sb' hj => ?_, fun q hq => ?_⟩
              · simp only [bldP]
                rw [reps_cons]
                refine ⟨?_, g1⟩
                simp only [SV.rep]
                exact ⟨_, hb1, rfl⟩
              · simp only [bldP] at hj
                rcases List.mem_cons.1 hj with hj | hj
                · cases hj
                  refine ⟨_, hb1, hreads.1, fun i s hi => ?_, .inl rfl, fun _ _ h => by cases h⟩
                  obtain ⟨u, hu, hrep⟩ := reps_get c1 hi
                  exact ⟨u, hcell i u hu, hone u (List.mem_of_getElem? hu), hrep⟩
                · rcases List.mem_cons.1 hj with hj | hj
                  · cases hj; exact ⟨_, hb0, c2⟩
                  · exact g2 j' sb' hj
              · simp only [bldP] at hq
                rcases List.mem_append.1 hq with hq | hq
                · exact c3 q hq
                · rcases List.mem_append.1 hq with hq | hq
                  · exact c4 q hq
                  · exact g3 q hq
            · cases h
          · cases h
        · cases h
      | sl m ks =>
        cases s <;> simp only [matchP] at h <;> (first | cases h | skip)
        rename_i jj o m'
        split at h
        · rename_i t1 t2 ts' hS hmm
          simp only [Option.some.injEq] at h
          subst h
          obtain ⟨k1, k2, b, hb⟩ := matchS_ok P hp hm (vs := [v]) hS (by rw [reps_cons]; exact ⟨hv, by simp [reps_nil]⟩)
          have ht1 : t1 = [] := List.eq_nil_of_length_eq_zero k1
          obtain ⟨e1, bss, e2, hall⟩ := ih (n := n + (times ks m).length) (j := j + 1) hmm hrest
          refine ⟨by simp only [bldP, e1, List.length_append, k2]; omega, b :: bss, by simp only [bldP, e2, List.length_cons]; omega, fun E' β' hE hβ => ?_⟩
          have hb0 := hβ 0 _ rfl
          rw [Nat.add_zero] at hb0
          obtain ⟨c1, c2, c3, c4⟩ := hb E' β' n j (fun i t hi => by subst ht1; simp at hi) (fun i t hi => by
              show E'.v (n + i) = _
              exact hE _ t (by rw [List.getElem?_append_left (List.getElem?_eq_some_iff.1 hi).1]; exact hi)) hb0
          obtain ⟨g1, g2, g3⟩ := hall E' β' (fun i t' hi => by
            rw [show n + (times ks m).length + i = n + (t2.length + i) by omega]
            exact hE _ t' (by rw [List.getElem?_append_right (by omega), Nat.add_sub_cancel_left]; exact hi)) (fun i x hi => by rw [show j + 1 + i = j + (i + 1) by omega]; exact hβ (i + 1) x (by simpa using hi))
          refine ⟨?_, fun j' sb' hj => ?_, fun q hq => ?_⟩
          · simp only [bldP]
            rw [reps_cons] at c1 ⊢
            exact ⟨c1.1, g1⟩
          · simp only [bldP] at hj
            rcases List.mem_cons.1 hj with hj | hj
            · cases hj; exact ⟨_, hb0, c2⟩
            · exact g2 j' sb' hj
          · simp only [bldP] at hq
            rcases List.mem_append.1 hq with hq | hq
            · exact c4 q hq
            · exact g3 q hq
        · cases h
      | og ks =>
        cases s <;> simp only [matchP] at h <;> (first | cases h | skip)
        rename_i jj ks' a b
        split at h
        · rename_i hk hsb hmm
          simp only [Option.some.injEq] at h
          subst h
          have e := beqKs_eq hk
          subst e
          rename_i sb ts'
          simp only [SV.rep] at hv
          obtain ⟨bs, l, hb, rfl, hlc, hlm, hln, hval, hrows⟩ := hv
          obtain ⟨b', hb', hreads⟩ := hm jj sb (find_mem hsb)
          rw [hb] at hb'; cases hb'
          obtain ⟨e1, bss, e2, hall⟩ := ih (n := n + 2) (j := j + 1) hmm hrest
          refine ⟨by simp only [bldP, e1, List.length_cons]; omega, bs :: bss, by simp only [bldP, e2, List.length_cons]; omega, fun E' β' hE hβ => ?_⟩
          have hb0 := hβ 0 _ rfl
          have h0 := hE 0 a rfl
          have h1 := hE 1 b rfl
          rw [Nat.add_zero] at hb0 h0
          obtain ⟨g1, g2, g3⟩ := hall E' β' (fun i t' hi => by
            rw [show n + 2 + i = n + (i + 2) by omega]
            exact hE _ t' (by simpa using hi)) (fun i x hi => by rw [show j + 1 + i = j + (i + 1) by omega]; exact hβ (i + 1) x (by simpa using hi))
          refine ⟨?_, fun j' sb' hj => ?_, fun q hq => g3 q hq⟩
          · simp only [bldP]
            rw [reps_cons]
            refine ⟨?_, g1⟩
            simp only [SV.rep, Tm.den, h0, h1]
            exact ⟨bs, l, hb0, rfl, hlc, hlm, hln, hval, hrows⟩
          · simp only [bldP] at hj
            rcases List.mem_cons.1 hj with hj | hj
            · cases hj
              refine ⟨_, hb0, hreads.1, fun i s hi => by simp at hi, ?_, fun _ _ h => by cases h⟩
              exact hreads.3.imp id fun h => ⟨rfl, h.2⟩
            · exact g2 j' sb' hj
        · cases h
      | fn g =>
        cases s <;> simp only [matchP] at h <;> (first | cases h | skip)
        rename_i f a c
        split at h
        · rename_i ts' hb hmm
          simp only [Option.some.injEq] at h
          subst h
          have e := SV.beq_eq _ _ hb
          simp only [SV.fn.injEq] at e
          obtain ⟨rfl, rfl, rfl⟩ := e
          obtain ⟨e1, bss, e2, hall⟩ := ih (n := n) (j := j) hmm hrest
          refine ⟨by simp only [bldP, e1], bss, by simp only [bldP, e2], fun E' β' hE hβ => ?_⟩
          obtain ⟨g1, g2, g3⟩ := hall E' β' hE hβ
          refine ⟨?_, g2, g3⟩
          simp only [bldP, reps_cons]
          refine ⟨?_, g1⟩
          simp only [SV.rep, reps_nil] at hv ⊢
          exact hv
        · cases h

/-- A CONTRACT OUT OF THE EXECUTOR'S OWN RECKONING. -/
theorem sumP_ok {ctx : Ctx} {n f : Nat} {ps : List Pa} {V : SV} {mk : List Tm → SV} (hC : ∀ E' : Env, E'.fn = E.fn → CtxOk P E' ctx ∧ CtxPc E' ctx)
    (hN : Named P) (hmix : P.follows .mixedOrders = true) (hj : (bldP ps 0 0).j ≤ 1000)
    (hk : ∃ r, callP P ctx n f ps = .ret r ∧ r.v = V)
    (hmk : ∀ (E' : Env) (ts : List Tm), E'.fn = E.fn → PcOk E' (bldP ps 0 0).pc → (bldP ps 0 0).n = ts.length → (∀ (i : Nat) (t : Tm), ts[i]? = some t → E'.v i = t.den E) → ∀ β' β v, SV.rep E' β' V v → SV.rep E β (mk ts) v) :
    SumOk P E f (sumP ps mk) := by
  intro args m pc r hr β w vals hreps hm hf hl hp
  unfold sumP at hr
  split at hr
  · rename_i ts hts
    simp only [val, Out.sel, Option.some.injEq] at hr
    subst hr
    obtain ⟨e1, bss, e2, hall⟩ := matchP_ok P hp hm (n := 0) (j := 0) hts hreps
    rw [Nat.zero_add] at e1 e2
    let E' : Env := ⟨fun i => (ts[i]?.map (Tm.den E)).getD .nil, E.fn⟩
    let β' : Pl := fun i => bss[i]?
    have hE : ∀ (i : Nat) (t : Tm), ts[i]? = some t → E'.v i = t.den E := fun i t hi => by simp [E', hi]
    obtain ⟨g1, g2, g3⟩ := hall E' β' (fun i t hi => by rw [Nat.zero_add]; exact hE i t hi) (fun i x hi => by rw [Nat.zero_add]; exact hi)
    obtain ⟨r0, hr0, e3⟩ := hk
    unfold callP at hr0
    · obtain ⟨_, _, hfn, hcalls⟩ := call_ok (hC E' rfl).1 (hC E' rfl).2 hN hmix n f (bldP ps 0 0).svs ⟨(bldP ps 0 0).mem, (bldP ps 0 0).j, 2 ^ 256, 2 ^ 200⟩ (bldP ps 0 0).pc r0 (by rw [hr0]; rfl) β' w vals g1 g2
        (fun i hi _ => by simp only [β']; exact List.getElem?_eq_none (by simp only at hi; omega)) (Nat.le_trans hj (show 1000 ≤ 2 ^ 256 by decide)) g3
      refine ⟨hp, hl, hfn, hcalls.mono fun e w' ⟨v, β'', he, hv', hst⟩ => ?_⟩
      rw [e3] at hv'
      exact ⟨v, β, he, hmk E' ts rfl g3 e1 hE β'' β v hv', Step.same _ hst.below⟩
  · cases hr
theorem retV_ok {o : Out Res} {V : SV} (h : retV o V = true) : ∃ r, o = .ret r ∧ r.v = V := by
  unfold retV at h
  split at h
  · rename_i r; exact ⟨r, rfl, SV.beq_eq _ _ h⟩
  · cases h
theorem sumP_pc {ps : List Pa} {mk : List Tm → SV} (args : List SV) (m : Mm) (pc : PC) (hp : PcOk E pc) : Pcs E Res.pc (sumP ps mk args m pc) := by
  unfold sumP
  split
  · exact .ret hp
  · exact .bad
end

/-! Names for what functions compute -/
def listT : List Tm → Tm
  | [] => .nil
  | t :: r => .cons t (listT r)
theorem listT_at {E : Env} : ∀ {ts : List Tm} {i : Nat} {t : Tm}, ts[i]? = some t → ((listT ts).den E).at_ i = t.den E
  | [], i, t, h => by simp at h
  | t :: r, 0, t', h => by simp at h; subst h; rfl
  | t :: r, i + 1, t', h => by
    simp only [listT, Tm.den, Sc.at_succ]
    exact listT_at (by simpa using h)

def Tm.appsLt (m : Nat) : Tm → Bool
  | .cons a b => match a.appsLt m with | true => b.appsLt m | false => false
  | .op _ a b => match a.appsLt m with | true => b.appsLt m | false => false
  | .ite c a b => match c.appsLt m with | true => (match a.appsLt m with | true => b.appsLt m | false => false) | false => false
  | .app f a => match Nat.blt f m with | true => a.appsLt m | false => false
  | .nth _ a => a.appsLt m
  | _ => true
theorem apps_den {v : Nat → Sc} {F F' : Nat → Sc → Sc} {m : Nat} (hF : ∀ k, k < m → F k = F' k) : ∀ {t : Tm}, t.appsLt m = true → t.den ⟨v, F⟩ = t.den ⟨v, F'⟩ := by
  intro t
  induction t with
  | cons a b ha hb =>
    intro h
    simp only [Tm.appsLt] at h
    split at h
    · rename_i h1; simp only [Tm.den, ha h1, hb h]
    · cases h
  | op o a b ha hb =>
    intro h
    simp only [Tm.appsLt] at h
    split at h
    · rename_i h1; simp only [Tm.den, ha h1, hb h]
    · cases h
  | ite c a b hc ha hb =>
    intro h
    simp only [Tm.appsLt] at h
    split at h
    · rename_i h1
      split at h
      · rename_i h2; simp only [Tm.den, hc h1, ha h2, hb h]
      · cases h
    · cases h
  | app f a ha =>
    intro h
    simp only [Tm.appsLt] at h
    split at h
    · rename_i h1
      have : f < m := by simp only [Nat.blt] at h1; exact Nat.le_of_ble_eq_true h1
      simp only [Tm.den, ha h, hF f this]
    · cases h
  | nth k a ha => intro h; simp only [Tm.den, ha h]
  | _ => intro _; rfl

/-- The last name first. -/
noncomputable def buildF (F0 : Nat → Sc → Sc) : List (Nat × Tm) → Nat → Sc → Sc
  | [], k, c => F0 k c
  | (id, D) :: r, k, c => if k = id then D.den ⟨fun i => c.at_ i, buildF F0 r⟩ else buildF F0 r k c
def defsAsc : List (Nat × Tm) → Nat → Bool
  | [], _ => true
  | (id, D) :: r, b => match Nat.blt id b, D.appsLt id with
    | true, true => defsAsc r id
    | _, _ => false
theorem defsAsc_lt : ∀ {l : List (Nat × Tm)} {b id : Nat} {D : Tm}, defsAsc l b = true → (id, D) ∈ l → id < b
  | (id', D') :: r, b, id, D, h, hm => by
    simp only [defsAsc] at h
    split at h
    · rename_i h1 h2
      have hlt : id' < b := by simp only [Nat.blt] at h1; exact Nat.le_of_ble_eq_true h1
      rcases List.mem_cons.1 hm with hm | hm
      · cases hm; exact hlt
      · exact Nat.lt_trans (defsAsc_lt h hm) hlt
    · cases h
theorem buildF_def {F0 : Nat → Sc → Sc} : ∀ {l : List (Nat × Tm)} {b id : Nat} {D : Tm}, defsAsc l b = true → (id, D) ∈ l → ∀ c, buildF F0 l id c = D.den ⟨fun i => c.at_ i, buildF F0 l⟩
  | (id', D') :: r, b, id, D, h, hm, c => by
    simp only [defsAsc] at h
    split at h
    · rename_i h1 h2
      have ext : ∀ k, k < id' → buildF F0 r k = buildF F0 ((id', D') :: r) k := fun k hk => by
        funext c
        simp only [buildF]
        rw [if_neg (Nat.ne_of_lt hk)]
      rcases List.mem_cons.1 hm with hm | hm
      · cases hm
        rw [← apps_den ext h2]
        simp only [buildF, if_true]
      · have hlt := defsAsc_lt h hm
        have ha : D.appsLt id' = true := by
          have : ∀ {l : List (Nat × Tm)} {b : Nat}, defsAsc l b = true → (id, D) ∈ l → D.appsLt id = true := by
            intro l
            induction l with
            | nil => intro b _ hm; cases hm
            | cons x l ih =>
              intro b h hm
              obtain ⟨id2, D2⟩ := x
              simp only [defsAsc] at h
              split at h
              · rename_i _ h4
                rcases List.mem_cons.1 hm with hm | hm
                · cases hm; exact h4
                · exact ih h hm
              · cases h
          have h3 := this h hm
          have mono : ∀ {t : Tm}, t.appsLt id = true → t.appsLt id' = true := by
            intro t
            induction t with
            | cons a b ha hb => intro h; simp only [Tm.appsLt] at h ⊢; split at h; · rename_i h1; rw [ha h1]; exact hb h
                                · cases h
            | op o a b ha hb => intro h; simp only [Tm.appsLt] at h ⊢; split at h; · rename_i h1; rw [ha h1]; exact hb h
                                · cases h
            | ite c a b hc ha hb =>
              intro h
              simp only [Tm.appsLt] at h ⊢
              split at h
              · rename_i h1
                split at h
                · rename_i h2; rw [hc h1, ha h2]; exact hb h
                · cases h
              · cases h
            | app f a ha =>
              intro h
              simp only [Tm.appsLt] at h ⊢
              split at h
              · rename_i h1
                have : f < id := by simp only [Nat.blt] at h1; exact Nat.le_of_ble_eq_true h1
                have e : Nat.blt f id' = true := by simp only [Nat.blt]; exact Nat.ble_eq_true_of_le (by omega)
                rw [e]; exact ha h
              · cases h
            | nth k a ha => intro h; exact ha h
            | _ => intro _; rfl
          exact mono h3
        rw [← apps_den ext ha]
        have e : buildF F0 ((id', D') :: r) id c = buildF F0 r id c := by
          simp only [buildF]
          rw [if_neg (Nat.ne_of_lt hlt)]
        rw [e]
        exact buildF_def h hm c
    · cases h
theorem buildF_base {F0 : Nat → Sc → Sc} : ∀ {l : List (Nat × Tm)} {k : Nat}, l.all (fun x => !(Nat.beq x.1 k)) = true → buildF F0 l k = F0 k
  | [], k, _ => rfl
  | (id, D) :: r, k, h => by
    simp only [List.all_cons, Bool.and_eq_true, Bool.not_eq_true'] at h
    funext c
    simp only [buildF]
    rw [if_neg (fun e => by rw [e, Nat.beq_refl] at h; cases h.1), buildF_base h.2]

/-- Two terms of one kind that have one value. -/
def sameT (k : SK) (pc : PC) (T D : Tm) : Bool :=
  match T.beq D with
  | true => true
  | false => match k with
    | .bool => prove true 2000 pc (.op .eqb T D)
    | _ => false
theorem sameT_ok {E : Env} {k : SK} {pc : PC} {T D : Tm} (hp : PcOk E pc) (h : sameT k pc T D = true) {v : Value} (hv : k.rep (T.den E) v) : k.rep (D.den E) v := by
  unfold sameT at h
  split at h
  · rename_i hb; rw [← Tm.beq_eq hb]; exact hv
  · split at h
    · have := prove_ok _ hp h
      simp only [Tm.den, Opc.den, Sc.toB_b, beq_iff_eq] at this
      simp only [SK.rep] at hv ⊢
      rw [← this]; exact hv
    · cases h
def retT (o : Out Res) (k : SK) (pc : PC) (D : Tm) : Bool :=
  match o with
  | .ret r => match r.v with
    | .sc k' T => match beqK k' k with
      | true => sameT k pc T D
      | false => false
    | _ => false
  | _ => false
/-- The contract: the named function of the terms of the arguments. -/
def sumA (ps : List Pa) (k : SK) (id : Nat) : Sum := sumP ps fun ts => .sc k (.app id (listT ts))
theorem sumA_ok {P : Program} {E : Env} {ctx : Ctx} {n f id : Nat} {ps : List Pa} {k : SK} {D : Tm} (hC : ∀ E' : Env, E'.fn = E.fn → CtxOk P E' ctx ∧ CtxPc E' ctx)
    (hN : Named P) (hmix : P.follows .mixedOrders = true) (hD : ∀ c, E.fn id c = D.den ⟨fun i => c.at_ i, E.fn⟩) (hj : (Nat.ble (bldP ps 0 0).j 1000 && D.under (bldP ps 0 0).n) = true)
    (hk : retT (callP P ctx n f ps) k (bldP ps 0 0).pc D = true) : SumOk P E f (sumA ps k id) := by
  simp only [Bool.and_eq_true] at hj
  unfold retT at hk
  split at hk
  · rename_i r hr
    split at hk
    · rename_i k' T hT
      split at hk
      · rename_i hkk
        have e := beqK_eq hkk
        subst e
        refine sumP_ok (V := .sc k' T) hC hN hmix (Nat.le_of_ble_eq_true hj.1) ⟨r, hr, hT⟩ fun E' ts hfn hp hn hE β' β v hv => ?_
        simp only [SV.rep] at hv ⊢
        have h1 := sameT_ok hp hk hv
        simp only [Tm.den]
        rw [hD]
        have e2 : D.den E' = D.den ⟨fun i => ((listT ts).den E).at_ i, E.fn⟩ := under_den (E' := ⟨fun i => ((listT ts).den E).at_ i, E.fn⟩) (n := (bldP ps 0 0).n) (fun i hi => by
          rw [hn] at hi
          have ht : ts[i]? = some ts[i] := List.getElem?_eq_getElem hi
          rw [hE i _ ht]
          exact (listT_at ht).symm) hfn hj.2
        rw [← e2]
        exact h1
      · cases hk
    · cases hk
  · cases hk
/-- The contract: what the function is given, in new cells. -/
def scs : List SK → List Tm → List SV
  | k :: ks, t :: ts => .sc k t :: scs ks ts
  | _, _ => []
def sumI (ks : List SK) : Sum := sumP [.agg ks] fun ts => .agg (scs ks ts)
theorem sumI_ok {P : Program} {E : Env} {ctx : Ctx} {n f : Nat} {ks : List SK} (hC : ∀ E' : Env, E'.fn = E.fn → CtxOk P E' ctx ∧ CtxPc E' ctx)
    (hN : Named P) (hmix : P.follows .mixedOrders = true) (hk : retV (callP P ctx n f [.agg ks]) (.agg (sym ks 0)) = true) : SumOk P E f (sumI ks) := by
  refine sumP_ok (V := .agg (sym ks 0)) hC hN hmix (Nat.zero_le _) (retV_ok hk) fun E' ts hfn hp hn hE β' β v hv => ?_
  simp only [SV.rep] at hv ⊢
  obtain ⟨vs, rfl, hvs⟩ := hv
  refine ⟨vs, rfl, ?_⟩
  have hn' : ks.length = ts.length := by simpa [bldP] using hn
  have key : ∀ (ks : List SK) (ts : List Tm) (n : Nat) (vs : List Value), ks.length = ts.length → (∀ (i : Nat) (t : Tm), ts[i]? = some t → E'.v (n + i) = t.den E) → SV.reps E' β' (sym ks n) vs → SV.reps E β (scs ks ts) vs := by
    intro ks
    induction ks with
    | nil => intro ts n vs _ _ h; simpa [scs, sym] using h
    | cons k ks ih =>
      intro ts n vs hl hE h
      cases ts with
      | nil => simp at hl
      | cons t ts =>
        simp only [sym, SV.reps] at h
        obtain ⟨v, rest, rfl, h1, h2⟩ := h
        simp only [scs, reps_cons]
        refine ⟨?_, ih ts (n + 1) rest (by simpa using hl) (fun i t' hi => by rw [show n + 1 + i = n + (i + 1) by omega]; exact hE (i + 1) t' (by simpa using hi)) h2⟩
        simp only [SV.rep, Tm.den] at h1 ⊢
        have := hE 0 t rfl
        rw [Nat.add_zero] at this
        rw [← this]; exact h1
  exact key ks ts 0 _ hn' (fun i t hi => by rw [Nat.zero_add]; exact hE i t hi) hvs
/-- A term, its variables filled in. -/
def Tm.subst (ts : List Tm) : Tm → Tm
  | .var n => ts.getD n .nil
  | .cons a b => .cons (a.subst ts) (b.subst ts)
  | .op o a b => .op o (a.subst ts) (b.subst ts)
  | .ite c a b => .ite (c.subst ts) (a.subst ts) (b.subst ts)
  | .app f a => .app f (a.subst ts)
  | .nth n a => .nth n (a.subst ts)
  | t => t
theorem subst_den {E E' : Env} {ts : List Tm} (hv : ∀ (i : Nat) (t : Tm), ts[i]? = some t → E'.v i = t.den E) (hf : E'.fn = E.fn) : ∀ {t : Tm}, t.under ts.length = true → (t.subst ts).den E = t.den E' := by
  intro t
  induction t with
  | var m =>
    intro h
    have hm : m < ts.length := by simp only [Tm.under, Nat.blt] at h; exact Nat.le_of_ble_eq_true h
    have ht : ts[m]? = some ts[m] := List.getElem?_eq_getElem hm
    simp only [Tm.subst, Tm.den, List.getD, ht, Option.getD_some]
    exact (hv m _ ht).symm
  | cons a b ha hb => intro h; simp only [Tm.under, Bool.and_eq_true] at h; simp only [Tm.subst, Tm.den, ha h.1, hb h.2]
  | op o a b ha hb => intro h; simp only [Tm.under, Bool.and_eq_true] at h; simp only [Tm.subst, Tm.den, ha h.1, hb h.2]
  | ite c a b hc ha hb => intro h; simp only [Tm.under, Bool.and_eq_true] at h; simp only [Tm.subst, Tm.den, hc h.1, ha h.2.1, hb h.2.2]
  | app f a ha => intro h; simp only [Tm.subst, Tm.den, ha h, hf]
  | nth k a ha => intro h; simp only [Tm.subst, Tm.den, ha h]
  | _ => intro _; rfl
/-- The contract: a term of the terms of the arguments. -/
def sumD (ps : List Pa) (k : SK) (D : Tm) : Sum := sumP ps fun ts => .sc k (D.subst ts)
theorem sumD_ok {P : Program} {E : Env} {ctx : Ctx} {n f : Nat} {ps : List Pa} {k : SK} {D : Tm} (hC : ∀ E' : Env, E'.fn = E.fn → CtxOk P E' ctx ∧ CtxPc E' ctx)
    (hN : Named P) (hmix : P.follows .mixedOrders = true) (hj : (Nat.ble (bldP ps 0 0).j 1000 && D.under (bldP ps 0 0).n) = true)
    (hk : retT (callP P ctx n f ps) k (bldP ps 0 0).pc D = true) : SumOk P E f (sumD ps k D) := by
  simp only [Bool.and_eq_true] at hj
  unfold retT at hk
  split at hk
  · rename_i r hr
    split at hk
    · rename_i k' T hT
      split at hk
      · rename_i hkk
        have e := beqK_eq hkk
        subst e
        refine sumP_ok (V := .sc k' T) hC hN hmix (Nat.le_of_ble_eq_true hj.1) ⟨r, hr, hT⟩ fun E' ts hfn hp hn hE β' β v hv => ?_
        simp only [SV.rep] at hv ⊢
        have h1 := sameT_ok hp hk hv
        rw [subst_den hE hfn (by rw [← hn]; exact hj.2)]
        exact h1
      · cases hk
    · cases hk
  · cases hk
/-- The contract: two of the same are equal. -/
def beqTs : List Tm → List Tm → Bool
  | [], [] => true
  | a :: x, b :: y => match a.beq b with | true => beqTs x y | false => false
  | _, _ => false
theorem beqTs_eq : ∀ {x y : List Tm}, beqTs x y = true → x = y
  | [], [], _ => rfl
  | a :: x, b :: y, h => by
    simp only [beqTs] at h
    split at h
    · rename_i h1; rw [Tm.beq_eq h1, beqTs_eq h]
    · cases h
  | [], _ :: _, h => by cases h
  | _ :: _, [], h => by cases h
def sumE (ks : List SK) : Sum := fun args m pc => match args with
  | [.agg c1, .agg c2] => match matchKs ks c1, matchKs ks c2 with
    | some t1, some t2 => match beqTs t1 t2, strs pc ks t1 with
      | true, true => val m pc (.sc .bool (.bl true))
      | _, _ => .bad 311
    | _, _ => .bad 312
  | _ => .bad 313
def retE (o : Out Res) (pc : PC) : Bool :=
  match o with
  | .ret r => match r.v with
    | .sc .bool T => prove true 2000 pc T
    | _ => false
  | _ => false
def callE (P : Program) (ctx : Ctx) (n f : Nat) (ks : List SK) : Out Res := call ctx P n f [.agg (sym ks 0), .agg (sym ks 0)] mBare (strPc ks 0)
theorem sumE_ok {P : Program} {E : Env} {ctx : Ctx} {n f : Nat} {ks : List SK} (hC : ∀ E' : Env, E'.fn = E.fn → CtxOk P E' ctx ∧ CtxPc E' ctx)
    (hN : Named P) (hmix : P.follows .mixedOrders = true) (hk : retE (callE P ctx n f ks) (strPc ks 0) = true) : SumOk P E f (sumE ks) := by
  intro args m pc r hr β w vals hreps hm hf hl hp
  unfold sumE at hr
  split at hr
  · rename_i c1 c2
    split at hr
    · rename_i t1 t2 h1 h2
      split at hr
      · rename_i hb hs
        have e := beqTs_eq hb
        subst e
        simp only [val, Out.sel, Option.some.injEq] at hr
        subst hr
        simp only [SV.reps, SV.rep] at hreps
        obtain ⟨v1, rest, rfl, ⟨vs1, rfl, hv1⟩, v2, rest2, rfl, ⟨vs2, rfl, hv2⟩, rfl⟩ := hreps
        let E' : Env := ⟨fun i => (t1[i]?.map (Tm.den E)).getD .nil, E.fn⟩
        have hE : ∀ (i : Nat) (t : Tm), t1[i]? = some t → E'.v (0 + i) = t.den E := fun i t hi => by simp [E', hi]
        have g1 := matchKs_sym (E' := E') (β' := fun _ => none) (n := 0) h1 hv1 hE
        have g2 := matchKs_sym (E' := E') (β' := fun _ => none) (n := 0) h2 hv2 hE
        have hp' : PcOk E' (strPc ks 0) := strs_ok hp hs (by obtain ⟨_, k2, _⟩ := matchKs_reps h1 hv1; exact k2.symm) hE
        unfold retE callE at hk
        split at hk
        · rename_i r0 hr0
          split at hk
          · rename_i T hT
            obtain ⟨_, _, hfn, hcalls⟩ := call_ok (hC E' rfl).1 (hC E' rfl).2 hN hmix n f [.agg (sym ks 0), .agg (sym ks 0)] mBare (strPc ks 0) r0 (by rw [hr0]; rfl) (fun _ => none) w [.agg vs1, .agg vs2]
              (by simp only [reps_cons, reps_nil, SV.rep]; exact ⟨⟨vs1, rfl, g1⟩, ⟨vs2, rfl, g2⟩, trivial⟩) (fun j sb h => by cases h) (fun _ _ _ => rfl) (by decide) hp'
            refine ⟨hp, hl, hfn, hcalls.mono fun e w' ⟨v, β'', he, hv', hst⟩ => ?_⟩
            rw [hT] at hv'
            simp only [SV.rep, SK.rep] at hv'
            rw [prove_ok _ hp' hk] at hv'
            exact ⟨v, β, he, by simp only [SV.rep, SK.rep, Tm.den, Sc.toB_b]; exact hv', Step.same _ hst.below⟩
          · cases hk
        · cases hk
      · cases hr
    · cases hr
  · cases hr
theorem sumE_pc {E : Env} {ks : List SK} (args : List SV) (m : Mm) (pc : PC) (hp : PcOk E pc) : Pcs E Res.pc (sumE ks args m pc) := by
  unfold sumE
  split
  · split
    · split
      · exact .ret hp
      · exact .bad
    · exact .bad
  · exact .bad

/-! Contexts as lists -/
def sumL : List (Nat × Sum) → Nat → Option Sum
  | [], _ => none
  | (g, S) :: r, f => match Nat.beq g f with
    | true => some S
    | false => sumL r f
def ctxL (l : List (Nat × Sum)) : Ctx := ⟨sumL l, fun _ => false, fun _ => none, fun _ _ _ => none, false⟩
theorem ctxL_nil {P : Program} {E : Env} : CtxOk P E (ctxL []) ∧ CtxPc E (ctxL []) :=
  ⟨⟨fun f S h => (by cases h), fun c L h => (by cases h), fun f as σ o h => (by cases h)⟩, ⟨fun f S h => (by cases h), fun c L h => (by cases h), fun f as σ o h => (by cases h)⟩⟩
/-- One contract more. -/
theorem ctxL_cons {P : Program} {E : Env} {l : List (Nat × Sum)} {g : Nat} {S : Sum} (h : CtxOk P E (ctxL l) ∧ CtxPc E (ctxL l)) (h1 : SumOk P E g S) (h2 : ∀ args m pc, PcOk E pc → Pcs E Res.pc (S args m pc)) :
    CtxOk P E (ctxL ((g, S) :: l)) ∧ CtxPc E (ctxL ((g, S) :: l)) := by
  refine ⟨⟨fun f S' hf => ?_, fun c L h => (by cases h), fun f as σ o h => (by cases h)⟩, ⟨fun f S' hf => ?_, fun c L h => (by cases h), fun f as σ o h => (by cases h)⟩⟩
  · simp only [ctxL, sumL] at hf
    split at hf
    · rename_i hg; cases hf; rw [← Nat.eq_of_beq_eq_true hg]; exact h1
    · exact h.1.sum f S' hf
  · simp only [ctxL, sumL] at hf
    split at hf
    · cases hf; exact h2
    · exact h.2.sum f S' hf
/-- The same context; ways with different whole numbers stay apart. -/
def withAp (ctx : Ctx) : Ctx := { ctx with ap := true }
theorem withAp_ok {P : Program} {E : Env} {ctx : Ctx} (h : CtxOk P E ctx ∧ CtxPc E ctx) : CtxOk P E (withAp ctx) ∧ CtxPc E (withAp ctx) := ⟨⟨h.1.sum, h.1.cc, h.1.fxs⟩, ⟨h.2.sum, h.2.cc, h.2.fxs⟩⟩
/-- The same with functions that may write to their caller's memory. -/
def withFx (ctx : Ctx) (fx : Nat → Bool) : Ctx := { ctx with fx := fx }
theorem withFx_ok {P : Program} {E : Env} {ctx : Ctx} (h : CtxOk P E ctx ∧ CtxPc E ctx) (fx : Nat → Bool) : CtxOk P E (withFx ctx fx) ∧ CtxPc E (withFx ctx fx) :=
  ⟨⟨h.1.sum, h.1.cc, h.1.fxs⟩, ⟨h.2.sum, h.2.cc, h.2.fxs⟩⟩
/-- The same with contracts of functions that write to their caller's memory. -/
def withFxs (ctx : Ctx) (f : Nat) (S : List SV → St → Option (Out (SV × St))) : Ctx := { ctx with fxs := fun g args σ => match Nat.beq g f with | true => S args σ | false => ctx.fxs g args σ }
theorem withFxs_ok {P : Program} {E : Env} {ctx : Ctx} (h : CtxOk P E ctx ∧ CtxPc E ctx) {f : Nat} {S : List SV → St → Option (Out (SV × St))}
    (h1 : ∀ args σ o, S args σ = some o → ∀ r, o.sel E = some r → PcOk E σ.pc → FxOk P E f args σ r) (h2 : ∀ args σ o, S args σ = some o → PcOk E σ.pc → Pcs E (fun r => r.2.pc) o) :
    CtxOk P E (withFxs ctx f S) ∧ CtxPc E (withFxs ctx f S) := by
  refine ⟨⟨h.1.sum, h.1.cc, fun g args σ o ho => ?_⟩, ⟨h.2.sum, h.2.cc, fun g args σ o ho => ?_⟩⟩
  · simp only [withFxs] at ho
    split at ho
    · rename_i he; rw [Nat.eq_of_beq_eq_true he]; exact h1 args σ o ho
    · exact h.1.fxs g args σ o ho
  · simp only [withFxs] at ho
    split at ho
    · exact h2 args σ o ho
    · exact h.2.fxs g args σ o ho
end Go.Sx
