/- The symbolic executor's single operations are sound: all of them. No condition. -/
import Derived.Test.YtfaamogbkekjcaaSxOpU
import Derived.Laws.BytesString
import Derived.Laws.MakeOwn
set_option linter.unusedVariables false
set_option linter.unusedSimpArgs false
noncomputable section
namespace Go.Sx
open Go Go.RowKit

section
variable {P : Program} {E : Env} {β : Pl} {m : Mm} {w : World} {pc : PC} {r : Res}

theorem fieldAt_run {t : TypeId} {fs : Array Field} {f : Nat} {fd : Field} {n b o : Nat} (ht : P.underlying t = some (.struct fs)) (hf : nth? fs.toList f = some fd) (hn : szT P fd.type = some (n + 1)) (w : World) :
    (Instr.fieldAt t (.pointer (some ⟨b, o, none⟩)) f).run P w = .ok (.pointer (some ⟨b, o + fd.offset, none⟩)) w := by
  rw [nth?_get, Array.getElem?_toList] at hf
  simp [Instr.fieldAt, run_underlying ht, hf, Instr.sureAddr, fieldPlace, szT_run hn, add_at]

theorem indexAt_run {t : TypeId} {x : SV} {vx : Value} {j o n : Nat} {e : TypeId} (hb : idxBase P t x = some (j, o, n, e)) (hx : SV.rep E β x vx) {s i : Nat} (hs : szT P e = some s) (hi : i < n) (k : IntKind) (w : World) :
    ∃ b, β j = some b ∧ (Instr.indexAt t vx (.int k (i : Nat))).run P w = .ok (.pointer (some ⟨b.blk, b.off + (o + i * s), none⟩)) w := by
  unfold idxBase at hb
  have hpos : (0 : Int) ≤ (i : Nat) := by omega
  have hlt : ((i : Nat) : Int) < (n : Nat) := by omega
  split at hb <;> simp only [Option.some.injEq, Prod.mk.injEq, reduceCtorEq] at hb
  · rename_i n' e' j' o' ht
    obtain ⟨rfl, rfl, rfl, rfl⟩ := hb
    simp only [SV.rep] at hx
    obtain ⟨b, hbj, rfl⟩ := hx
    refine ⟨b, hbj, ?_⟩
    simp [Instr.indexAt, asIntOf, run_underlying ht, Instr.sureAddr, szT_run hs, hi, add_at, Nat.add_assoc]
  · rename_i e' j' o' n' ht
    obtain ⟨rfl, rfl, rfl, rfl⟩ := hb
    simp only [SV.rep] at hx
    obtain ⟨b, c, hbj, rfl, _⟩ := hx
    refine ⟨b, hbj, ?_⟩
    simp [Instr.indexAt, asIntOf, run_underlying ht, szT_run hs, hi, add_at, Nat.add_assoc]
  · rename_i e' j' n' ht
    obtain ⟨rfl, rfl, rfl, rfl⟩ := hb
    simp only [SV.rep] at hx
    obtain ⟨b, hbj, h0, rfl, _⟩ := hx
    refine ⟨b, hbj, ?_⟩
    simp [Instr.indexAt, asIntOf, run_underlying ht, szT_run hs, hi, add_at, h0]

theorem int?_rep {s : SV} {k : IntKind} {t : Tm} (h : s.int? = some (k, t)) {v : Value} (hr : SV.rep E β s v) : v = .int k (t.den E).toI := by
  unfold SV.int? at h
  split at h
  · cases h; exact int_rep hr
  · cases h

/-- The address of an element of an open list. -/
theorem rowAddr_ok {t e : TypeId} {j : Nat} {ks : List SK} {n t' i : Tm} {b : Bs} {l c : Nat} {vx : Value} {kt : IntKind} (ht : P.underlying t = some (.slice e)) (hp : PcOk E pc) (hl : m.nxt ≤ m.lim) (hbj : β j = some b) (hv : vx = .slice (some ⟨b.blk, b.off, none⟩) l c) (hln : (l : Int) = (n.den E).toI) (hval : b.val = (t'.den E).list) (hrows : RowsOk (kScs ks) (l : Nat) b.val)
    (h : (rowAddr P m pc e j ks n t' i).sel E = some r) : OpOk P E β m.nxt m.lim w (Instr.indexAt t vx (.int kt (i.den E).toI)) r := by
  unfold rowAddr at h
  split at h
  · rename_i s hs
    split at h
    · rename_i hsk
      split at h
      · rename_i hlt
        split at h
        · rename_i hge
          have h0 : (0 : Int) ≤ (i.den E).toI := of_decide_eq_true (prove_ok 60 hp hge)
          have h1 : (i.den E).toI < (n.den E).toI := of_decide_eq_true (prove_ok 60 hp hlt)
          have hsk' : s = ks.length := Nat.eq_of_beq_eq_true hsk
          subst hsk'
          obtain ⟨k, hk⟩ : ∃ k : Nat, (k : Int) = (i.den E).toI := ⟨(i.den E).toI.toNat, by omega⟩
          have hkl : k < l := by omega
          refine .val (v := .pointer (some ⟨b.blk, b.off + (k * ks.length + 0), none⟩)) hl hp ?_ ?_ h
          · rw [hv, ← hk]
            simp [Instr.indexAt, asIntOf, run_underlying ht, szT_run hs, hkl, add_at]
          · simp only [SV.rep]
            exact ⟨b, k, l, hbj, hk, hkl, rfl, hval, hrows⟩
        · cases h
      · cases h
    · cases h
  · cases h
theorem strB_ok : ∀ {cs : List SV} {t : Tm} {vs : List Value}, strB cs = some t → SV.reps E β cs vs → ∃ ns : List Int, vs = ns.map (Value.int .u8) ∧ (t.den E).toS = ns.map (fun n => UInt8.ofNat n.toNat)
  | [], t, vs, h, hr => by
    simp only [strB, Option.some.injEq] at h
    subst h
    simp only [reps_nil] at hr
    subst hr
    exact ⟨[], rfl, rfl⟩
  | s :: r, t, vs, h, hr => by
    unfold strB at h
    split at h
    · rename_i heq; cases heq
    · rename_i t' r' heq
      cases heq
      split at h
      · rename_i u hu
        simp only [SV.reps] at hr
        obtain ⟨v, rest, rfl, h1, h2⟩ := hr
        obtain ⟨ns, e1, e2⟩ := strB_ok hu h2
        subst e1
        simp only [SV.rep, SK.rep] at h1
        subst h1
        refine ⟨(t'.den E).toI :: ns, rfl, ?_⟩
        split at h
        · cases h
          have : ns = [] := by
            have := reps_length h2
            simpa using this
          subst this
          rw [mkOp_den]; rfl
        · cases h
          rw [mkOp_den, mkOp_den]
          simp only [Opc.den, Sc.toS_s, e2]
          rfl
      · cases h
    · cases h
theorem foldl_push (ns : List Int) : ∀ (r : ByteArray), ns.foldl (fun r n => r.push (UInt8.ofNat n.toNat)) r = ⟨r.data ++ (ns.map fun n => UInt8.ofNat n.toNat).toArray⟩ := by
  induction ns with
  | nil => intro r; simp
  | cons n ns ih =>
    intro r
    simp only [List.foldl_cons]
    rw [ih]
    simp [ByteArray.push]
theorem bytesS_ok {s d : TypeId} {j o n : Nat} {vx : Value} (hm : Reads E β m.mem w) (hx : SV.rep E β (.sl j o n) vx) (hp : PcOk E pc) (hl : m.nxt ≤ m.lim)
    (h : (bytesS P m pc s d j o n).sel E = some r) : OpOk P E β m.nxt m.lim w (convert s d vx) r := by
  unfold bytesS at h
  split at h
  · rename_i e hs hd
    split at h
    · rename_i sb he hsb
      split at h
      · rename_i cs hcs
        split at h
        · rename_i t ht
          simp only [SV.rep] at hx
          obtain ⟨b, c, hb, rfl, _⟩ := hx
          obtain ⟨b', hb', hreads⟩ := hm j sb (find_mem hsb)
          rw [hb] at hb'; cases hb'
          obtain ⟨us, hload, hlen, hus, _, _⟩ := loadCells_run (P := P) hreads hcs
          obtain ⟨ns, e1, e2⟩ := strB_ok ht hus
          subst e1
          refine .val (v := .string (ns.foldl (fun r n => r.push (UInt8.ofNat n.toNat)) ByteArray.empty)) hl hp ?_ ?_ h
          · rw [run_convert_bytes_string w s d e _ n c hs he hd]
            exact run_bytesToString w _ n c ns hload
          · simp only [SV.rep, SK.rep, e2]
            rw [foldl_push]
            have he0 : ByteArray.empty.data = #[] := rfl
            rw [he0]
            simp
        · cases h
      · cases h
    · cases h
  · cases h
theorem opx_ok {o : Oper} {ev : Operand → SV} {ρ : Operand → Value} (hev : ∀ x, SV.rep E β (ev x) (ρ x)) (hm : Reads E β m.mem w) (hf : Fresh β m.nxt m.lim) (hl : m.nxt ≤ m.lim) (hp : PcOk E pc)
    (h : (opx P m pc ev o.op).sel E = some r) : OpOkN P E β m.nxt m.lim w (execOp ρ o) r := by
  obtain ⟨dst, op, ty, pos, after, guard⟩ := o
  simp only at h
  cases op <;> simp only [opx, oPick, oAlloc, oBox, oBuild, oBuildSlice, oMakeSlice, oLoad, oNil, oConv, oSlice, oFieldAddr, oField, oIndexAddr, oIndex, oExtract, oCall] at h <;> simp only [execOp]
  case move x =>
    simp only [val, Out.sel, Option.some.injEq] at h; subst h
    exact ⟨hp, hl, ρ x, w, β, rfl, hev x, Step.refl _⟩
  case assign x =>
    simp only [val, Out.sel, Option.some.injEq] at h; subst h
    exact ⟨hp, hl, ρ x, w, β, rfl, hev x, Step.refl _⟩
  case pick c a b =>
    have hc := hev c
    split at h
    · rename_i t hct
      rw [hct] at hc
      have hc' := bool_rep hc
      have key : ∀ (sv : SV) (pc' : PC), PcOk E pc' → SV.rep E β sv (if (t.den E).toB then ρ a else ρ b) → (val m pc' sv).sel E = some r →
          OpOkN P E β m.nxt m.lim w (do pure (.value (if ← asBool (ρ c) then ρ a else ρ b))) r := by
        intro sv pc' hp' hr h
        simp only [val, Out.sel, Option.some.injEq] at h; subst h
        exact ⟨hp', hl, _, w, β, by simp [hc', asBool], hr, Step.refl _⟩
      split at h
      · rename_i hd
        exact key _ _ hp (by rw [decB_ok hp t hd]; exact hev a) h
      · rename_i hd
        exact key _ _ hp (by rw [decB_ok hp t hd]; exact hev b) h
      · split at h
        · rename_i x y hxa hyb
          have ha := hev a
          have hb := hev b
          rw [hxa] at ha; rw [hyb] at hb
          have ha' := bool_rep ha
          have hb' := bool_rep hb
          refine key _ _ hp ?_ h
          rw [ha', hb']
          split
          · rename_i ht; exact rep_bool (by rw [mkIteB_den, if_pos ht])
          · rename_i ht; exact rep_bool (by rw [mkIteB_den, if_neg ht])
        · simp only [Out.sel] at h
          split at h
          · rename_i ht; exact key _ _ (addF_ok t hp ht) (by rw [if_pos ht]; exact hev a) h
          · rename_i ht
            have ht' : (t.den E).toB = false := by simpa using ht
            exact key _ _ (addF_ok t hp ht') (by rw [if_neg ht]; exact hev b) h
    · cases h
  case alloc e =>
    split at h
    · rename_i z hz
      split at h
      · rename_i cs hcs
        obtain ⟨v, hv, hrep⟩ := zeroT_run (E := E) (β := β) hz w
        obtain ⟨h1, h2⟩ := cells_rep hcs hrep
        refine OpOk.next (newB_ok (e := e) 0 hf hp h1 h2 (v := .pointer (some ⟨w.heap.size, 0, none⟩)) ?_ (fun β' hb => ?_) h)
        · simp [Instr.alloc, hv, newVar, newRow]
        · simp only [SV.rep]; exact ⟨_, hb, rfl⟩
      · cases h
    · cases h
  case box e x =>
    split at h
    · rename_i cs hcs
      obtain ⟨h1, h2⟩ := cells_rep hcs (hev x)
      refine OpOk.next (newB_ok (e := e) 0 hf hp h1 h2 (v := .pointer (some ⟨w.heap.size, 0, none⟩)) ?_ (fun β' hb => ?_) h)
      · simp [Instr.box, newVar, newRow]
      · simp only [SV.rep]; exact ⟨_, hb, rfl⟩
    · cases h
  case build t ps =>
    split at h
    · rename_i z hz
      obtain ⟨v, hv, hrep⟩ := zeroT_run (E := E) (β := β) hz w
      split at h
      · rename_i cs fs hcs hu
        obtain ⟨h1, h2⟩ := cells_rep hcs hrep
        split at h
        · rename_i pl hpl
          split at h
          · rename_i out hout
            obtain ⟨arr', h3, h4, _⟩ := fill_run (size := nth? pl) hev ps.toList h1 h2 hout
            have hps : (ps.map fun x => (x.1, ρ x.2)).toList = ps.toList.map fun p => (p.1, ρ p.2) := by simp
            have hmp : (fs.mapM (fun f => do pure (f.offset, ← sizeOf f.type) : Field → Sem (Nat × Nat))).run P w = .ok pl.toArray w := by
              rw [Array.mapM_eq_mapM_toList]
              have := fieldPlaces_run fs.toList hpl w
              simp only [Sem.run_map] 
              rw [this]
              rfl
            have hplace : (fun i => pl.toArray[i]?) = nth? pl := by
              funext i; rw [nth?_get]; simp
            refine OpOk.next (.val (v := .agg arr') hl hp ?_ ?_ h)
            · simp only [Instr.build, Sem.run_bind, hv, Result.andThen_ok, run_underlying hu, hmp, hplace, hps, h3]
              rfl
            · simp only [SV.rep]; exact ⟨_, rfl, h4⟩
          · cases h
        · cases h
      · rename_i cs n e hcs hu
        obtain ⟨h1, h2⟩ := cells_rep hcs hrep
        split at h
        · rename_i s hs
          split at h
          · rename_i out hout
            obtain ⟨arr', h3, h4, _⟩ := fill_run (size := fun i => some (i * s, s)) hev ps.toList h1 h2 hout
            have hps : (ps.map fun x => (x.1, ρ x.2)).toList = ps.toList.map fun p => (p.1, ρ p.2) := by simp
            refine OpOk.next (.val (v := .agg arr') hl hp ?_ ?_ h)
            · simp only [Instr.build, Sem.run_bind, hv, Result.andThen_ok, run_underlying hu, szT_run hs, hps, h3]
              rfl
            · simp only [SV.rep]; exact ⟨_, rfl, h4⟩
          · cases h
        · cases h
      · cases h
    · cases h
  case buildSlice t n ps =>
    split at h
    · rename_i e hu
      split at h
      · rename_i s z hs hz
        split at h
        · rename_i zs hzs
          split at h
          · rename_i cs hcs hlen hle hpos
            obtain ⟨v, hv, hrep⟩ := zeroT_run (E := E) (β := β) hz w
            obtain ⟨h1, h2⟩ := cells_rep hzs hrep
            have hlen' : zs.length = s := Nat.eq_of_beq_eq_true hlen
            have hspos : 0 < s := by
              rcases Nat.eq_zero_or_pos s with h0 | h0
              · rw [h0] at hpos; cases hpos
              · exact h0
            have hle' := Nat.le_of_ble_eq_true hle
            have hz2 := rep_zero h1 (by omega) n
            rw [hlen'] at hz2
            have hvz : v.cells.size = s := by have := reps_length h1; rw [Array.length_toList] at this; omega
            have hone : ∀ x ∈ ((Array.range (n * s)).map (fun i => v.cells[i % v.cells.size]!)).toList, x.oneCell' = true := by
              intro x hx
              simp only [Array.toList_map, List.mem_map] at hx
              obtain ⟨i, _, rfl⟩ := hx
              have hlt : i % v.cells.size < v.cells.size := Nat.mod_lt _ (by omega)
              rw [getElem!_pos v.cells _ hlt]
              exact h2 _ (by simp)
            obtain ⟨arr', h3, h4, h5⟩ := fill_run (size := fun i => some (i * s, s)) hev ps.toList hz2 hone hcs
            have hps : (ps.map fun x => (x.1, ρ x.2)).toList = ps.toList.map fun p => (p.1, ρ p.2) := by simp
            have hrun : (Instr.buildSlice t n (ps.map fun x => (x.1, ρ x.2))).run P w = .ok (.slice (some ⟨w.heap.size, 0, none⟩) n n) (w.alloc (.cells arr' e)) := by
              simp only [Instr.buildSlice, Sem.run_bind, run_underlying hu, Result.andThen_ok, szT_run hs]
              rw [Sem.run_ite, if_neg (by omega)]
              by_cases h0 : n * s = 0
              · have hn0 : n = 0 := by rcases Nat.mul_eq_zero.1 h0 with h | h <;> omega
                subst hn0
                simp only [Nat.zero_mul, if_true, Sem.run_bind, Sem.run_pure, Result.andThen_ok, hps]
                simp only [Nat.zero_mul] at h3
                have e0 : ((Array.range 0).map (fun i => (#[] : Array Value)[i % (#[] : Array Value).size]!)) = ((Array.range 0).map (fun i => v.cells[i % v.cells.size]!)) := by simp
                rw [e0, h3]
                simp [newRow]
              · simp only [if_neg h0, Sem.run_bind, hv, Result.andThen_ok, Sem.run_pure, hps, h3]
                simp [newRow]
            split at h
            · exact OpOk.next (newE_ok (e := e) hf hp h4 hrun h)
            · exact OpOk.next (newB_ok (e := e) 0 hf hp h4 h5 hrun (fun β' hb => by simp only [SV.rep]; exact ⟨_, _, hb, rfl, Nat.le_refl _⟩) h)
          · cases h
        · cases h
      · cases h
    · cases h
  case makeSlice t l c =>
    split at h
    · rename_i e n n' hu hl1 hc1
      split at h
      · rename_i i hnn hi
        split at h
        · rename_i z hz
          split at h
          · rename_i zs hzs
            split at h
            · rename_i hlen hle hpos
              have hnn' := Nat.eq_of_beq_eq_true hnn
              subst hnn'
              obtain ⟨k1, e1⟩ := litNat_rep hl1 (hev l)
              obtain ⟨k2, e2⟩ := litNat_rep hc1 (hev c)
              obtain ⟨h1, h2⟩ := cells_rep hzs (ofVal_rep (E := E) (β := β) z)
              have hlen' : zs.length = i.size := Nat.eq_of_beq_eq_true hlen
              have hspos : 0 < i.size := by
                rcases Nat.eq_zero_or_pos i.size with h0 | h0
                · rw [h0] at hpos; cases hpos
                · exact h0
              have hle' := Nat.le_of_ble_eq_true hle
              rw [Nat.mul_add, Nat.mul_add] at hle'
              have hz2 := rep_zero h1 (by omega) n
              rw [hlen'] at hz2
              have hvz : z.cells.size = i.size := by have := reps_length h1; rw [Array.length_toList] at this; omega
              have hone : ∀ x ∈ ((Array.range (n * i.size)).map (fun j => z.cells[j % z.cells.size]!)).toList, x.oneCell' = true := by
                intro x hx
                simp only [Array.toList_map, List.mem_map] at hx
                obtain ⟨j, _, rfl⟩ := hx
                have hlt : j % z.cells.size < z.cells.size := Nat.mod_lt _ (by omega)
                rw [getElem!_pos z.cells _ hlt]
                exact h2 _ (by simp)
              have hrun := run_makeSlice (P := P) (w := w) t e i z hu hi hz k1 k2 n n (by omega) (by omega) (by simp; omega) (by
                have hm : (i.bytes : Int) * (n : Int) = ((n * i.bytes : Nat) : Int) := by rw [Int.natCast_mul]; exact Int.mul_comm _ _
                rw [hm]; omega) (by omega)
              refine OpOk.next (newB_ok (e := e) 0 hf hp hz2 hone (v := .slice (some ⟨w.heap.size, 0, none⟩) n n) ?_ (fun β' hb => ?_) h)
              · rw [e1, e2, hrun]
                simp only [Int.toNat_natCast]
                rfl
              · simp only [SV.rep]; exact ⟨_, _, hb, rfl, Nat.le_refl _⟩
            · cases h
          · cases h
        · cases h
      · cases h
    · cases h
  case load t a =>
    have ha := hev a
    split at h
    · rename_i j ks t' i o hea
      rw [hea] at ha
      simp only [SV.rep] at ha
      obtain ⟨b, k, l, hbj, hk, hkl, hv, hval, hrows⟩ := ha
      split at h
      · rename_i sb hsb
        split at h
        · rename_i v hpart
          obtain ⟨b', hb', hr⟩ := hm j sb (find_mem hsb)
          rw [hbj] at hb'; cases hb'
          obtain ⟨u, hu, hrep⟩ := rowPart_run (P := P) hr hk hkl hval hrows hpart
          refine OpOk.next (.val (v := u) hl hp ?_ hrep h)
          simp [Instr.loadAt, hv, Instr.sureAddr, hu]
        · cases h
      · cases h
    · rename_i j o hea
      rw [hea] at ha
      simp only [SV.rep] at ha
      obtain ⟨b, hbj, hv⟩ := ha
      split at h
      · rename_i sb hsb
        split at h
        · rename_i v hpart
          obtain ⟨b', hb', hr⟩ := hm j sb (find_mem hsb)
          rw [hbj] at hb'; cases hb'
          obtain ⟨u, hu, hrep⟩ := loadVar_run (P := P) hr hpart
          refine OpOk.next (.val (v := u) hl hp ?_ hrep h)
          simp [Instr.loadAt, hv, Instr.sureAddr, hu]
        · cases h
      · cases h
    · cases h
  case nilCheck x =>
    have hx := hev x
    split at h
    · rename_i j o he
      rw [he] at hx
      have hx' := hx
      simp only [SV.rep] at hx
      obtain ⟨b, hbj, hv⟩ := hx
      simp only [val, Out.sel, Option.some.injEq] at h; subst h
      rw [hv] at hx' ⊢
      exact ⟨hp, hl, _, w, β, rfl, hx', Step.refl _⟩
    · rename_i f a c he
      rw [he] at hx
      have hx' := hx
      simp only [SV.rep] at hx
      obtain ⟨as, cs, hv, _, _⟩ := hx
      simp only [val, Out.sel, Option.some.injEq] at h; subst h
      rw [hv] at hx' ⊢
      exact ⟨hp, hl, _, w, β, rfl, hx', Step.refl _⟩
    · rename_i j ks t i o he
      rw [he] at hx
      have hx' := hx
      simp only [SV.rep] at hx
      obtain ⟨b, k, l, _, _, _, hv, _⟩ := hx
      simp only [val, Out.sel, Option.some.injEq] at h; subst h
      rw [hv] at hx' ⊢
      exact ⟨hp, hl, _, w, β, rfl, hx', Step.refl _⟩
    · cases h
  case binOp op t x y _ => exact OpOk.next (binS_ok x y (hev x) (hev y) hp hl h)
  case unOp op t x => exact OpOk.next (unS_ok (hev x) hp hl h)
  case convert s d x =>
    split at h
    · rename_i j o n he
      have hx := hev x
      rw [he] at hx
      exact OpOk.next (bytesS_ok hm hx hp hl h)
    · exact OpOk.next (convS_ok (hev x) hp hl h)
  case makeFunc f a c =>
    have reps_map : ∀ l : List Operand, SV.reps E β (l.map ev) (l.map ρ) := by
      intro l
      induction l with
      | nil => simp
      | cons x r ih => simp only [List.map_cons, reps_cons]; exact ⟨hev x, ih⟩
    refine OpOk.next (.val (v := .func f (a.map ρ) (c.map ρ)) hl hp rfl ?_ h)
    simp only [SV.rep]
    exact ⟨_, _, rfl, by simpa using reps_map a.toList, by simpa using reps_map c.toList⟩
  case slice t x lo hi mx =>
    cases mx with
    | none =>
      simp only at h
      split at h
      · rename_i j o n e hb
        exact OpOk.next (sliceS_ok hev hb hp hl h)
      · cases h
    | some _ => cases h
  case fieldAddr t x f =>
    have hx := hev x
    split at h
    · rename_i fs j o hu he
      rw [he] at hx
      simp only [SV.rep] at hx
      obtain ⟨b, hbj, hv⟩ := hx
      split at h
      · rename_i fd hfd
        split at h
        · rename_i n hn
          rw [hv]
          refine OpOk.next (.val hl hp (fieldAt_run hu hfd hn w) ?_ h)
          simp only [SV.rep]
          exact ⟨b, hbj, by rw [Nat.add_assoc]⟩
        · cases h
      · cases h
    · rename_i fs j ks t' i o hu he
      rw [he] at hx
      simp only [SV.rep] at hx
      obtain ⟨b, k, l, hbj, hk, hkl, hv, hval, hrows⟩ := hx
      split at h
      · rename_i fd hfd
        split at h
        · rename_i n hn
          rw [hv]
          refine OpOk.next (.val hl hp (fieldAt_run hu hfd hn w) ?_ h)
          simp only [SV.rep]
          exact ⟨b, k, l, hbj, hk, hkl, by rw [Nat.add_assoc, Nat.add_assoc], hval, hrows⟩
        · cases h
      · cases h
    · cases h
  case field t x f =>
    have hx := hev x
    split at h
    · rename_i fs cs hu he
      rw [he] at hx
      simp only [SV.rep] at hx
      obtain ⟨vs, hv, hvs⟩ := hx
      split at h
      · rename_i fd hfd
        split at h
        · rename_i u hpart
          obtain ⟨y, hy, hrep⟩ := partS_run hpart hvs w
          rw [nth?_get, Array.getElem?_toList] at hfd
          refine OpOk.next (.val (v := y) hl hp ?_ hrep h)
          simp [Instr.field, run_underlying hu, hfd, hv, asAgg, hy]
        · cases h
      · cases h
    · cases h
  case indexAddr t x ix =>
    split at h
    · rename_i e j ks n t' kt i hu he hi
      have hix := int?_rep hi (hev ix)
      have hx := hev x
      rw [he] at hx
      simp only [SV.rep] at hx
      obtain ⟨b, l, hbj, hv, _, _, hln, hval, hrows⟩ := hx
      rw [hix]
      exact OpOk.next (rowAddr_ok hu hp hl hbj hv hln hval hrows h)
    · rename_i n e j ks t' i' o kt i hu he hi
      have hix := int?_rep hi (hev ix)
      have hx := hev x
      rw [he] at hx
      simp only [SV.rep] at hx
      obtain ⟨b, k, l, hbj, hk, hkl, hv, hval, hrows⟩ := hx
      split at h
      · rename_i s hs
        obtain ⟨pc', q, hp', hlt, hq, h⟩ := idx_sel 6 hp h
        rw [hix, hq, hv]
        refine OpOk.next (.val (v := .pointer (some ⟨b.blk, b.off + (k * ks.length + (o + q * s)), none⟩)) hl hp' ?_ ?_ h)
        · simp [Instr.indexAt, asIntOf, run_underlying hu, Instr.sureAddr, szT_run hs, hlt, add_at, Nat.add_assoc]
        · simp only [SV.rep]
          exact ⟨b, k, l, hbj, hk, hkl, rfl, hval, hrows⟩
      · cases h
    split at h
    · rename_i j o n e kt i hb hi
      have hix := int?_rep hi (hev ix)
      split at h
      · rename_i s hs
        obtain ⟨pc', q, hp', hlt, hq, h⟩ := idx_sel 6 hp h
        obtain ⟨b, hbj, hrun⟩ := indexAt_run hb (hev x) hs hlt kt w
        rw [hix, hq]
        refine OpOk.next (.val hl hp' hrun ?_ h)
        simp only [SV.rep]
        exact ⟨b, hbj, rfl⟩
      · cases h
    · cases h
  case index t x ix =>
    split at h
    · rename_i n e cs kt i hu he hi
      have hix := int?_rep hi (hev ix)
      have hx := hev x
      rw [he] at hx
      simp only [SV.rep] at hx
      obtain ⟨vs, hv, hvs⟩ := hx
      split at h
      · rename_i s hs
        obtain ⟨pc', q, hp', hlt, hq, h⟩ := idx_sel 6 hp h
        split at h
        · rename_i u hpart
          obtain ⟨y, hy, hrep⟩ := partS_run hpart hvs w
          refine OpOk.next (.val (v := y) hl hp' ?_ hrep h)
          rw [hix, hq, hv]
          simp [Instr.index, asIntOf, run_underlying hu, hlt, szT_run hs, hy]
        · cases h
      · cases h
    · rename_i a kt i hu he hi
      have hix := int?_rep hi (hev ix)
      have hx := hev x
      rw [he] at hx
      have hv := str_rep hx
      obtain ⟨pc', hp', h⟩ := fork_sel hp h
      rcases h with ⟨hz, h⟩ | ⟨_, h⟩
      · obtain ⟨pc2, hp2, h⟩ := fork_sel hp' h
        rcases h with ⟨hz2, h⟩ | ⟨_, h⟩
        · rw [cmpI_den _ _ _ _ lei_self] at hz
          rw [cmpI_den _ _ _ _ lti_self, mkOp_den] at hz2
          have b1 : (0 : Int) ≤ (i.den E).toI := of_decide_eq_true hz
          have b2 : (i.den E).toI < ((a.den E).toS.length : Nat) := of_decide_eq_true hz2
          have hlt : (i.den E).toI.toNat < (a.den E).toS.length := by omega
          refine OpOk.next (.val (v := .int .u8 ((a.den E).toS.getD (i.den E).toI.toNat 0).toNat) hl hp2 ?_ (rep_int (by rw [mkOp_den]; rfl)) h)
          rw [hix, hv]
          have hget : (⟨(a.den E).toS.toArray⟩ : ByteArray)[(i.den E).toI.toNat]? = some ((a.den E).toS.getD (i.den E).toI.toNat 0) := by
            rw [getElem?_pos (⟨(a.den E).toS.toArray⟩ : ByteArray) _ (by simpa [ByteArray.size] using hlt)]
            congr 1
            show ((a.den E).toS.toArray)[(i.den E).toI.toNat]'(by simpa using hlt) = _
            simp [List.getD, hlt]
          simp only [Instr.index, asIntOf, Sem.run_bind, Sem.run_pure, Result.andThen_ok, run_underlying hu]
          rw [if_pos b1, hget]
          rfl
        · cases h
      · cases h
    · cases h
  case extract x i =>
    have hx := hev x
    split at h
    · rename_i vs he
      rw [he] at hx
      simp only [SV.rep] at hx
      obtain ⟨us, hv, hus⟩ := hx
      split at h
      · rename_i u hu
        rw [nth?_get] at hu
        obtain ⟨y, hy, hrep⟩ := reps_get hus hu
        rw [Array.getElem?_toList] at hy
        refine OpOk.next (.val (v := y) hl hp ?_ hrep h)
        simp [Instr.extract, hv, hy]
      · cases h
    · cases h
  case call c =>
    obtain ⟨callee, args, argTypes⟩ := c
    split at h
    · rename_i x t hc ha hat
      simp only at hc ha hat
      subst hc
      have ha' : args = #[x] := by rw [← Array.toArray_toList (xs := args), ha]
      have hat' : argTypes = #[t] := by rw [← Array.toArray_toList (xs := argTypes), hat]
      subst ha'; subst hat'
      have hx := hev x
      have go : ∀ {s : Sem Value}, s = Builtin.len_ #[t] ty #[ρ x] → OpOk P E β m.nxt m.lim w s r →
          OpOkN P E β m.nxt m.lim w (do let d ← resolve ρ { callee := .builtin .len, args := #[x], argTypes := #[t] } ty; invoke d.target d.args) r := by
        rintro s rfl ⟨h1, h2, v, w', β', h3, h4, h5⟩
        exact ⟨h1, h2, v, w', β', by simp [resolve, invoke, builtin, h3], h4, h5⟩
      refine go rfl ?_
      split at h
      · rename_i a hu he
        rw [he] at hx
        have hv := str_rep hx
        refine .val (v := goInt (a.den E).toS.length) hl hp ?_ (rep_int (by rw [mkOp_den]; rfl)) h
        have hsz : (⟨(a.den E).toS.toArray⟩ : ByteArray).size = (a.den E).toS.length := by simp only [ByteArray.size, List.size_toArray]
        simp [Builtin.len_, run_underlying hu, hv, hsz]
      · rename_i n e hu
        refine .val (v := goInt n) hl hp ?_ (rep_int rfl) h
        simp [Builtin.len_, run_underlying hu]
      · rename_i e j o n hu he
        rw [he] at hx
        simp only [SV.rep] at hx
        obtain ⟨b, c, _, hv, _⟩ := hx
        refine .val (v := goInt n) hl hp ?_ (rep_int rfl) h
        simp [Builtin.len_, run_underlying hu, hv]
      · rename_i e j n hu he
        rw [he] at hx
        simp only [SV.rep] at hx
        obtain ⟨b, _, _, hv, _⟩ := hx
        refine .val (v := goInt n) hl hp ?_ (rep_int rfl) h
        simp [Builtin.len_, run_underlying hu, hv]
      · rename_i e j n t' hu he
        rw [he] at hx
        simp only [SV.rep] at hx
        obtain ⟨b, l, c, _, hv, _, hn, _⟩ := hx
        refine .val (v := goInt l) hl hp ?_ (rep_int hn) h
        simp [Builtin.len_, run_underlying hu, hv]
      · rename_i e j ks n t' hu he
        rw [he] at hx
        simp only [SV.rep] at hx
        obtain ⟨b, l, _, hv, _, _, hn, _⟩ := hx
        refine .val (v := goInt l) hl hp ?_ (rep_int hn) h
        simp [Builtin.len_, run_underlying hu, hv]
      · rename_i e hu he
        rw [he] at hx
        simp only [SV.rep] at hx
        refine .val (v := goInt 0) hl hp ?_ (rep_int rfl) h
        simp [Builtin.len_, run_underlying hu, hx]
      · cases h
    · rename_i x y hc ha
      simp only at hc ha
      subst hc
      have ha' : args = #[x, y] := by rw [← Array.toArray_toList (xs := args), ha]
      subst ha'
      have hx := hev x
      have hy := hev y
      split at h
      · rename_i k a k' b he he2
        rw [he] at hx; rw [he2] at hy
        have hv := int_rep hx
        have hv2 := int_rep hy
        have go : OpOk P E β m.nxt m.lim w (Builtin.min_ argTypes ty #[ρ x, ρ y]) r → OpOkN P E β m.nxt m.lim w (do let d ← resolve ρ { callee := .builtin .min, args := #[x, y], argTypes := argTypes } ty; invoke d.target d.args) r := by
          rintro ⟨h1, h2, v, w', β', h3, h4, h5⟩
          exact ⟨h1, h2, v, w', β', by simp [resolve, invoke, builtin, h3], h4, h5⟩
        refine go (.val (v := .int k (if (b.den E).toI < (a.den E).toI then (b.den E).toI else (a.den E).toI)) hl hp ?_ (rep_int ?_) h)
        · simp [Builtin.min_, hv, hv2, Builtin.min2]
        · rw [mkIte_den, cmpI_den _ _ _ _ lti_self]
          simp only [Opc.den, Sc.toB_b, decide_eq_true_eq]
          split <;> rfl
      · cases h
    · cases h
  all_goals cases h

end
end Go.Sx
