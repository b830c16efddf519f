/-
  Mu: the operations, one by one (slices, conversions, interfaces, lengths).
-/
import Derived.Test.YtlbmedmddoljnaaDoorMuStep2
set_option linter.unusedVariables false
set_option linter.unusedSimpArgs false
namespace Go.Mu
open Go
variable {P : Program} {fh : FH} {w w' : World} {a : Act} {E E' : Env} {H H' : Heap} {β : Nat → Option Nat} {T : List AVal} {B : Boxes} {G : Tags}
  {dst : Option Nat} {type : TypeId} {pos : String} {after : Array Edge} {guard : Option (Nat × Bool)} {r : SR}

theorem step_idx (fs : FS w a E H β T B G) {t : TypeId} {x i : Operand} (hv : okTmps G (mkO dst (.indexAddr t x i) type pos after guard)) (h : val B H (idxA P H t (aeval T x) (aeval T i)) = some r) (hok : r.ok = true) :
    Sound P w a E H β T G (mkO dst (.indexAddr t x i) type pos after guard) r := by
  obtain ⟨ok, v, h1, rfl⟩ := val_some h
  simp only at hok; subst hok
  have hx := okTmps_rep fs hv (x := x) (by simp [Op.operands])
  have hi := okTmps_rep fs hv (x := i) (by simp [Op.operands])
  unfold idxA at h1
  split at h1
  · rename_i e k n he hn
    rw [hn] at hi
    have ei := repT_int hi
    have hu := elemT_some he
    split at h1
    · rename_i full m row hm
      rw [hm] at hx
      simp only [Option.some.injEq, Prod.mk.injEq, Bool.and_eq_true, decide_eq_true_eq] at h1
      obtain ⟨⟨⟨hsz, h0⟩, hlt⟩, rfl⟩ := h1
      obtain ⟨ad, cap, ex, hc, hf, hrow⟩ := rep_list (noTmp_of hx (by simp))
      have hm0 : m ≠ 0 := by omega
      obtain ⟨blk, off, sz, cs, rfl, himm, hl, hcell, hrep⟩ := hrow hm0
      have hsz' : sizeT P e = some sz := by rw [← hsz, hl 0 (by omega)]
      refine Sound.pure fs (c := .pointer (some ⟨blk, off + n.toNat * sz, none⟩)) ?_ (.val _ _ (.pure _ _ (.rptr _ blk _ (fun j => cs n.toNat j) himm (fun j hj => ?_) (fun j hj => ?_))))
      · simp only [execOp, Instr.indexAt, ex, ei, asIntOf, Sem.run_bind, Sem.run_pure, Result.andThen_ok, run_underlying hu, run_sizeT hsz']
        rw [Sem.run_ite, if_pos ⟨h0, hlt⟩]
        simp [run_sizeT hsz', addr_add]
      · rw [hl n.toNat (by omega)] at hj
        exact hcell n.toNat j (by omega) hj
      · rw [hl n.toNat (by omega)] at hj
        exact hrep n.toNat j (by omega) hj
    · rename_i k' off len ver clip hm
      rw [hm] at hx
      split at h1
      · rename_i sz rows u hk
        simp only [Option.some.injEq, Prod.mk.injEq, Bool.and_eq_true, decide_eq_true_eq, beq_iff_eq] at h1
        obtain ⟨⟨⟨⟨hsz, hvu⟩, h0⟩, hlt⟩, rfl⟩ := h1
        obtain ⟨ad, cap, sz', u', ex, ha, hle, hsh⟩ := rep_own (noTmp_of hx (by simp))
        have ha' := ha
        rw [arr_of_get hk] at ha
        simp only [Option.some.injEq, Prod.mk.injEq] at ha
        obtain ⟨rfl, rfl⟩ := ha
        obtain ⟨s1, s2, s3, s4, s5⟩ := hsh hvu.symm
        have hcap : E.cap k' ≠ 0 := by omega
        have had := s5 hcap (.inl (by omega))
        subst had
        refine Sound.pure fs (c := .pointer (some ⟨E.φ k', (off + n.toNat) * sz, none⟩)) ?_ (.val _ _ (.eptr _ _ _ _ _ sz u ha' hle (fun _ => ⟨hcap, rfl⟩)))
        simp only [execOp, Instr.indexAt, ex, ei, asIntOf, Sem.run_bind, Sem.run_pure, Result.andThen_ok, run_underlying hu]
        rw [Sem.run_ite, if_pos ⟨h0, hlt⟩]
        simp [run_sizeT hsz.symm, addr_add, Nat.add_mul]
      · simp at h1
    · simp at h1
  · simp at h1

theorem asInt_of {v : AVal} {c : Value} {n : Int} (hv : ∃ k, v = .int k n) (h : RepT w E H β v c) : ∃ k, c = .int k n := by
  obtain ⟨k, rfl⟩ := hv
  exact ⟨k, repT_int h⟩
/-- a bound of a slice expression -/
theorem bound_run {x : Value} {k : IntKind} {n : Int} {y : Nat} {code : BoundsCode} (hx : x = .int k n) (h0 : 0 ≤ n) (h1 : n ≤ y) (w : World) : (Instr.sliceBound x y code).run P w = .ok n.toNat w := by
  subst hx
  simp only [Instr.sliceBound, asIntOf, Sem.run_bind, Sem.run_pure, Result.andThen_ok]
  rw [Sem.run_ite, if_pos ⟨h0, h1⟩]; rfl

/-- the bounds of a slice expression, low and high -/
theorem bounds_run {isSl : Bool} {len cap : Nat} {lo hi : Option Value} {l h : Int} (hl : ∀ v, lo = some v → ∃ k, v = .int k l) (hl' : lo = none → l = 0) (hh : ∀ v, hi = some v → ∃ k, v = .int k h) (hh' : hi = none → h = len)
    (h0 : 0 ≤ l) (h1 : l ≤ h) (h2 : h ≤ len) (hc : len ≤ cap) (w : World) : (Instr.sliceBounds isSl len cap lo hi none).run P w = .ok (l.toNat, h.toNat, cap) w := by
  cases lo with
  | none =>
    have e := hl' rfl
    subst e
    cases hi with
    | none =>
      have e := hh' rfl
      subst e
      simp [Instr.sliceBounds]
    | some v =>
      obtain ⟨k, rfl⟩ := hh v rfl
      simp [Instr.sliceBounds, bound_run (P := P) (k := k) (n := h) (y := cap) rfl (by omega) (by omega)]
  | some u =>
    obtain ⟨k', rfl⟩ := hl u rfl
    cases hi with
    | none =>
      have e := hh' rfl
      subst e
      simp [Instr.sliceBounds, bound_run (P := P) (k := k') (n := l) (y := len) rfl h0 h1]
    | some v =>
      obtain ⟨k, rfl⟩ := hh v rfl
      simp [Instr.sliceBounds, bound_run (P := P) (k := k) (n := h) (y := cap) rfl (by omega) (by omega), bound_run (P := P) (k := k') (n := l) (y := h.toNat) rfl h0 (by omega)]
theorem bounds_run3 {len cap : Nat} {lo : Option Value} {hi mx : Value} {l h m : Int} (hl : ∀ v, lo = some v → ∃ k, v = .int k l) (hl' : lo = none → l = 0) (hh : ∃ k, hi = .int k h) (hm : ∃ k, mx = .int k m)
    (h0 : 0 ≤ l) (h1 : l ≤ h) (h2 : h ≤ m) (hc : m ≤ cap) (w : World) : (Instr.sliceBounds true len cap lo (some hi) (some mx)).run P w = .ok (l.toNat, h.toNat, m.toNat) w := by
  obtain ⟨k1, rfl⟩ := hh
  obtain ⟨k2, rfl⟩ := hm
  cases lo with
  | none =>
    have e := hl' rfl
    subst e
    simp [Instr.sliceBounds, bound_run (P := P) (k := k2) (n := m) (y := cap) rfl (by omega) (by omega), bound_run (P := P) (k := k1) (n := h) (y := m.toNat) rfl (by omega) (by omega)]
  | some u =>
    obtain ⟨k', rfl⟩ := hl u rfl
    simp [Instr.sliceBounds, bound_run (P := P) (k := k2) (n := m) (y := cap) rfl (by omega) (by omega), bound_run (P := P) (k := k1) (n := h) (y := m.toNat) rfl (by omega) (by omega), bound_run (P := P) (k := k') (n := l) (y := h.toNat) rfl h0 (by omega)]

theorem isIntV_rep {v : AVal} {c : Value} (h : isIntV v = true) (hr : RepT w E H β v c) : ∃ k, c = .int k (intOf v) := by
  cases v <;> simp [isIntV] at h
  exact ⟨_, repT_int hr⟩
theorem lo_ok {lo : Option Operand} (h : isIntO (lo.map (aeval T)) = true) (hr : ∀ x, lo = some x → RepT w E H β (aeval T x) (a.eval x)) :
    (∀ v, lo.map a.eval = some v → ∃ k, v = .int k (lowOf (lo.map (aeval T)))) ∧ (lo.map a.eval = none → lowOf (lo.map (aeval T)) = 0) := by
  cases lo with
  | none => exact ⟨fun v e => by simp at e, fun _ => rfl⟩
  | some x =>
    refine ⟨fun v e => ?_, fun e => by simp at e⟩
    simp only [Option.map_some, Option.some.injEq] at e
    subst e
    exact isIntV_rep (by simpa [isIntO] using h) (hr x rfl)
theorem hi_ok {hi : Option Operand} {n : Nat} (h : isIntO (hi.map (aeval T)) = true) (hr : ∀ x, hi = some x → RepT w E H β (aeval T x) (a.eval x)) :
    (∀ v, hi.map a.eval = some v → ∃ k, v = .int k (highOf (hi.map (aeval T)) n)) ∧ (hi.map a.eval = none → highOf (hi.map (aeval T)) n = n) := by
  cases hi with
  | none => exact ⟨fun v e => by simp at e, fun _ => rfl⟩
  | some x =>
    refine ⟨fun v e => ?_, fun e => by simp at e⟩
    simp only [Option.map_some, Option.some.injEq] at e
    subst e
    exact isIntV_rep (by simpa [isIntO] using h) (hr x rfl)
theorem extract_list (b : _root_.ByteArray) (l h : Nat) : (b.extract l h).data.toList = (b.data.toList.take h).drop l := by
  simp [List.drop_take]

theorem step_slice (fs : FS w a E H β T B G) {t : TypeId} {x : Operand} {lo hi mx : Option Operand} (hv : okTmps G (mkO dst (.slice t x lo hi mx) type pos after guard))
    (h : val B H (sliceA P H t (aeval T x) (lo.map (aeval T)) (hi.map (aeval T)) (mx.map (aeval T))) = some r) (hok : r.ok = true) :
    Sound P w a E H β T G (mkO dst (.slice t x lo hi mx) type pos after guard) r := by
  obtain ⟨ok, v, h1, rfl⟩ := val_some h
  simp only at hok; subst hok
  have hx := okTmps_rep fs hv (x := x) (by simp [Op.operands])
  have rlo : ∀ y, lo = some y → RepT w E H β (aeval T y) (a.eval y) := fun y e => okTmps_rep fs hv (by subst e; simp [Op.operands])
  have rhi : ∀ y, hi = some y → RepT w E H β (aeval T y) (a.eval y) := fun y e => okTmps_rep fs hv (by subst e; simp [Op.operands])
  have rmx : ∀ y, mx = some y → RepT w E H β (aeval T y) (a.eval y) := fun y e => okTmps_rep fs hv (by subst e; simp [Op.operands])
  unfold sliceA at h1
  simp only at h1
  generalize hL : lowOf (lo.map (aeval T)) = l at *
  split at h1
  · -- a string
    rename_i s hu hs
    rw [hs] at hx
    obtain ⟨b, ex, hb⟩ := repT_str hx
    split at h1
    · simp at h1
    · rename_i hmx
      simp only [Option.some.injEq, Prod.mk.injEq, Bool.and_eq_true, decide_eq_true_eq] at h1
      obtain ⟨⟨⟨⟨⟨⟨q1, q2⟩, q3⟩, h0⟩, hle⟩, hn⟩, rfl⟩ := h1
      have e0 : mx = none := by cases mx with | none => rfl | some _ => simp at hmx
      subst e0
      obtain ⟨l1, l2⟩ := lo_ok q1 rlo
      obtain ⟨g1, g2⟩ := hi_ok (n := s.length) q2 rhi
      rw [hL] at l1 l2
      have hsz : b.size = s.length := by rw [size_eq, hb]
      have := bounds_run (P := P) (isSl := false) (len := s.length) (cap := s.length) l1 l2 g1 g2 h0 hle hn (Nat.le_refl _) w
      refine Sound.pure fs (c := .string (b.extract l.toNat (highOf (hi.map (aeval T)) s.length).toNat)) ?_ (.str' ?_)
      · simp only [execOp, Instr.sliceAt, Sem.run_bind, run_underlying hu, Result.andThen_ok, ex, Instr.slice]
        simp [this, hsz]
      · rw [extract_list, hb]
  · -- plain data
    rename_i e full n row hu hs
    rw [hs] at hx
    obtain ⟨ad, cap, ex, hc, hf, hrow⟩ := rep_list (noTmp_of hx (by simp))
    split at h1
    · rename_i m0 hmx
      simp only [Option.some.injEq, Prod.mk.injEq, Bool.and_eq_true, decide_eq_true_eq, Bool.or_eq_true, beq_iff_eq] at h1
      obtain ⟨⟨⟨⟨⟨⟨⟨⟨⟨q1, q2⟩, q3⟩, hz⟩, hsome⟩, h0⟩, hle⟩, hm⟩, hn⟩, rfl⟩ := h1
      obtain ⟨l1, l2⟩ := lo_ok q1 rlo
      rw [hL] at l1 l2
      cases mx with
      | none => simp at hmx
      | some mo =>
      cases hi with
      | none => simp at hsome
      | some ho =>
      simp only [Option.map_some, Option.some.injEq] at hmx
      subst hmx
      obtain ⟨k1, e1⟩ := isIntV_rep (by simpa [isIntO] using q2) (rhi ho rfl)
      obtain ⟨k2, e2⟩ := isIntV_rep (by simpa [isIntO] using q3) (rmx mo rfl)
      simp only [Option.map_some, highOf] at *
      generalize intOf (aeval T ho) = hh at *
      generalize intOf (aeval T mo) = mm at *
      have hb := bounds_run3 (P := P) (len := n) (cap := cap) l1 l2 ⟨k1, e1⟩ ⟨k2, e2⟩ h0 hle hm (by omega) w
      obtain ⟨sz, hsz⟩ : ∃ sz, sizeT P e = some sz := by
        rcases hz with hz | ⟨_, hz⟩
        · exact ⟨_, hz.symm⟩
        · exact Option.isSome_iff_exists.1 hz
      refine Sound.pure fs (c := .slice (if mm.toNat = l.toNat then ad else ad.map (·.add (l.toNat * sz))) (hh.toNat - l.toNat) (mm.toNat - l.toNat)) ?_ (.val _ _ (.pure _ _ ?_))
      · simp only [execOp, Instr.sliceAt, Sem.run_bind, run_underlying hu, Result.andThen_ok, ex, Instr.slice, Option.map_some, hb, run_sizeT hsz, Sem.run_pure]
      · rw [show (hh - l).toNat = hh.toNat - l.toNat by omega]
        by_cases hz0 : hh.toNat - l.toNat = 0
        · rw [hz0]; exact .list0 _ _ _ _ (fun hfull => by simp only [beq_iff_eq] at hfull; omega)
        · obtain ⟨blk, off, sz', cs, rfl, himm, hlen, hcell, hrep⟩ := hrow (by omega)
          have hsz' : sz' = sz := by
            rcases hz with hz | ⟨hz, _⟩
            · rw [hlen 0 (by omega)] at hz; rw [hsz] at hz; exact Option.some.inj hz
            · omega
          subst hsz'
          rw [if_neg (by omega)]
          simp only [Option.map_some, addr_add]
          refine .list _ _ _ blk (off + l.toNat * sz') _ sz' (fun i j => cs (l.toNat + i) j) (by omega) (fun hfull => by simp only [beq_iff_eq] at hfull; omega) himm (fun i hi => hlen _ (by omega)) (fun i j hi hj => ?_) (fun i j hi hj => hrep _ _ (by omega) hj)
          have := hcell (l.toNat + i) j (by omega) hj
          rw [show off + l.toNat * sz' + i * sz' + j = off + (l.toNat + i) * sz' + j by rw [Nat.add_mul]; omega]
          exact this
    · rename_i hmx
      simp only [Option.some.injEq, Prod.mk.injEq, Bool.and_eq_true, decide_eq_true_eq, Bool.or_eq_true, beq_iff_eq] at h1
      obtain ⟨⟨⟨⟨⟨⟨⟨q1, q2⟩, q3⟩, hz⟩, h0⟩, hle⟩, hn⟩, rfl⟩ := h1
      have e0 : mx = none := by cases mx with | none => rfl | some _ => simp at hmx
      subst e0
      obtain ⟨l1, l2⟩ := lo_ok q1 rlo
      obtain ⟨g1, g2⟩ := hi_ok (n := n) q2 rhi
      rw [hL] at l1 l2
      generalize highOf (hi.map (aeval T)) n = hh at *
      have hb := bounds_run (P := P) (isSl := true) (len := n) (cap := cap) l1 l2 g1 g2 h0 hle hn hc w
      obtain ⟨sz, hsz⟩ : ∃ sz, sizeT P e = some sz := by
        rcases hz with hz | ⟨_, hz⟩
        · exact ⟨_, hz.symm⟩
        · exact Option.isSome_iff_exists.1 hz
      refine Sound.pure fs (c := .slice (if cap = l.toNat then ad else ad.map (·.add (l.toNat * sz))) (hh.toNat - l.toNat) (cap - l.toNat)) ?_ (.val _ _ (.pure _ _ ?_))
      · simp only [execOp, Instr.sliceAt, Sem.run_bind, run_underlying hu, Result.andThen_ok, ex, Instr.slice, Option.map_none, hb, run_sizeT hsz, Sem.run_pure]
      · rw [show (hh - l).toNat = hh.toNat - l.toNat by omega]
        by_cases hz0 : hh.toNat - l.toNat = 0
        · rw [hz0]; exact .list0 _ _ _ _ (fun hfull => by simp only [Bool.and_eq_true, beq_iff_eq] at hfull; have := hf hfull.1; omega)
        · obtain ⟨blk, off, sz', cs, rfl, himm, hlen, hcell, hrep⟩ := hrow (by omega)
          have hsz' : sz' = sz := by
            rcases hz with hz | ⟨hz, _⟩
            · rw [hlen 0 (by omega)] at hz; rw [hsz] at hz; exact Option.some.inj hz
            · omega
          subst hsz'
          rw [if_neg (by omega)]
          simp only [Option.map_some, addr_add]
          refine .list _ _ _ blk (off + l.toNat * sz') _ sz' (fun i j => cs (l.toNat + i) j) (by omega) (fun hfull => by simp only [Bool.and_eq_true, beq_iff_eq] at hfull; have := hf hfull.1; omega) himm (fun i hi => hlen _ (by omega)) (fun i j hi hj => ?_) (fun i j hi hj => hrep _ _ (by omega) hj)
          have := hcell (l.toNat + i) j (by omega) hj
          rw [show off + l.toNat * sz' + i * sz' + j = off + (l.toNat + i) * sz' + j by rw [Nat.add_mul]; omega]
          exact this
  · -- what is owned
    rename_i e k off len ver clip hu hs
    rw [hs] at hx
    obtain ⟨ad, cap, sz, u, ex, ha, hle', hsh⟩ := rep_own (noTmp_of hx (by simp))
    have hz_of : (match H[k]? with | some (.arr sz _ u) => decide (some sz = sizeT P e) && u == ver | _ => false) = true → sizeT P e = some sz ∧ ver = u := by
      intro h1
      unfold arrInfo at ha
      split at h1
      · rename_i hk
        rw [hk] at ha
        simp only [Option.some.injEq, Prod.mk.injEq] at ha
        obtain ⟨rfl, rfl⟩ := ha
        simp only [Bool.and_eq_true, decide_eq_true_eq, beq_iff_eq] at h1
        exact ⟨h1.1.symm, h1.2.symm⟩
      · simp at h1
    split at h1
    · rename_i m0 hmx
      cases mx with
      | none => simp at hmx
      | some mo =>
      simp only [Option.map_some, Option.some.injEq] at hmx
      subst hmx
      split at h1
      · rename_i heq
        simp only [Option.some.injEq, Prod.mk.injEq, Bool.and_eq_true, decide_eq_true_eq] at h1
        obtain ⟨⟨⟨⟨⟨⟨⟨q1, q2⟩, q3⟩, hz⟩, hsome⟩, h0⟩, hn⟩, rfl⟩ := h1
        obtain ⟨hsz, hvu⟩ := hz_of hz
        obtain ⟨s1, s2, s3, s4, s5⟩ := hsh hvu
        obtain ⟨l1, l2⟩ := lo_ok q1 rlo
        rw [hL] at l1 l2
        cases hi with
        | none => simp at hsome
        | some ho =>
        obtain ⟨k1, e1⟩ := isIntV_rep (by simpa [isIntO] using q2) (rhi ho rfl)
        obtain ⟨k2, e2⟩ := isIntV_rep (by simpa [isIntO] using q3) (rmx mo rfl)
        simp only [Option.map_some, highOf] at *
        generalize intOf (aeval T ho) = hh at *
        generalize intOf (aeval T mo) = mm at *
        simp only [Bool.and_eq_true, beq_iff_eq] at heq
        obtain ⟨rfl, rfl⟩ := heq
        have hb := bounds_run3 (P := P) (len := len) (cap := cap) l1 l2 ⟨k1, e1⟩ ⟨k2, e2⟩ h0 (by omega) (by omega) (by omega) w
        refine Sound.pure fs (c := .slice ad 0 0) ?_ (.val _ _ (.pure _ _ (.list0 _ _ _ _ (fun _ => rfl))))
        simp only [execOp, Instr.sliceAt, Sem.run_bind, run_underlying hu, Result.andThen_ok, ex, Instr.slice, Option.map_some, hb, run_sizeT hsz, Sem.run_pure]
        simp
      · rename_i heq
        simp only [Option.some.injEq, Prod.mk.injEq, Bool.and_eq_true, decide_eq_true_eq] at h1
        obtain ⟨⟨⟨⟨⟨⟨⟨⟨⟨q1, q2⟩, q3⟩, hz⟩, hsome⟩, h0⟩, hle⟩, hm⟩, hn⟩, rfl⟩ := h1
        obtain ⟨hsz, hvu⟩ := hz_of hz
        obtain ⟨s1, s2, s3, s4, s5⟩ := hsh hvu
        obtain ⟨l1, l2⟩ := lo_ok q1 rlo
        rw [hL] at l1 l2
        cases hi with
        | none => simp at hsome
        | some ho =>
        obtain ⟨k1, e1⟩ := isIntV_rep (by simpa [isIntO] using q2) (rhi ho rfl)
        obtain ⟨k2, e2⟩ := isIntV_rep (by simpa [isIntO] using q3) (rmx mo rfl)
        simp only [Option.map_some, highOf] at *
        generalize intOf (aeval T ho) = hh at *
        generalize intOf (aeval T mo) = mm at *
        subst hm
        simp only [Bool.and_eq_true, beq_iff_eq, and_true] at heq
        have hb := bounds_run3 (P := P) (len := len) (cap := cap) l1 l2 ⟨k1, e1⟩ ⟨k2, e2⟩ h0 hle (by omega) (by omega) w
        have had := s5 (by omega) (.inl (by omega))
        subst had
        refine Sound.pure fs (c := .slice (some ⟨E.φ k, (off + l.toNat) * sz, none⟩) (hh - l).toNat (hh.toNat - l.toNat)) ?_ (.val _ _ (.own _ _ _ _ _ _ _ sz u ha hle' (fun _ => ⟨by omega, fun _ => by omega, fun hc => by simp at hc, by omega, fun _ _ => rfl⟩)))
        simp only [execOp, Instr.sliceAt, Sem.run_bind, run_underlying hu, Result.andThen_ok, ex, Instr.slice, Option.map_some, hb, run_sizeT hsz, Sem.run_pure]
        rw [if_neg (by omega), addr_add, show hh.toNat - l.toNat = (hh - l).toNat by omega, Nat.add_mul]
    · rename_i hmx
      simp only [Option.some.injEq, Prod.mk.injEq, Bool.and_eq_true, decide_eq_true_eq, Bool.or_eq_true, beq_iff_eq, Bool.not_eq_true'] at h1
      obtain ⟨⟨⟨⟨⟨⟨⟨⟨q1, q2⟩, q3⟩, hz⟩, hcl⟩, h0⟩, hle⟩, hn⟩, rfl⟩ := h1
      have e0 : mx = none := by cases mx with | none => rfl | some _ => simp at hmx
      subst e0
      obtain ⟨hsz, hvu⟩ := hz_of hz
      obtain ⟨s1, s2, s3, s4, s5⟩ := hsh hvu
      obtain ⟨l1, l2⟩ := lo_ok q1 rlo
      obtain ⟨g1, g2⟩ := hi_ok (n := len) q2 rhi
      rw [hL] at l1 l2
      generalize highOf (hi.map (aeval T)) len = hh at *
      have hb := bounds_run (P := P) (isSl := true) (len := len) (cap := cap) l1 l2 g1 g2 h0 hle hn s1 w
      refine Sound.pure fs (c := .slice (if cap = l.toNat then ad else ad.map (·.add (l.toNat * sz))) (hh - l).toNat (cap - l.toNat)) ?_ (.val _ _ (.own _ _ _ _ _ _ _ sz u ha hle' (fun _ => ⟨by omega, fun hc => ?_, fun hc h00 => ?_, by omega, fun hcap hor => ?_⟩)))
      · simp only [execOp, Instr.sliceAt, Sem.run_bind, run_underlying hu, Result.andThen_ok, ex, Instr.slice, Option.map_none, hb, run_sizeT hsz, Sem.run_pure]
        rw [show hh.toNat - l.toNat = (hh - l).toNat by omega]
      · simp only [Bool.and_eq_true, beq_iff_eq] at hc
        have := s2 hc.1; omega
      · have hcf : clip = false := by
          cases clip with
          | false => rfl
          | true => simp at hc hcl; exact absurd hcl hc
        have := s3 hcf (by omega); omega
      · rcases hor with hne | ⟨h00, hc⟩
        · have had := s5 hcap (.inl (by omega))
          subst had
          rw [if_neg (by omega)]
          simp [addr_add, Nat.add_mul]
        · have hcf : clip = false := by
            cases clip with
            | false => rfl
            | true => simp at hc hcl; exact absurd hcl hc
          have had := s5 hcap (.inr ⟨by omega, hcf⟩)
          have hl0 : l.toNat = 0 := by omega
          have ho0 : off = 0 := by omega
          subst had
          rw [hl0, ho0]
          split <;> simp [addr_add]
  · simp at h1
end Go.Mu
