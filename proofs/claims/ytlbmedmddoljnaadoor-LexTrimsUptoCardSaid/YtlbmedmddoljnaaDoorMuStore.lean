/-
  Mu: stores, allocations: what becomes of memory.
-/
import Derived.Test.YtlbmedmddoljnaaDoorMuOps
set_option linter.unusedVariables false
set_option linter.unusedSimpArgs false
namespace Go.Mu
open Go
variable {P : Program} {w w' : World} {a : Act} {E E' : Env} {H H' : Heap} {β : Nat → Option Nat} {T : List AVal} {B : Boxes} {G : Tags} {o : Oper}

theorem live_congr (hi : ∀ l, isVar H' l = isVar H l) (ha : ∀ l, arrInfo H' l = arrInfo H l) (k : Nat) : live E H' k ↔ live E H k := by
  simp only [live, hi, ha]
theorem isVar_live {k : Nat} (h : isVar H k = true) : live E H k := .inl h
theorem var_of_get {k : Nat} {cs : List AVal} (h : H[k]? = some (.var cs)) : isVar H k = true := by simp [isVar, h]
theorem arr_of_get {k sz u : Nat} {rows : List (List AVal)} (h : H[k]? = some (.arr sz rows u)) : arrInfo H k = some (sz, u) := by simp [arrInfo, h]

theorem NoteOK.setCells {b : Nat} {t : TypeId} {n x off : Nat} {vs : List Value} (h : NoteOK w b t n) : NoteOK (w.setCells x off vs) b t n := by
  by_cases e : b = x
  · subst e
    obtain ⟨cs, fr, h1, h2⟩ := h
    exact ⟨_, fr, setCells_heap b vs off w cs t fr h1, fun hn => by rw [setArr_size]; exact h2 hn⟩
  · exact h.same (setCells_other x b e vs off w)
theorem get_set_note {k j : Nat} {obj : Obj} (hno : ∀ t n, obj ≠ .note t n) {t : TypeId} {n : Nat} (h : (H.set k obj)[j]? = some (.note t n)) : H[j]? = some (.note t n) := by
  by_cases e : k = j
  · subst e
    by_cases hl : k < H.length
    · rw [List.getElem?_set_self hl] at h; exact absurd (Option.some.inj h) (hno t n)
    · rw [List.getElem?_eq_none (by simp; omega)] at h; cases h
  · rwa [List.getElem?_set_ne e] at h
theorem Sim.keep (s : Sim w E H) (hs : Sees w E H w' E H) (hk : ∀ k, live E H k → w'.heap[E.φ k]? = w.heap[E.φ k]?) (hz : w.heap.size ≤ w'.heap.size) : Sim w' E H :=
  ⟨fun b hb => Nat.lt_of_lt_of_le (s.immLt b hb) hz,
   fun k cs hc => (s.var k cs hc).mono hs (hk k (.inl (var_of_get hc))),
   fun k sz rows u hc => let ⟨h1, h2, h3, h4⟩ := s.arr k sz rows u hc
     ⟨h1, h2, h3, fun hcap => (h4 hcap).mono hs (hk k (.inr ⟨⟨sz, u, arr_of_get hc⟩, hcap⟩))⟩,
   fun k hl => ⟨(s.apart k hl).1, Nat.lt_of_lt_of_le (s.apart k hl).2 hz⟩, s.inj, fun j t n hj hl => (s.note j t n hj hl).same (hk _ hl), s.glob.mono hs.imm⟩

theorem Sim.set (s : Sim w E H) {k : Nat} {obj : Obj} (hi : ∀ l, isVar (H.set k obj) l = isVar H l) (ha : ∀ l, arrInfo (H.set k obj) l = arrInfo H l)
    (hs : Sees w E H w' E (H.set k obj)) (hz : w.heap.size ≤ w'.heap.size) (hblk : ∀ l, l ≠ k → live E H l → w'.heap[E.φ l]? = w.heap[E.φ l]?)
    (hv : ∀ cs, obj = .var cs → BlockRep w' E (H.set k obj) (E.φ k) cs.length (fun j => cs[j]?))
    (hr : ∀ sz rows u, obj = .arr sz rows u → 0 < sz ∧ rows.length ≤ E.cap k ∧ (∀ r ∈ rows, r.length = sz) ∧ (E.cap k ≠ 0 → BlockRep w' E (H.set k obj) (E.φ k) (E.cap k * sz) (cellAt sz rows)))
    (hno : ∀ t n, obj ≠ .note t n) (hn : ∀ t n, NoteOK w (E.φ k) t n → NoteOK w' (E.φ k) t n) : Sim w' E (H.set k obj) := by
  have hl := fun k' => live_congr (E := E) hi ha k'
  refine ⟨fun b hb => Nat.lt_of_lt_of_le (s.immLt b hb) hz, ?_, ?_, fun l h => ⟨(s.apart l ((hl l).1 h)).1, Nat.lt_of_lt_of_le (s.apart l ((hl l).1 h)).2 hz⟩,
    fun x y hx hy => s.inj x y ((hl x).1 hx) ((hl y).1 hy), fun j t n hj hlv => ?_, s.glob.mono hs.imm⟩
  rotate_left 2
  · have h1 := s.note j t n (get_set_note hno hj) ((hl _).1 hlv)
    by_cases e : j - 1 = k
    · rw [e] at h1 ⊢; exact hn t n h1
    · exact h1.same (hblk _ e ((hl _).1 hlv))
  · intro l cs hc
    by_cases e : l = k
    · subst e
      have hlt : l < H.length := by
        rcases Nat.lt_or_ge l H.length with g | g
        · exact g
        · rw [List.getElem?_eq_none (by simpa using g)] at hc; cases hc
      rw [List.getElem?_set_self hlt] at hc
      exact hv cs (Option.some.inj hc)
    · rw [List.getElem?_set_ne (Ne.symm e)] at hc
      exact (s.var l cs hc).mono hs (hblk l e (.inl (var_of_get hc)))
  · intro l sz rows u hc
    by_cases e : l = k
    · subst e
      have hlt : l < H.length := by
        rcases Nat.lt_or_ge l H.length with g | g
        · exact g
        · rw [List.getElem?_eq_none (by simpa using g)] at hc; cases hc
      rw [List.getElem?_set_self hlt] at hc
      exact hr sz rows u (Option.some.inj hc)
    · rw [List.getElem?_set_ne (Ne.symm e)] at hc
      obtain ⟨h1, h2, h3, h4⟩ := s.arr l sz rows u hc
      exact ⟨h1, h2, h3, fun hcap => (h4 hcap).mono hs (hblk l e (.inr ⟨⟨sz, u, arr_of_get hc⟩, hcap⟩))⟩

theorem FS.keep (fs : FS w a E H β T B G) (sim : Sim w' E' H') (hs : Sees w E H w' E' H') (hz : w.heap.size ≤ w'.heap.size)
    (himm : ∀ t b, β t = some b → ¬ E'.imm b) (hlive : ∀ t b, β t = some b → ∀ k, live E' H' k → E'.φ k ≠ b) (hb : ∀ t b, β t = some b → w'.heap[b]? = w.heap[b]?) : FS w' a E' H' β T B G :=
  ⟨sim, fs.tsize, fs.bsize, fs.gsize, fun t h => (fs.vals t h).mono hs,
    fun t b h => ⟨himm t b h, Nat.lt_of_lt_of_le (fs.box t b h).2.1 hz, hlive t b h, (fs.box t b h).2.2.2.mono hs (hb t b h)⟩, fs.binj⟩

theorem set_same_var {k : Nat} {old new : List AVal} (hk : H[k]? = some (.var old)) : (∀ l, isVar (H.set k (.var new)) l = isVar H l) ∧ ∀ l, arrInfo (H.set k (.var new)) l = arrInfo H l := by
  have hlt : k < H.length := by
    rcases Nat.lt_or_ge k H.length with g | g
    · exact g
    · rw [List.getElem?_eq_none g] at hk; cases hk
  constructor <;> intro l <;> by_cases e : l = k
  · subst e; simp [isVar, List.getElem?_set_self hlt, hk]
  · simp [isVar, List.getElem?_set_ne (Ne.symm e)]
  · subst e; simp [arrInfo, List.getElem?_set_self hlt, hk]
  · simp [arrInfo, List.getElem?_set_ne (Ne.symm e)]
theorem set_same_arr {k sz u : Nat} {old new : List (List AVal)} (hk : H[k]? = some (.arr sz old u)) : (∀ l, isVar (H.set k (.arr sz new u)) l = isVar H l) ∧ ∀ l, arrInfo (H.set k (.arr sz new u)) l = arrInfo H l := by
  have hlt : k < H.length := by
    rcases Nat.lt_or_ge k H.length with g | g
    · exact g
    · rw [List.getElem?_eq_none g] at hk; cases hk
  constructor <;> intro l <;> by_cases e : l = k
  · subst e; simp [isVar, List.getElem?_set_self hlt, hk]
  · simp [isVar, List.getElem?_set_ne (Ne.symm e)]
  · subst e; simp [arrInfo, List.getElem?_set_self hlt, hk]
  · simp [arrInfo, List.getElem?_set_ne (Ne.symm e)]

theorem sees_of {X} (h : Evo X w E H w' E' H') : Sees w E H w' E' H' := h.sees

theorem evo_write {k b off : Nat} {vs : List Value} {obj : Obj} (hb : ∀ x, E.imm x → x ≠ b) (hX : Xβ β b ∨ ∃ k, live E H k ∧ E.φ k = b)
    (hi : ∀ l, isVar H' l = isVar H l) (ha : ∀ l, arrInfo H' l = arrInfo H l) (hlen : H'.length = H.length) : Evo (Xβ β) w E H (w.setCells b off vs) E H' := by
  obtain ⟨r1, r2, r3⟩ := setCells_rest b vs off w
  refine ⟨Nat.le_of_eq (setCells_size b vs off w).symm, fun x hx hn hk => setCells_other b x (fun e => ?_) vs off w, fun x hx => ⟨hx, setCells_other b x (hb x hx) vs off w⟩, fun x hx => .inl hx,
    fun k hk => ⟨by rw [hi]; exact hk, rfl⟩, fun k sz u hk => ⟨u, by rw [ha]; exact hk, Nat.le_refl _, fun _ => ⟨rfl, fun _ => rfl⟩⟩,
    fun k hk => .inr ⟨(live_congr hi ha k).1 hk, rfl⟩, Nat.le_of_eq hlen.symm, r1, r2, r3⟩
  subst e
  rcases hX with h | ⟨k, h1, h2⟩
  · exact hn h
  · exact hk k h1 h2

/-- a store -/
theorem storeA_sound (fs : FS w a E H β T B G) {p : AVal} {cs : List AVal} {vs : List Value} {r : SR} {c : Value} (h : storeA B H p cs = some r) (hok : r.ok = true) (hp : RepT w E H β p c)
    (hl : vs.length = cs.length) (h1 : ∀ x ∈ vs, x.oneCell' = true) (hr : ∀ j, j < cs.length → Rep w E H (cs.getD j .undef) (vs.getD j undef)) :
    ∃ blk off, c = .pointer (some ⟨blk, off, none⟩) ∧ (∀ j, j < vs.length → (w.cell? ⟨blk, off + j, none⟩).isSome = true ∧ w.frozen? ⟨blk, off + j, none⟩ = false) ∧
      Evo (Xβ β) w E H (w.setCells blk off vs) E r.H ∧ FS (w.setCells blk off vs) a E r.H β T r.B G := by
  unfold storeA at h
  split at h
  · rename_i t off
    simp only [Option.some.injEq] at h
    subst h
    simp only [decide_eq_true_eq] at hok
    obtain ⟨b, rfl, hb⟩ := repT_ptr hp
    obtain ⟨k1, k2, k3, k4⟩ := fs.box t b hb
    have hne : ∀ x, E.imm x → x ≠ b := fun x hx e => k1 (e ▸ hx)
    have hs := sees_write (w := w) (E := E) (H := H) (b := b) (off := off) (vs := vs) hne
    refine ⟨b, off, rfl, fun j hj => k4.some (by omega), evo_write (k := 0) (obj := .var []) hne (.inl ⟨t, hb⟩) (fun _ => rfl) (fun _ => rfl) rfl, ?_⟩
    have sim : Sim (w.setCells b off vs) E H := fs.sim.keep hs (fun k hk => setCells_other b _ (k3 k hk) vs off w) (Nat.le_of_eq (setCells_size b vs off w).symm)
    have htlen : t < B.length ∨ B.length ≤ t := Nat.lt_or_ge _ _
    refine ⟨sim, fs.tsize, by simp [bset, fs.bsize], fs.gsize, fun u hu => (fs.vals u hu).mono hs, fun u b' hu => ?_, fs.binj⟩
    obtain ⟨j1, j2, j3, j4⟩ := fs.box u b' hu
    refine ⟨j1, by rw [setCells_size]; exact j2, j3, ?_⟩
    by_cases e : u = t
    · subst e
      rw [hb] at hu
      obtain rfl := Option.some.inj hu
      rcases htlen with hlt | hge
      · have e2 : (bset B u (setAt (B.getD u []) off cs)).getD u [] = setAt (B.getD u []) off cs := by simp [bset, List.getD_eq_getElem?_getD, hlt]
        rw [e2, setAt_length]
        refine k4.write (by omega) h1 hs (fun j v g1 g2 hv => ?_) (fun j v hj hv => ?_)
        · rw [setAt_get cs _ off j hok, if_pos ⟨g1, by omega⟩] at hv
          have := hr (j - off) (by omega)
          rw [List.getD_eq_getElem?_getD, hv] at this
          exact this
        · rw [setAt_get cs _ off j hok, if_neg (by omega)] at hv
          exact hv
      · have e2 : (bset B u (setAt (B.getD u []) off cs)).getD u [] = [] := by simp [bset, List.getD_eq_getElem?_getD, Nat.not_lt.2 hge]
        rw [e2]
        have e3 : B.getD u [] = [] := by simp [List.getD_eq_getElem?_getD, hge]
        rw [e3] at hok k4
        simp only [List.length_nil, Nat.le_zero, Nat.add_eq_zero_iff, List.length_eq_zero_iff] at hok
        obtain ⟨rfl, rfl⟩ := hok
        obtain rfl : vs = [] := List.length_eq_zero_iff.1 (by simpa using hl)
        exact k4.mono hs rfl
    · have e2 : (bset B t (setAt (B.getD t []) off cs)).getD u [] = B.getD u [] := by simp [bset, List.getD_eq_getElem?_getD, List.getElem?_set_ne (Ne.symm e)]
      rw [e2]
      exact j4.mono hs (setCells_other b b' (fun e' => e (fs.binj u t b' hu (e' ▸ hb))) vs off w)
  · rename_i k off
    split at h
    · rename_i old hk
      simp only [Option.some.injEq] at h
      subst h
      simp only [decide_eq_true_eq] at hok
      have hp' : Rep w E H (.ptr (.hp k) off) c := by cases hp with | val _ _ h => exact h
      obtain ⟨rfl, hv⟩ := rep_ptrH hp'
      have hlv : live E H k := .inl hv
      obtain ⟨ap1, ap2⟩ := fs.sim.apart k hlv
      have hne : ∀ x, E.imm x → x ≠ E.φ k := fun x hx e => ap1 (e ▸ hx)
      obtain ⟨hi, ha⟩ := set_same_var (new := setAt old off cs) hk
      have ev := evo_write (w := w) (β := β) (k := 0) (obj := .var []) (off := off) (vs := vs) hne (.inr ⟨k, hlv, rfl⟩) hi ha (by simp)
      have hs := ev.sees
      have kb := fs.sim.var k old hk
      refine ⟨E.φ k, off, rfl, fun j hj => kb.some (by omega), ev, ?_⟩
      have sim : Sim (w.setCells (E.φ k) off vs) E (H.set k (.var (setAt old off cs))) := by
        refine fs.sim.set hi ha hs (Nat.le_of_eq (setCells_size _ vs off w).symm) (fun l hl hll => setCells_other _ _ (fun e => hl (fs.sim.inj l k hll hlv e)) vs off w) ?_ (fun sz rows u e => by cases e) (fun t n e => by cases e) (fun t n h => h.setCells)
        intro cs' e
        cases e
        rw [setAt_length]
        refine kb.write (by omega) h1 hs (fun j v g1 g2 hv => ?_) (fun j v hj hv => ?_)
        · rw [setAt_get cs _ off j hok, if_pos ⟨g1, by omega⟩] at hv
          have := hr (j - off) (by omega)
          rw [List.getD_eq_getElem?_getD, hv] at this
          exact this
        · rw [setAt_get cs _ off j hok, if_neg (by omega)] at hv
          exact hv
      exact fs.keep sim hs (Nat.le_of_eq (setCells_size _ vs off w).symm) (fun t b hb => (fs.box t b hb).1) (fun t b hb l hll => (fs.box t b hb).2.2.1 l ((live_congr hi ha l).1 hll))
        (fun t b hb => setCells_other _ _ (fun e => (fs.box t b hb).2.2.1 k hlv e.symm) vs off w)
    · simp at h
  · rename_i k ver i off
    split at h
    · rename_i sz rows u hk
      simp only [Option.some.injEq] at h
      subst h
      simp only [Bool.and_eq_true, beq_iff_eq, decide_eq_true_eq] at hok
      obtain ⟨⟨rfl, hi'⟩, hle⟩ := hok
      have hp' : Rep w E H (.eptr k u i off) c := by cases hp with | val _ _ h => exact h
      obtain ⟨p, sz', u', rfl, ha', hu, hpp⟩ := rep_eptr hp'
      rw [arr_of_get hk] at ha'
      simp only [Option.some.injEq, Prod.mk.injEq] at ha'
      obtain ⟨rfl, rfl⟩ := ha'
      obtain ⟨hcap, rfl⟩ := hpp rfl
      have hlv : live E H k := .inr ⟨⟨sz, u, arr_of_get hk⟩, hcap⟩
      obtain ⟨ap1, ap2⟩ := fs.sim.apart k hlv
      have hne : ∀ x, E.imm x → x ≠ E.φ k := fun x hx e => ap1 (e ▸ hx)
      obtain ⟨hi, ha⟩ := set_same_arr (new := rows.set i (setAt (rows.getD i []) off cs)) hk
      have ev := evo_write (w := w) (β := β) (k := 0) (obj := .var []) (off := i * sz + off) (vs := vs) hne (.inr ⟨k, hlv, rfl⟩) hi ha (by simp)
      have hs := ev.sees
      obtain ⟨hsz, hrl, hrows, hblk⟩ := fs.sim.arr k sz rows u hk
      have kb := hblk hcap
      have hlen : (rows.getD i []).length = sz := hrows _ (by simp [List.getD_eq_getElem?_getD, List.getElem?_eq_getElem hi'])
      have hbound : i * sz + off + vs.length ≤ E.cap k * sz := by
        have : (i + 1) * sz ≤ E.cap k * sz := Nat.mul_le_mul_right _ (by omega)
        rw [Nat.add_mul] at this; omega
      refine ⟨E.φ k, i * sz + off, rfl, fun j hj => kb.some (by omega), ev, ?_⟩
      have sim : Sim (w.setCells (E.φ k) (i * sz + off) vs) E (H.set k (.arr sz (rows.set i (setAt (rows.getD i []) off cs)) u)) := by
        refine fs.sim.set hi ha hs (Nat.le_of_eq (setCells_size _ vs _ w).symm) (fun l hl hll => setCells_other _ _ (fun e => hl (fs.sim.inj l k hll hlv e)) vs _ w) (fun cs' e => by cases e) ?_ (fun t n e => by cases e) (fun t n h => h.setCells)
        intro sz' rows' u' e
        cases e
        refine ⟨hsz, by simpa using hrl, ?_, fun _ => ?_⟩
        · intro r hr'
          rcases List.mem_or_eq_of_mem_set hr' with h | h
          · exact hrows r h
          · rw [h, setAt_length]; exact hlen
        · have hcell : ∀ j, cellAt sz (rows.set i (setAt (rows.getD i []) off cs)) j = if j / sz = i then (setAt (rows.getD i []) off cs)[j % sz]? else cellAt sz rows j := by
            intro j
            unfold cellAt
            by_cases e : j / sz = i
            · rw [if_pos e, e, List.getElem?_set_self hi']; rfl
            · rw [if_neg e, List.getElem?_set_ne (Ne.symm e)]
          have hold : ∀ j, j / sz = i → cellAt sz rows j = (rows.getD i [])[j % sz]? := by
            intro j e
            unfold cellAt
            rw [e, List.getElem?_eq_getElem hi']
            simp [List.getD_eq_getElem?_getD, List.getElem?_eq_getElem hi']
          have hjs : ∀ j, j = (j / sz) * sz + j % sz := fun j => by rw [Nat.mul_comm]; exact (Nat.div_add_mod j sz).symm
          refine kb.write hbound h1 hs (fun j v g1 g2 hv => ?_) (fun j v hj hv => ?_)
          · have hdiv : j / sz = i := Nat.div_eq_of_lt_le (by omega) (by rw [Nat.add_mul]; omega)
            have hmod : j % sz = j - i * sz := by have := hjs j; rw [hdiv] at this; omega
            rw [hcell, if_pos hdiv, hmod, setAt_get cs _ off _ (by omega), if_pos ⟨by omega, by omega⟩] at hv
            have := hr (j - i * sz - off) (by omega)
            rw [List.getD_eq_getElem?_getD, hv] at this
            rw [show j - (i * sz + off) = j - i * sz - off by omega]
            exact this
          · rw [hcell] at hv
            by_cases e : j / sz = i
            · rw [if_pos e] at hv
              have hmod : j % sz = j - i * sz := by have := hjs j; rw [e] at this; omega
              have hge : i * sz ≤ j := by rw [← e]; exact Nat.div_mul_le_self j sz
              rw [hmod, setAt_get cs _ off _ (by omega), if_neg (by omega)] at hv
              rw [hold j e, hmod]; exact hv
            · rw [if_neg e] at hv; exact hv
      exact fs.keep sim hs (Nat.le_of_eq (setCells_size _ vs _ w).symm) (fun t b hb => (fs.box t b hb).1) (fun t b hb l hll => (fs.box t b hb).2.2.1 l ((live_congr hi ha l).1 hll))
        (fun t b hb => setCells_other _ _ (fun e => (fs.box t b hb).2.2.1 k hlv e.symm) vs _ w)
    · simp at h
  · simp at h
end Go.Mu
