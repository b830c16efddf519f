/-
  Mu: how abstract values stand for the model's values and memory.
-/
import Derived.Test.YtlbmedmddoljnaaDoorMuDefs
import Derived.Laws.Cells
set_option linter.unusedVariables false
namespace Go.Mu
open Go

structure Env where
  imm : Nat → Prop
  φ : Nat → Nat
  cap : Nat → Nat

def isVar (H : Heap) (k : Nat) : Bool := match H[k]? with | some (.var _) => true | _ => false
def arrInfo (H : Heap) (k : Nat) : Option (Nat × Nat) := match H[k]? with | some (.arr sz _ v) => some (sz, v) | _ => none

/-- plain data: what no call touches -/
inductive RepP (w : World) (imm : Nat → Prop) : AVal → Value → Prop
  | undef (c) : RepP w imm .undef c
  | bool (b) : RepP w imm (.bool b) (.bool b)
  | int (k n) : RepP w imm (.int k n) (.int k n)
  | str (b : ByteArray) : RepP w imm (.str b.data.toList) (.string b)
  | list0 (full row a cap) : (full = true → cap = 0) → RepP w imm (.list full 0 row) (.slice a 0 cap)
  | list (full n row blk off cap sz) (cs : Nat → Nat → Value) : n ≤ cap → (full = true → cap = n) → imm blk → (∀ i, i < n → (row i).length = sz) →
      (∀ i j, i < n → j < sz → w.cell? ⟨blk, off + i * sz + j, none⟩ = some (cs i j) ∧ (cs i j).oneCell' = true) →
      (∀ i j, i < n → j < sz → RepP w imm ((row i).getD j .undef) (cs i j)) → RepP w imm (.list full n row) (.slice (some ⟨blk, off, none⟩) n cap)
  | rptr (cells : List AVal) (blk off : Nat) (cs : Nat → Value) : imm blk → (∀ j, j < cells.length → w.cell? ⟨blk, off + j, none⟩ = some (cs j) ∧ (cs j).oneCell' = true) →
      (∀ j, j < cells.length → RepP w imm (cells.getD j .undef) (cs j)) → RepP w imm (.rptr cells) (.pointer (some ⟨blk, off, none⟩))
  | nilptr : RepP w imm .nilptr (.pointer none)
  | nilS (cap) : RepP w imm .nilS (.slice none 0 cap)
  | nonS (a cap) : RepP w imm .nonS (.slice (some a) 0 cap)
  | nilX : RepP w imm .nilX (.slice none 0 0)
  | func (f) : RepP w imm (.func f []) (.func (.func f) #[] #[])
  | nilfunc : RepP w imm .nilfunc .nilFunc
  | iface (t v c) : RepP w imm v c → RepP w imm (.iface t v) (.iface t c)
  | nilIface : RepP w imm .nilIface .nilIface
  | agg (cells : List AVal) (cs : List Value) : cells.length = cs.length → (∀ j, j < cells.length → (cs.getD j undef).oneCell' = true) → (∀ j, j < cells.length → RepP w imm (cells.getD j .undef) (cs.getD j undef)) →
      RepP w imm (.agg cells) (.agg cs.toArray)
  | tuple (vs : List AVal) (cs : List Value) : vs.length = cs.length → (∀ j, j < vs.length → RepP w imm (vs.getD j .undef) (cs.getD j undef)) → RepP w imm (.tuple vs) (.tuple cs.toArray)

def OwnShape (E : Env) (k off len : Nat) (clip : Bool) (sz : Nat) (a : Option Addr) (cap : Nat) : Prop :=
  len ≤ cap ∧ (clip = true → cap = len) ∧ (clip = false → off = 0 → cap = E.cap k) ∧ off + len ≤ E.cap k ∧
  (E.cap k ≠ 0 → (len ≠ 0 ∨ (off = 0 ∧ clip = false)) → a = some ⟨E.φ k, off * sz, none⟩)

inductive Rep (w : World) (E : Env) (H : Heap) : AVal → Value → Prop
  | pure (v c) : RepP w E.imm v c → Rep w E H v c
  | own (k off len ver clip a cap sz u) : arrInfo H k = some (sz, u) → ver ≤ u → (ver = u → OwnShape E k off len clip sz a cap) →
      Rep w E H (.own k off len ver clip) (.slice a len cap)
  | ptrH (k off) : isVar H k = true → Rep w E H (.ptr (.hp k) off) (.pointer (some ⟨E.φ k, off, none⟩))
  | eptr (k ver i off p sz u) : arrInfo H k = some (sz, u) → ver ≤ u → (ver = u → E.cap k ≠ 0 ∧ p = some ⟨E.φ k, i * sz + off, none⟩) →
      Rep w E H (.eptr k ver i off) (.pointer p)
  | func (f) (caps : List AVal) (cs : List Value) : caps.length = cs.length → (∀ j, j < caps.length → Rep w E H (caps.getD j .undef) (cs.getD j undef)) →
      Rep w E H (.func f caps) (.func (.func f) #[] cs.toArray)
  | iface (t v c) : Rep w E H v c → Rep w E H (.iface t v) (.iface t c)
  | agg (cells : List AVal) (cs : List Value) : cells.length = cs.length → (∀ j, j < cells.length → (cs.getD j undef).oneCell' = true) → (∀ j, j < cells.length → Rep w E H (cells.getD j .undef) (cs.getD j undef)) →
      Rep w E H (.agg cells) (.agg cs.toArray)
  | tuple (vs : List AVal) (cs : List Value) : vs.length = cs.length → (∀ j, j < vs.length → Rep w E H (vs.getD j .undef) (cs.getD j undef)) → Rep w E H (.tuple vs) (.tuple cs.toArray)

/-- what a slot holds: an address of a box of this frame (β: where they lie), or a value -/
inductive RepT (w : World) (E : Env) (H : Heap) (β : Nat → Option Nat) : AVal → Value → Prop
  | box (t off b) : β t = some b → RepT w E H β (.ptr (.tmp t) off) (.pointer (some ⟨b, off, none⟩))
  | val (v c) : Rep w E H v c → RepT w E H β v c

def thawed (fr : Nat × Nat) (n : Nat) : Prop := ∀ o, o < n → ¬(fr.1 ≤ o ∧ o < fr.2)

/-- a block of cells that stands for a row of abstract cells (it may be longer) -/
def BlockRep (w : World) (E : Env) (H : Heap) (b : Nat) (n : Nat) (cells : Nat → Option AVal) : Prop :=
  ∃ ds ty fr, w.heap[b]? = some (.cells ds ty fr) ∧ n ≤ ds.size ∧ thawed fr n ∧
    ∀ j v, cells j = some v → ∃ c, ds[j]? = some c ∧ c.oneCell' = true ∧ Rep w E H v c

def live (E : Env) (H : Heap) (k : Nat) : Prop := isVar H k = true ∨ (∃ sz u, arrInfo H k = some (sz, u)) ∧ E.cap k ≠ 0

def cellAt (sz : Nat) (rows : List (List AVal)) (o : Nat) : Option AVal := (rows[o / sz]?).bind fun r => r[o % sz]?

/-- what is noted of an object: its block's type, and (but for n = 0) how many cells it has -/
def NoteOK (w : World) (b : Nat) (t : TypeId) (n : Nat) : Prop := ∃ cs fr, w.heap[b]? = some (.cells cs t fr) ∧ (n ≠ 0 → cs.size = n)
theorem NoteOK.same {w w' : World} {b : Nat} {t : TypeId} {n : Nat} (h : NoteOK w b t n) (e : w'.heap[b]? = w.heap[b]?) : NoteOK w' b t n := by
  obtain ⟨cs, fr, h1, h2⟩ := h
  exact ⟨cs, fr, by rw [e]; exact h1, h2⟩
/-- what is known of package-level variables -/
def GlobOK (w : World) (imm : Nat → Prop) : Prop :=
  (∀ g k, gints g = some k → imm g ∧ ∃ n, w.cell? ⟨g, 0, none⟩ = some (.int k n)) ∧
  ∀ g cells, gvals g = some cells → RepP w imm (.rptr cells) (.pointer (some ⟨g, 0, none⟩))
structure Sim (w : World) (E : Env) (H : Heap) : Prop where
  immLt : ∀ b, E.imm b → b < w.heap.size
  var : ∀ k cs, H[k]? = some (.var cs) → BlockRep w E H (E.φ k) cs.length (fun j => cs[j]?)
  arr : ∀ k sz rows u, H[k]? = some (.arr sz rows u) → 0 < sz ∧ rows.length ≤ E.cap k ∧ (∀ r ∈ rows, r.length = sz) ∧
    (E.cap k ≠ 0 → BlockRep w E H (E.φ k) (E.cap k * sz) (cellAt sz rows))
  apart : ∀ k, live E H k → ¬ E.imm (E.φ k) ∧ E.φ k < w.heap.size
  inj : ∀ k l, live E H k → live E H l → E.φ k = E.φ l → k = l
  note : ∀ j t n, H[j]? = some (.note t n) → live E H (j - 1) → NoteOK w (E.φ (j - 1)) t n
  glob : GlobOK w E.imm

/-- how the world, the environment and the heap may go on -/
structure Evo (X : Nat → Prop) (w : World) (E : Env) (H : Heap) (w' : World) (E' : Env) (H' : Heap) : Prop where
  size : w.heap.size ≤ w'.heap.size
  kept : ∀ b, b < w.heap.size → ¬ X b → (∀ k, live E H k → E.φ k ≠ b) → w'.heap[b]? = w.heap[b]?
  immKept : ∀ b, E.imm b → E'.imm b ∧ w'.heap[b]? = w.heap[b]?
  immNew : ∀ b, E'.imm b → E.imm b ∨ w.heap.size ≤ b
  var : ∀ k, isVar H k = true → isVar H' k = true ∧ E'.φ k = E.φ k
  arr : ∀ k sz u, arrInfo H k = some (sz, u) → ∃ u', arrInfo H' k = some (sz, u') ∧ u ≤ u' ∧ (u' = u → E'.cap k = E.cap k ∧ (E.cap k ≠ 0 → E'.φ k = E.φ k))
  phi : ∀ k, live E' H' k → w.heap.size ≤ E'.φ k ∨ (live E H k ∧ E'.φ k = E.φ k)
  len : H.length ≤ H'.length
  tape : w'.tape = w.tape
  os : w'.os = w.os
  output : w'.output = w.output

theorem live_lt {E : Env} {H : Heap} {k : Nat} (h : live E H k) : k < H.length := by
  rcases h with h | ⟨⟨sz, u, h⟩, _⟩
  · unfold isVar at h
    rcases Nat.lt_or_ge k H.length with g | g
    · exact g
    · rw [List.getElem?_eq_none g] at h; cases h
  · unfold arrInfo at h
    rcases Nat.lt_or_ge k H.length with g | g
    · exact g
    · rw [List.getElem?_eq_none g] at h; cases h

theorem Evo.refl {X w E H} : Evo X w E H w E H :=
  ⟨Nat.le_refl _, fun _ _ _ _ => rfl, fun _ h => ⟨h, rfl⟩, fun _ h => .inl h, fun _ h => ⟨h, rfl⟩, fun _ _ u h => ⟨u, h, Nat.le_refl _, fun _ => ⟨rfl, fun _ => rfl⟩⟩, fun _ h => .inr ⟨h, rfl⟩, Nat.le_refl _, rfl, rfl, rfl⟩

theorem cell?_same {w w' : World} {b : Nat} (h : w'.heap[b]? = w.heap[b]?) (o : Nat) : w'.cell? ⟨b, o, none⟩ = w.cell? ⟨b, o, none⟩ := by
  simp only [World.cell?, h]

theorem RepP.mono {w w' : World} {imm imm' : Nat → Prop} (h : ∀ b, imm b → imm' b ∧ w'.heap[b]? = w.heap[b]?) {v : AVal} {c : Value} (r : RepP w imm v c) : RepP w' imm' v c := by
  induction r with
  | undef c => exact .undef c
  | bool b => exact .bool b
  | int k n => exact .int k n
  | str b => exact .str b
  | list0 full row a cap hc => exact .list0 full row a cap hc
  | list full n row blk off cap sz cs h1 h2 h3 h4 h5 _ ih => exact .list full n row blk off cap sz cs h1 h2 (h _ h3).1 h4 (fun i j hi hj => by rw [cell?_same (h _ h3).2]; exact h5 i j hi hj) ih
  | rptr cells blk off cs h1 h2 _ ih => exact .rptr cells blk off cs (h _ h1).1 (fun j hj => by rw [cell?_same (h _ h1).2]; exact h2 j hj) ih
  | nilptr => exact .nilptr
  | nilS cap => exact .nilS cap
  | nonS a cap => exact .nonS a cap
  | nilX => exact .nilX
  | func f => exact .func f
  | nilfunc => exact .nilfunc
  | iface t v c _ ih => exact .iface t v c ih
  | nilIface => exact .nilIface
  | agg cells cs hl h1 _ ih => exact .agg cells cs hl h1 ih
  | tuple vs cs hl _ ih => exact .tuple vs cs hl ih

theorem GlobOK.mono {w w' : World} {imm imm' : Nat → Prop} (h : ∀ b, imm b → imm' b ∧ w'.heap[b]? = w.heap[b]?) (g : GlobOK w imm) : GlobOK w' imm' :=
  ⟨fun g' k e => let ⟨a, n, b⟩ := g.1 g' k e; ⟨(h _ a).1, n, by rw [cell?_same (h _ a).2]; exact b⟩, fun g' cells e => (g.2 g' cells e).mono h⟩
/-- the part of 'Evo' that a value's reading needs -/
structure Sees (w : World) (E : Env) (H : Heap) (w' : World) (E' : Env) (H' : Heap) : Prop where
  imm : ∀ b, E.imm b → E'.imm b ∧ w'.heap[b]? = w.heap[b]?
  var : ∀ k, isVar H k = true → isVar H' k = true ∧ E'.φ k = E.φ k
  arr : ∀ k sz u, arrInfo H k = some (sz, u) → ∃ u', arrInfo H' k = some (sz, u') ∧ u ≤ u' ∧ (u' = u → E'.cap k = E.cap k ∧ (E.cap k ≠ 0 → E'.φ k = E.φ k))

theorem Evo.sees {X w E H w' E' H'} (h : Evo X w E H w' E' H') : Sees w E H w' E' H' := ⟨h.immKept, h.var, h.arr⟩

theorem Rep.mono {w w' : World} {E E' : Env} {H H' : Heap} (h : Sees w E H w' E' H') {v : AVal} {c : Value} (r : Rep w E H v c) : Rep w' E' H' v c := by
  induction r with
  | pure v c r => exact .pure v c (r.mono h.imm)
  | own k off len ver clip a cap sz u h1 h2 h3 =>
    obtain ⟨u', g1, g2, g3⟩ := h.arr k sz u h1
    refine .own k off len ver clip a cap sz u' g1 (Nat.le_trans h2 g2) (fun hv => ?_)
    have e : u' = u := by omega
    obtain ⟨s1, s2, s3, s4, s5⟩ := h3 (by omega)
    obtain ⟨c1, c2⟩ := g3 e
    refine ⟨s1, s2, fun a b => by rw [c1]; exact s3 a b, by rw [c1]; exact s4, fun hc hl => ?_⟩
    rw [c1] at hc
    rw [c2 hc]; exact s5 hc hl
  | ptrH k off hv => rw [← (h.var k hv).2]; exact .ptrH k off (h.var k hv).1
  | eptr k ver i off p sz u h1 h2 h3 =>
    obtain ⟨u', g1, g2, g3⟩ := h.arr k sz u h1
    refine .eptr k ver i off p sz u' g1 (Nat.le_trans h2 g2) (fun hv => ?_)
    have e : u' = u := by omega
    obtain ⟨s1, s2⟩ := h3 (by omega)
    obtain ⟨c1, c2⟩ := g3 e
    exact ⟨by rw [c1]; exact s1, by rw [c2 s1]; exact s2⟩
  | func f caps cs hl _ ih => exact .func f caps cs hl ih
  | iface t v c _ ih => exact .iface t v c ih
  | agg cells cs hl h1 _ ih => exact .agg cells cs hl h1 ih
  | tuple vs cs hl _ ih => exact .tuple vs cs hl ih

theorem Evo.trans {X Y w E H w1 E1 H1 w2 E2 H2} (a : Evo X w E H w1 E1 H1) (b : Evo Y w1 E1 H1 w2 E2 H2) (hX : ∀ x, Y x → X x ∨ w.heap.size ≤ x) : Evo X w E H w2 E2 H2 := by
  refine ⟨Nat.le_trans a.size b.size, ?_, ?_, ?_, ?_, ?_, ?_, Nat.le_trans a.len b.len, b.tape.trans a.tape, b.os.trans a.os, b.output.trans a.output⟩
  · intro x hx hn hk
    rw [b.kept x (Nat.lt_of_lt_of_le hx a.size) (fun hy => (hX x hy).elim hn (fun h => by omega)) ?_, a.kept x hx hn hk]
    intro k hl he
    rcases a.phi k hl with h | ⟨h1, h2⟩
    · omega
    · exact hk k h1 (by rw [← h2]; exact he)
  · intro x hx
    obtain ⟨h1, h2⟩ := a.immKept x hx
    obtain ⟨h3, h4⟩ := b.immKept x h1
    exact ⟨h3, h4.trans h2⟩
  · intro x hx
    rcases b.immNew x hx with h | h
    · exact a.immNew x h
    · exact .inr (Nat.le_trans a.size h)
  · intro k hk
    obtain ⟨h1, h2⟩ := a.var k hk
    obtain ⟨h3, h4⟩ := b.var k h1
    exact ⟨h3, h4.trans h2⟩
  · intro k sz u hk
    obtain ⟨u1, h1, h2, h3⟩ := a.arr k sz u hk
    obtain ⟨u2, h4, h5, h6⟩ := b.arr k sz u1 h1
    refine ⟨u2, h4, Nat.le_trans h2 h5, fun he => ?_⟩
    obtain ⟨c1, c2⟩ := h3 (by omega)
    obtain ⟨c3, c4⟩ := h6 (by omega)
    exact ⟨c3.trans c1, fun hc => by rw [c4 (by rw [c1]; exact hc), c2 hc]⟩
  · intro k hk
    rcases b.phi k hk with h | ⟨h1, h2⟩
    · exact .inl (Nat.le_trans a.size h)
    · rcases a.phi k h1 with h | ⟨h3, h4⟩
      · exact .inl (by rw [h2]; exact h)
      · exact .inr ⟨h3, h2.trans h4⟩

theorem BlockRep.mono {w w' E E' H H'} (h : Sees w E H w' E' H') {b n cells} (hb : w'.heap[b]? = w.heap[b]?) (r : BlockRep w E H b n cells) : BlockRep w' E' H' b n cells := by
  obtain ⟨ds, ty, fr, h1, h2, h3, h4⟩ := r
  exact ⟨ds, ty, fr, hb.trans h1, h2, h3, fun j v hv => let ⟨c, g1, g2, g3⟩ := h4 j v hv; ⟨c, g1, g2, g3.mono h⟩⟩

/- inversions -/
variable {w : World} {E : Env} {H : Heap} {β : Nat → Option Nat}
theorem rep_nilX {c : Value} (h : Rep w E H .nilX c) : c = .slice none 0 0 := by
  cases h with
  | pure _ _ h => cases h; rfl
theorem rep_bool {b : Bool} {c : Value} (h : Rep w E H (.bool b) c) : c = .bool b := by
  cases h with
  | pure _ _ h => cases h; rfl
theorem rep_int {k : IntKind} {n : Int} {c : Value} (h : Rep w E H (.int k n) c) : c = .int k n := by
  cases h with
  | pure _ _ h => cases h; rfl
theorem rep_str {s : List UInt8} {c : Value} (h : Rep w E H (.str s) c) : ∃ b : ByteArray, c = .string b ∧ b.data.toList = s := by
  cases h with
  | pure _ _ h => cases h with | str b => exact ⟨b, rfl, rfl⟩
theorem rep_nilIface {c : Value} (h : Rep w E H .nilIface c) : c = .nilIface := by
  cases h with
  | pure _ _ h => cases h; rfl
theorem rep_iface {t : TypeId} {v : AVal} {c : Value} (h : Rep w E H (.iface t v) c) : ∃ d, c = .iface t d ∧ Rep w E H v d := by
  cases h with
  | pure _ _ h => cases h with | iface _ _ c h => exact ⟨c, rfl, .pure _ _ h⟩
  | iface _ _ c h => exact ⟨c, rfl, h⟩
theorem rep_agg {cells : List AVal} {c : Value} (h : Rep w E H (.agg cells) c) :
    ∃ cs : List Value, c = .agg cs.toArray ∧ cells.length = cs.length ∧ ∀ j, j < cells.length → (cs.getD j undef).oneCell' = true ∧ Rep w E H (cells.getD j .undef) (cs.getD j undef) := by
  cases h with
  | pure _ _ h => cases h with | agg _ cs h1 h2 h3 => exact ⟨cs, rfl, h1, fun j hj => ⟨h2 j hj, .pure _ _ (h3 j hj)⟩⟩
  | agg _ cs h1 h2 h3 => exact ⟨cs, rfl, h1, fun j hj => ⟨h2 j hj, h3 j hj⟩⟩
theorem rep_tuple {vs : List AVal} {c : Value} (h : Rep w E H (.tuple vs) c) :
    ∃ cs : List Value, c = .tuple cs.toArray ∧ vs.length = cs.length ∧ ∀ j, j < vs.length → Rep w E H (vs.getD j .undef) (cs.getD j undef) := by
  cases h with
  | pure _ _ h => cases h with | tuple _ cs h1 h2 => exact ⟨cs, rfl, h1, fun j hj => .pure _ _ (h2 j hj)⟩
  | tuple _ cs h1 h2 => exact ⟨cs, rfl, h1, h2⟩
theorem rep_func {f : FuncId} {caps : List AVal} {c : Value} (h : Rep w E H (.func f caps) c) :
    ∃ cs : List Value, c = .func (.func f) #[] cs.toArray ∧ caps.length = cs.length ∧ ∀ j, j < caps.length → Rep w E H (caps.getD j .undef) (cs.getD j undef) := by
  cases h with
  | pure _ _ h => cases h with | func => exact ⟨[], rfl, rfl, fun j hj => by simp at hj⟩
  | func _ _ cs h1 h2 => exact ⟨cs, rfl, h1, h2⟩
theorem rep_list {full : Bool} {n : Nat} {row : Nat → List AVal} {c : Value} (h : Rep w E H (.list full n row) c) :
    ∃ a cap, c = .slice a n cap ∧ n ≤ cap ∧ (full = true → cap = n) ∧
      (n ≠ 0 → ∃ blk off sz, ∃ cs : Nat → Nat → Value, a = some ⟨blk, off, none⟩ ∧ E.imm blk ∧ (∀ i, i < n → (row i).length = sz) ∧
        (∀ i j, i < n → j < sz → w.cell? ⟨blk, off + i * sz + j, none⟩ = some (cs i j) ∧ (cs i j).oneCell' = true) ∧
        (∀ i j, i < n → j < sz → RepP w E.imm ((row i).getD j .undef) (cs i j))) := by
  cases h with
  | pure _ _ h => cases h with
    | list0 _ _ a cap hc => exact ⟨a, cap, rfl, Nat.zero_le _, hc, fun h => absurd rfl h⟩
    | list _ _ _ blk off cap sz cs h1 h2 h3 h4 h5 h6 => exact ⟨_, cap, rfl, h1, h2, fun _ => ⟨blk, off, sz, cs, rfl, h3, h4, h5, h6⟩⟩
theorem rep_rptr {cells : List AVal} {c : Value} (h : Rep w E H (.rptr cells) c) :
    ∃ blk off, ∃ cs : Nat → Value, c = .pointer (some ⟨blk, off, none⟩) ∧ E.imm blk ∧ (∀ j, j < cells.length → w.cell? ⟨blk, off + j, none⟩ = some (cs j) ∧ (cs j).oneCell' = true) ∧
      (∀ j, j < cells.length → RepP w E.imm (cells.getD j .undef) (cs j)) := by
  cases h with
  | pure _ _ h => cases h with | rptr _ blk off cs h1 h2 h3 => exact ⟨blk, off, cs, rfl, h1, h2, h3⟩
theorem rep_own {k off len ver : Nat} {clip : Bool} {c : Value} (h : Rep w E H (.own k off len ver clip) c) :
    ∃ a cap sz u, c = .slice a len cap ∧ arrInfo H k = some (sz, u) ∧ ver ≤ u ∧ (ver = u → OwnShape E k off len clip sz a cap) := by
  cases h with
  | pure _ _ h => cases h
  | own _ _ _ _ _ a cap sz u h1 h2 h3 => exact ⟨a, cap, sz, u, rfl, h1, h2, h3⟩
theorem rep_ptrH {k off : Nat} {c : Value} (h : Rep w E H (.ptr (.hp k) off) c) : c = .pointer (some ⟨E.φ k, off, none⟩) ∧ isVar H k = true := by
  cases h with
  | pure _ _ h => cases h
  | ptrH _ _ hv => exact ⟨rfl, hv⟩
theorem rep_eptr {k ver i off : Nat} {c : Value} (h : Rep w E H (.eptr k ver i off) c) :
    ∃ p sz u, c = .pointer p ∧ arrInfo H k = some (sz, u) ∧ ver ≤ u ∧ (ver = u → E.cap k ≠ 0 ∧ p = some ⟨E.φ k, i * sz + off, none⟩) := by
  cases h with
  | pure _ _ h => cases h
  | eptr _ _ _ _ p sz u h1 h2 h3 => exact ⟨p, sz, u, rfl, h1, h2, h3⟩

theorem Rep.undef (c : Value) : Rep w E H .undef c := .pure _ _ (.undef c)
theorem RepT.undef (c : Value) : RepT w E H β .undef c := .val _ _ (.undef c)

theorem noTmp_rep {v : AVal} {c : Value} (h : noTmp v = true) (r : RepT w E H β v c) : Rep w E H v c := by
  cases r with
  | box t off b hb => simp [noTmp] at h
  | val _ _ r => exact r
theorem repT_ptr {t off : Nat} {c : Value} (h : RepT w E H β (.ptr (.tmp t) off) c) : ∃ b, c = .pointer (some ⟨b, off, none⟩) ∧ β t = some b := by
  cases h with
  | box _ _ b hb => exact ⟨b, rfl, hb⟩
  | val _ _ h => cases h with | pure _ _ h => cases h

theorem pureD_rep : ∀ (d : Nat) (v : AVal) (c : Value), pureD d v = true → Rep w E H v c → RepP w E.imm v c := by
  intro d
  induction d with
  | zero => intro v c h; simp [pureD] at h
  | succ d ih =>
    intro v c hn h
    cases h with
    | pure _ _ h => exact h
    | own k off len ver clip a cap sz u h1 h2 h3 => simp [pureD] at hn
    | ptrH k off hv => simp [pureD] at hn
    | eptr k ver i off p sz u h1 h2 h3 => simp [pureD] at hn
    | func f caps cs hl hr =>
      cases caps with
      | nil => 
        have : cs = [] := List.length_eq_zero_iff.1 hl.symm
        subst this; exact .func f
      | cons x xs => simp [pureD] at hn
    | iface t v c hr => exact .iface t v c (ih _ _ (by simpa [pureD] using hn) hr)
    | agg cells cs hl h1 hr =>
      simp only [pureD, List.all_eq_true] at hn
      exact .agg cells cs hl h1 (fun j hj => ih _ _ (hn _ (by simp [List.getD, List.getElem?_eq_getElem hj])) (hr j hj))
    | tuple vs cs hl hr =>
      simp only [pureD, List.all_eq_true] at hn
      exact .tuple vs cs hl (fun j hj => ih _ _ (hn _ (by simp [List.getD, List.getElem?_eq_getElem hj])) (hr j hj))
theorem isPure_rep {v : AVal} {c : Value} (h : isPure v = true) (r : Rep w E H v c) : RepP w E.imm v c := pureD_rep 5 v c h r

theorem flatD_rep {imm imm' : Nat → Prop} {w' : World} : ∀ (d : Nat) (v : AVal) (c : Value), flatD d v = true → RepP w imm v c → RepP w' imm' v c := by
  intro d
  induction d with
  | zero => intro v c h; simp [flatD] at h
  | succ d ih =>
    intro v c hn h
    cases h with
    | undef c => simp [flatD] at hn
    | bool b => exact .bool b
    | int k n => exact .int k n
    | str b => exact .str b
    | list0 full row a cap hc => simp [flatD] at hn
    | list full n row blk off cap sz cs h1 h2 h3 h4 h5 h6 => simp [flatD] at hn
    | rptr cells blk off cs h1 h2 h3 => simp [flatD] at hn
    | nilptr => exact .nilptr
    | nilS cap => simp [flatD] at hn
    | nonS a cap => simp [flatD] at hn
    | nilX => simp [flatD] at hn
    | func f => simp [flatD] at hn
    | nilfunc => simp [flatD] at hn
    | iface t v c hr => exact .iface t v c (ih _ _ (by simpa [flatD] using hn) hr)
    | nilIface => exact .nilIface
    | agg cells cs hl h1 hr =>
      simp only [flatD, List.all_eq_true] at hn
      exact .agg cells cs hl h1 (fun j hj => ih _ _ (hn _ (by simp [List.getD, List.getElem?_eq_getElem hj])) (hr j hj))
    | tuple vs cs hl hr =>
      simp only [flatD, List.all_eq_true] at hn
      exact .tuple vs cs hl (fun j hj => ih _ _ (hn _ (by simp [List.getD, List.getElem?_eq_getElem hj])) (hr j hj))

/- constants -/
theorem exCell_rep (ex : Bool) {c : Value} {v : AVal} {imm : Nat → Prop} (h : RepP w imm v c) : RepP w imm (exCell ex c v) c := by
  unfold exCell
  split
  · split
    · exact .nilX
    · exact h
  · exact h
theorem ofCell_rep (c : Value) {imm : Nat → Prop} : RepP w imm (ofCell c) c := by
  unfold ofCell
  split
  · exact .bool _
  · exact .int _ _
  · exact .str _
  · exact .nilptr
  · exact .list0 _ _ _ _ (fun _ => rfl)
  · exact .nilfunc
  · exact .nilIface
  · exact .undef _
end Go.Mu
