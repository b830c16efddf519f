/-
  What (*strings.Builder).String tells.
-/
import Derived.Test.YtlbmedmddoljnaaDoorLBld
set_option linter.unusedVariables false
set_option linter.unusedSimpArgs false
set_option maxRecDepth 100000
namespace Go.Mu
open Go Go.Proofs
abbrev bT : Nat := 5
theorem str_ok {H : Heap} {i off j u : Nat} {cs : List AVal} {l : List UInt8} (hi : H[i]? = some (.var cs)) (hc : cs[off + 1]? = some (.own j 0 l.length u false)) (hj : H[j]? = some (.arr 1 (l.map byteRow) u)) (hn : H[j + 1]? = some (.note bT 0)) (h0 : l ≠ []) (hb : l.length ≤ 1099511627776) :
    CallOK Tryd.prog 59 [.ptr (.hp i) off] H (.ret (.str l) (H.set j (.arr 1 [] (u + 1)))) := by
  intro w E ys sim hlen hr
  obtain ⟨y, rfl⟩ : ∃ y, ys = [y] := by
    match ys, hlen with
    | [y], _ => exact ⟨y, rfl⟩
  obtain ⟨e0, hv⟩ := rep_ptrH (hr 0 (by simp))
  replace e0 : y = .pointer (some ⟨E.φ i, off, none⟩) := e0
  subst e0
  obtain ⟨ds, ty, fr, b1, b2, b3, b4⟩ := sim.var i cs hi
  obtain ⟨c, c1, c2, c3⟩ := b4 (off + 1) _ hc
  obtain ⟨ad, cap, sz', u', rfl, ha, hle, hsh⟩ := rep_own c3
  rw [arr_of_get hj] at ha
  simp only [Option.some.injEq, Prod.mk.injEq] at ha
  obtain ⟨rfl, rfl⟩ := ha
  obtain ⟨s1, s2, s3, s4, s5⟩ := hsh rfl
  have hl0 : l.length ≠ 0 := by simpa using h0
  have hcap : E.cap j ≠ 0 := by omega
  have had := s5 hcap (.inl hl0)
  simp only [Nat.zero_mul] at had
  subst had
  obtain ⟨a1, a2, a3, a4⟩ := sim.arr j 1 _ u hj
  obtain ⟨es, ety, efr, g1, g2, g3, g4⟩ := a4 hcap
  have hlv : live E H j := .inr ⟨⟨1, u, arr_of_get hj⟩, hcap⟩
  obtain ⟨ns, nfr, n1, n2⟩ := sim.note (j + 1) bT 0 hn hlv
  simp only [Nat.add_sub_cancel] at n1
  rw [g1] at n1
  simp only [Option.some.injEq, Obj.cells.injEq] at n1
  obtain ⟨rfl, rfl, rfl⟩ := n1
  have hcell : w.cell? ⟨E.φ i, off + 1, none⟩ = some (.slice (some ⟨E.φ j, 0, none⟩) l.length cap) := by
    simp only [World.cell?, b1]; exact c1
  have hbytes : ∀ (k : Nat) (x : UInt8), l[k]? = some x → w.drew.cell? ((⟨E.φ j, 0, none⟩ : Addr).add k) = some (.int .u8 x.toNat) := fun k x hx => by
    obtain ⟨d, d1, d2, d3⟩ := g4 k (.int .u8 x.toNat) (by
      unfold cellAt
      simp only [Nat.div_one, Nat.mod_one, List.getElem?_map, hx, Option.map_some, Option.bind_some]
      rfl)
    have hd : d = .int .u8 x.toNat := by
      cases d3 with
      | pure _ _ h => cases h; rfl
    subst hd
    have : w.drew.heap[E.φ j]? = some (.cells es bT efr) := g1
    simp only [World.cell?, addr_add, Nat.zero_add, this]
    exact d1
  have hkl : l.length ≤ es.size := by simp at a2; omega
  have walk := str_walk (w := w) (b := E.φ i) (off := off) (pv := some ⟨E.φ j, 0, none⟩) (s := ⟨l.toArray⟩) (w1 := w.drew.freeze ⟨E.φ j, 0, none⟩ l.length) hcell
    (Lib.run_unsafeSliceData_row _ _ _ _ _ _ (show cap ≠ 0 by omega))
    (Lib.run_unsafeString_row (w := w.drew) 130 3 9 bT (by kernel_rfl) (by kernel_rfl) (E.φ j) es.size (by
      have : w.drew.heap[E.φ j]? = some (.cells es bT efr) := g1
      simp [World.shape?, this]) l h0 hkl (by omega) hbytes)
  refine Calls.mono walk (fun e w' hp => ?_)
  obtain ⟨rfl, rfl⟩ := hp
  obtain ⟨f1, f2, f3⟩ := freeze_rest (w := w.drew) (g := E.φ j) (n := l.length)
  obtain ⟨ev, sim'⟩ := kill (w' := w.drew.freeze ⟨E.φ j, 0, none⟩ l.length) sim hj freeze_size (fun b hb => by
    rcases hb with hb | hb
    · exact freeze_other (w := w.drew) hb
    · exact absurd hb hcap) f1 f2 f3
  exact ⟨_, ev, sim', .pure _ _ (by have := RepP.str (w := w.drew.freeze ⟨E.φ j, 0, none⟩ l.length) (imm := E.imm) ⟨l.toArray⟩; simpa using this)⟩
/-- the octets that rows hold -/
def bytesOf (rows : List (List AVal)) : List UInt8 := rows.map byteOf
theorem byteOf_row (c : UInt8) : byteOf (byteRow c) = c := by
  simp [byteOf, byteRow, intOf]
theorem bytesOf_map (l : List UInt8) : bytesOf (l.map byteRow) = l := by
  unfold bytesOf
  rw [List.map_map]
  conv => rhs; rw [← List.map_id l]
  exact List.map_congr_left (fun a _ => byteOf_row a)
noncomputable def strTold : FSp := fun xs H k => match xs with
  | [.ptr (.hp i) off] => match H[i]? with
    | some (.var cs) => match cs[off + 1]? with
      | some (.own j 0 n u false) => match H[j]?, H[j + 1]? with
        | some (.arr 1 rows v), some (.note t 0) => cond (tst (v = u ∧ t = bT ∧ n = rows.length ∧ rows = (bytesOf rows).map byteRow ∧ 0 < n ∧ n ≤ 1099511627776)) (k (.ret (.str (bytesOf rows)) (H.set j (.arr 1 [] (u + 1))))) none
        | _, _ => none
      | _ => none
    | _ => none
  | _ => none
theorem strTold_ok (xs : List AVal) (H : Heap) (k : Out → Ans) (out : Out) (ho : strTold xs H k = some out) : ∃ o, CallOK Tryd.prog 59 xs H o ∧ k o = some out := by
  unfold strTold at ho
  split at ho
  case h_2 => simp at ho
  rename_i i off
  split at ho
  case h_2 => simp at ho
  rename_i cs hi
  split at ho
  case h_2 => simp at ho
  rename_i j n u hc
  split at ho
  case h_2 => simp at ho
  rename_i rows v t hj hn
  rw [Bool.cond_eq_ite] at ho
  split at ho
  case isFalse => simp at ho
  rename_i ht
  obtain ⟨rfl, rfl, rfl, hr, h0, hb⟩ := of_tst ht
  generalize bytesOf rows = l at *
  subst hr
  rw [List.length_map] at h0 hb hc
  exact ⟨_, str_ok hi hc hj hn (by intro e; subst e; simp at h0) hb, ho⟩
/-- of a builder that holds nothing -/
theorem str_ok0 {H : Heap} {i off : Nat} {cs : List AVal} (hi : H[i]? = some (.var cs)) (hc : cs[off + 1]? = some .nilX) :
    CallOK Tryd.prog 59 [.ptr (.hp i) off] H (.ret (.str []) H) := by
  intro w E ys sim hlen hr
  obtain ⟨y, rfl⟩ : ∃ y, ys = [y] := by
    match ys, hlen with
    | [y], _ => exact ⟨y, rfl⟩
  obtain ⟨e0, hv⟩ := rep_ptrH (hr 0 (by simp))
  replace e0 : y = .pointer (some ⟨E.φ i, off, none⟩) := e0
  subst e0
  obtain ⟨ds, ty, fr, b1, b2, b3, b4⟩ := sim.var i cs hi
  obtain ⟨c, c1, c2, c3⟩ := b4 (off + 1) _ hc
  obtain rfl := rep_nilX c3
  have hcell : w.cell? ⟨E.φ i, off + 1, none⟩ = some (.slice none 0 0) := by
    simp only [World.cell?, b1]; exact c1
  have walk := str_walk (w := w) (b := E.φ i) (off := off) (pv := none) (s := .empty) (w1 := w.drew) hcell
    (Lib.run_unsafeSliceData_nil _ _ _ _ _) (Lib.run_unsafeString_none _ _ _ _ _)
  refine Calls.mono walk (fun e w' hp => ?_)
  obtain ⟨rfl, rfl⟩ := hp
  have ev : Evo No w E H w.drew E H := ⟨Nat.le_refl _, fun _ _ _ _ => rfl, fun b hb => ⟨hb, rfl⟩, fun b hb => .inl hb, fun k hk => ⟨hk, rfl⟩, fun k sz u hk => ⟨u, hk, Nat.le_refl _, fun _ => ⟨rfl, fun _ => rfl⟩⟩, fun k hk => .inr ⟨hk, rfl⟩, Nat.le_refl _, rfl, rfl, rfl⟩
  exact ⟨E, ev, sim.keep ev.sees (fun _ _ => rfl) (Nat.le_refl _), .pure _ _ (by have := RepP.str (w := w.drew) (imm := E.imm) .empty; simpa using this)⟩
end Go.Mu
