/-
  Mu: the operations, one by one (what is converted).
-/
import Derived.Test.YtlbmedmddoljnaaDoorMuStep6
import Derived.Laws.IdiomStrings
set_option linter.unusedVariables false
set_option linter.unusedSimpArgs false
namespace Go.Mu
open Go
variable {P : Program} {fh : FH} {w w' : World} {a : Act} {E E' : Env} {H H' : Heap} {β : Nat → Option Nat} {T : List AVal} {B : Boxes} {G : Tags}
  {dst : Option Nat} {type : TypeId} {pos : String} {after : Array Edge} {guard : Option (Nat × Bool)} {r : SR}

theorem conv_exec {s d : TypeId} {x : Operand} {v : Value} (h : (convert s d (a.eval x)).run P w = .ok v w') : (execOp a.eval (mkO dst (.convert s d x) type pos after guard)).run P w = .ok (.value v) w' := by
  simp [execOp, h]
theorem bytesRow_get {b : ByteArray} {cap : Nat} {j : Nat} (h : j < b.size) : (bytesRow b cap)[j]? = some (.int .u8 ((b.data.toList.getD j 0).toNat : Int)) := by
  have hl : j < b.data.size := h
  unfold bytesRow
  rw [Array.getElem?_append_left (by simpa using hl)]
  simp only [Array.getElem?_map, Array.getElem?_eq_getElem hl, Option.map_some, List.getD_eq_getElem?_getD, Array.getElem?_toList]
  rfl
theorem bytesRow_size {b : ByteArray} {cap : Nat} (h : b.size ≤ cap) : (bytesRow b cap).size = cap := by
  have : b.data.size = b.size := rfl
  simp [bytesRow]; omega
theorem byte_back (rows : List (List AVal)) (cs : List Value) (hrr : RowsRep w E H 1 rows cs) (h : rows.all isByteRow = true) : cs = (rows.map fun r => intOf (r.getD 0 .undef)).map (Value.int .u8) := by
  apply List.ext_getElem?
  intro j
  rcases Nat.lt_or_ge j rows.length with g | g
  · have hb := List.all_eq_true.1 h _ (List.getElem_mem g)
    obtain ⟨c, k1, k2⟩ := hrr.cell j _ (List.getElem?_eq_getElem g) 0 (by omega)
    rw [Nat.mul_one, Nat.add_zero] at k1
    rw [k1]
    simp only [List.map_map, List.getElem?_map, List.getElem?_eq_getElem g, Option.map_some, Function.comp]
    generalize rows[j] = r at *
    unfold isByteRow at hb
    split at hb
    · rename_i v
      unfold isInt at hb
      split at hb
      · simp only [decide_eq_true_eq] at hb
        subst hb
        simp only [List.getD_cons_zero] at k2 ⊢
        rw [rep_int k2]; rfl
      · simp at hb
    · simp at hb
  · rw [List.getElem?_eq_none (by rw [hrr.len]; omega), List.getElem?_eq_none (by simpa using g)]
theorem rows_kind {sz : Nat} {xv : AVal} {ok : Bool} {rows : List (List AVal)} (h : rowsOf sz H xv = some (ok, rows)) (hns : ∀ s, xv = .str s → False) : (∃ full n row, xv = .list full n row) ∨ (∃ k off len ver clip, xv = .own k off len ver clip) := by
  unfold rowsOf at h
  split at h
  · exact .inl ⟨_, _, _, rfl⟩
  · exact .inr ⟨_, _, _, _, _, rfl⟩
  · exact absurd rfl (hns _)
  · simp at h
theorem step_convert (fs : FS w a E H β T B G) {s d : TypeId} {x : Operand} {o : Bool} (hv : okTmps G (mkO dst (.convert s d x) type pos after guard)) (h : convA P o B H s d (aeval T x) = some r) (hok : r.ok = true) :
    Sound P w a E H β T G (mkO dst (.convert s d x) type pos after guard) r := by
  have rx := okTmps_rep fs hv (x := x) (by simp [Op.operands])
  generalize aeval T x = xv at *
  unfold convA at h
  split at h
  · rename_i q k k' n hs hd
    simp only [Option.some.injEq] at h
    subst h
    have e := repT_int rx
    refine Sound.pure fs (c := .int k (k.wrap n)) (conv_exec ?_) (.int _ _)
    rw [e]
    simp [convert, run_underlying hs, run_underlying hd, Conv.intToInt]
  · rename_i q y hs hd
    simp only [Option.some.injEq] at h
    subst h
    obtain ⟨b, e, hb⟩ := repT_str rx
    refine Sound.pure fs (c := .string b) (conv_exec ?_) (.str' hb)
    rw [e]
    simp [convert, run_underlying hs, run_underlying hd]
  · rename_i e y hs hd
    split at h
    case h_2 => simp at h
    rename_i he
    obtain ⟨b, ex, hb⟩ := repT_str rx
    have hlen : y.length = b.size := by rw [size_eq, hb]
    have hge := grownCap_ge w b.size 0 e
    have run := run_bytes_of_string (P := P) w s d e b hs hd he
    have hbs := bytesRow_size hge
    have hp : Pushed w (w.drew.alloc (.cells (bytesRow b (grownCap w b.size 0 e)) e ((bytesRow b (grownCap w b.size 0 e)).size, (bytesRow b (grownCap w b.size 0 e)).size + 1))) (bytesRow b (grownCap w b.size 0 e)) e _ := ⟨rfl, rfl, rfl, rfl⟩
    have hth : thawed ((bytesRow b (grownCap w b.size 0 e)).size, (bytesRow b (grownCap w b.size 0 e)).size + 1) (bytesRow b (grownCap w b.size 0 e)).size := fun o ho hh => by simp only at hh; omega
    split at h
    · simp only [Option.some.injEq] at h
      subst h
      obtain ⟨ev, fs'⟩ := fresh_obj fs hp hth (obj := .arr 1 (y.map byteRow) 0) (c := grownCap w b.size 0 e) (fun cs e => by cases e) (fun sz' rows' u e => by
        cases e
        refine ⟨by omega, by rw [List.length_map, hlen]; exact hge, fun r hr => by obtain ⟨_, _, rfl⟩ := List.mem_map.1 hr; rfl, by omega, fun j v hv => ?_⟩
        unfold cellAt at hv
        rw [Option.bind_eq_some_iff] at hv
        obtain ⟨row, h1, h2⟩ := hv
        simp only [Nat.div_one, Nat.mod_one] at h1 h2
        rw [List.getElem?_map, Option.map_eq_some_iff] at h1
        obtain ⟨c, hc, rfl⟩ := h1
        simp only [byteRow, List.getElem?_cons_zero, Option.some.injEq] at h2
        subst h2
        have hj : j < b.size := by rw [← hlen]; exact (List.getElem?_eq_some_iff.1 hc).1
        refine ⟨_, bytesRow_get hj, rfl, ?_⟩
        rw [hb, List.getD_eq_getElem?_getD, hc]
        exact .pure _ _ (.int _ _))
      exact ⟨_, _, _, β, ⟨.inl (conv_exec (by rw [ex]; exact run)), ev, fs', .val _ _ (by rw [hlen]; exact .own _ _ _ _ _ _ _ 1 0 (by simp [arrInfo]) (Nat.le_refl _) (fun _ => own_shape0 hge)), fun _ _ h => .inl h⟩⟩
    · simp only [Option.some.injEq] at h
      subst h
      obtain ⟨ev, fs'⟩ := fresh_imm fs hp
      refine ⟨_, _, _, β, ⟨.inl (conv_exec (by rw [ex]; exact run)), ev, fs', .val _ _ (.pure _ _ ?_), fun _ _ h => .inl h⟩⟩
      rw [hlen]
      refine .list false b.size _ _ 0 _ 1 (fun i j => .int .u8 ((y.getD i 0).toNat : Int)) hge (fun h => by simp at h) (Or.inr rfl) (fun i hi => rfl) (fun i j hi hj => ?_) (fun i j hi hj => ?_)
      · rw [cell?_block hp.new, show 0 + i * 1 + j = i by omega, bytesRow_get hi, hb]
        exact ⟨rfl, rfl⟩
      · have : j = 0 := by omega
        subst this
        exact .int _ _
  · rename_i e hs hd _
    split at h
    case h_2 => simp at h
    rename_i he
    split at h
    · simp at h
    rename_i hns
    split at h
    case h_2 => simp at h
    rename_i ok rows hrows
    simp only [Option.some.injEq] at h
    subst h
    simp only [Bool.and_eq_true] at hok
    obtain ⟨rfl, hall⟩ := hok
    have hx := rows_kind hrows hns
    obtain ⟨ao, cap, cs, ex, hrr, hcell⟩ := slice_rows fs hx hrows rx
    have hcs := byte_back rows cs hrr hall
    have hstr : ∀ b : ByteArray, b.data.toList = rows.map byteOf → (convert s d (.slice ao rows.length cap)).run P w = .ok (.string b) w → Sound P w a E H β T G (mkO dst (.convert s d x) type pos after guard) ⟨true && rows.all isByteRow, .str (rows.map byteOf), B, H⟩ := fun b hb hrun =>
      Sound.pure fs (c := .string b) (conv_exec (by rw [ex]; exact hrun)) (.str' hb)
    rw [hall] at hstr
    refine (hall ▸ hstr ⟨(rows.map byteOf).toArray⟩ rfl ?_)
    rw [run_convert_bytes_string w s d e ao _ cap hs he hd]
    have hpush : ∀ (l : List (List AVal)) (r : ByteArray), (l.map fun r => intOf (r.getD 0 .undef)).foldl (fun r n => r.push (UInt8.ofNat n.toNat)) r = ⟨r.data ++ (l.map byteOf).toArray⟩ := by
      intro l
      induction l with
      | nil => intro r; simp
      | cons x l ih => intro r; simp only [List.map_cons, List.foldl_cons]; rw [ih]; simp [ByteArray.push, byteOf]
    have hload : ∀ ad, ao = some ad → (∀ j u, cs[j]? = some u → w.cell? (ad.add j) = some u) → (Conv.bytesToString (.slice ao rows.length cap)).run P w = .ok (.string ⟨(rows.map byteOf).toArray⟩) w := by
      intro ad hao hc
      subst hao
      have hl := run_loadCells_list (P := P) w ad cs hc
      rw [hrr.len, Nat.mul_one] at hl
      rw [hcs] at hl
      rw [run_bytesToString w ad rows.length cap _ hl, hpush]
      have he0 : ByteArray.empty.data = #[] := rfl
      rw [he0]; simp
    rcases hcell with rfl | ⟨ad, rfl, hc⟩
    · cases ao with
      | none => simp [Conv.bytesToString]; rfl
      | some ad => exact hload ad rfl (fun j u hj => by
          have : cs = [] := List.eq_nil_of_length_eq_zero (by rw [hrr.len]; simp)
          rw [this] at hj; simp at hj)
    · exact hload ad rfl hc
  · simp at h
end Go.Mu
