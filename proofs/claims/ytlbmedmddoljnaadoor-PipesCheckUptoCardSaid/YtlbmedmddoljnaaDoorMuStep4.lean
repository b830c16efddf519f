/-
  Mu: the operations, one by one (interfaces, new boxes, structs and slices that are built).
-/
import Derived.Test.YtlbmedmddoljnaaDoorMuStep3
set_option linter.unusedVariables false
set_option linter.unusedSimpArgs false
namespace Go.Mu
open Go
variable {P : Program} {fh : FH} {w w' : World} {a : Act} {E E' : Env} {H H' : Heap} {β : Nat → Option Nat} {T : List AVal} {B : Boxes} {G : Tags}
  {dst : Option Nat} {type : TypeId} {pos : String} {after : Array Edge} {guard : Option (Nat × Bool)} {r : SR}

theorem step_index (fs : FS w a E H β T B G) {t : TypeId} {x i : Operand} (hv : okTmps G (mkO dst (.index t x i) type pos after guard)) {s : List UInt8} {k : IntKind} {n : Int} (hu : P.underlying t = some .string) (hx : aeval T x = .str s) (hi : aeval T i = .int k n)
    (h0 : 0 ≤ n) (h1 : n < s.length) : Sound P w a E H β T G (mkO dst (.index t x i) type pos after guard) ⟨true, .int .u8 (s.getD n.toNat 0).toNat, B, H⟩ := by
  have rx := okTmps_rep fs hv (x := x) (by simp [Op.operands])
  have ri := okTmps_rep fs hv (x := i) (by simp [Op.operands])
  rw [hx] at rx; rw [hi] at ri
  obtain ⟨b, ex, hb⟩ := repT_str rx
  have ei := repT_int ri
  have hsz : b.size = s.length := by rw [size_eq, hb]
  refine Sound.pure fs (c := .int .u8 (s.getD n.toNat 0).toNat) ?_ (.int _ _)
  have hget : b[n.toNat]? = some (s.getD n.toNat 0) := by
    have hlt : n.toNat < b.size := by omega
    rw [getElem?_pos b n.toNat hlt]
    congr 1
    subst hb
    have hlt' : n.toNat < b.data.size := by rw [← Array.length_toList]; omega
    simp only [List.getD_eq_getElem?_getD]
    rw [List.getElem?_eq_getElem (by omega)]
    rfl
  simp only [execOp, Instr.index, ex, ei, asIntOf, Sem.run_bind, Sem.run_pure, Result.andThen_ok, run_underlying hu]
  rw [if_pos h0, hget]; rfl
theorem step_iface (fs : FS w a E H β T B G) {t : TypeId} {x : Operand} (hv : okTmps G (mkO dst (.makeInterface t x) type pos after guard)) {d : TypeDesc} (hu : P.underlying t = some d) (hd : ∀ ms, d ≠ .interface ms) (hn : noTmp (aeval T x) = true) :
    Sound P w a E H β T G (mkO dst (.makeInterface t x) type pos after guard) ⟨true, .iface t (aeval T x), B, H⟩ := by
  have rx := noTmp_rep hn (okTmps_rep fs hv (x := x) (by simp [Op.operands]))
  refine Sound.pure fs (c := .iface t (a.eval x)) ?_ (.val _ _ (.iface _ _ _ rx))
  simp only [execOp, Instr.makeInterface, Sem.run_bind, run_underlying hu, Result.andThen_ok]
  cases d <;> first | rfl | exact absurd rfl (hd _)
theorem step_func (fs : FS w a E H β T B G) {f : FuncId} {first caps : Array Operand} (hv : okTmps G (mkO dst (.makeFunc (.func f) first caps) type pos after guard)) (hf : first.size = 0) (hn : (caps.toList.map (aeval T)).all noTmp = true) :
    Sound P w a E H β T G (mkO dst (.makeFunc (.func f) first caps) type pos after guard) ⟨true, .func f (caps.toList.map (aeval T)), B, H⟩ := by
  have e0 : first = #[] := Array.eq_empty_of_size_eq_zero hf
  subst e0
  refine Sound.pure fs (c := .func (.func f) #[] (caps.toList.map a.eval).toArray) ?_ (.val _ _ (.func _ _ _ (by simp) (fun j hj => ?_)))
  · simp [execOp, Instr.makeFunc]
    apply Array.ext'; simp
  · simp only [List.length_map] at hj
    have hm : caps.toList[j] ∈ caps.toList := List.getElem_mem hj
    have := noTmp_rep (List.all_eq_true.1 hn _ (List.mem_map.2 ⟨_, hm, rfl⟩)) (okTmps_rep fs hv (x := caps.toList[j]) (by simp [Op.operands]))
    simpa [List.getD_eq_getElem?_getD, List.getElem?_eq_getElem hj, hj] using this
theorem zeroV_run {t : TypeId} {z : AVal} (h : zeroV P t = some z) (w : World) : ∃ c, (zeroValue t).run P w = .ok c w ∧ ∀ imm, RepP w imm z c := by
  unfold zeroV at h
  split at h
  · rename_i i hi
    split at h
    · rename_i v hz
      simp only [Option.some.injEq] at h
      subst h
      exact ⟨v, by simp [zeroValue, typeInfo, hi, hz], fun imm => ofConst_rep v⟩
    · simp at h
  · simp at h
theorem step_assert (fs : FS w a E H β T B G) {x : Operand} {xt t : TypeId} {ok : Bool} (hv : okTmps G (mkO dst (.typeAssert x xt t ok) type pos after guard)) (h : val1 B H (assertA P (aeval T x) t ok) = some r) :
    Sound P w a E H β T G (mkO dst (.typeAssert x xt t ok) type pos after guard) r := by
  obtain ⟨v, h1, rfl⟩ := val1_some h
  have rx := okTmps_rep fs hv (x := x) (by simp [Op.operands])
  have two : ∀ {u : AVal} {c : Value} {b : Bool}, Rep w E H u c → RepT w E H β (.tuple [u, .bool b]) (.tuple #[c, .bool b]) := fun {u c b} hr =>
    .val _ _ (.tuple _ [c, .bool b] rfl (fun j hj => by
      match j, hj with
      | 0, _ => exact hr
      | 1, _ => exact .pure _ _ (.bool b)))
  unfold assertA at h1
  split at h1
  · simp at h1
  · simp at h1
  · rename_i d hd hu
    have hd' : ∀ ms, d ≠ .interface ms := fun ms e => hd ms e
    split at h1
    · rename_i hx
      rw [hx] at rx
      have ex := rep_nilIface (noTmp_of rx (by simp))
      split at h1
      · rename_i hok
        subst hok
        simp only [Option.map_eq_some_iff] at h1
        obtain ⟨z, hz, rfl⟩ := h1
        obtain ⟨c, hc, hr⟩ := zeroV_run hz w
        refine Sound.pure fs (c := .tuple #[c, .bool false]) ?_ (two (.pure _ _ (hr _)))
        simp only [execOp, Instr.typeAssert, ex, Sem.run_bind, run_underlying hu, Result.andThen_ok]
        cases d <;> first | (simp [hc]; done) | exact absurd rfl (hd' _)
      · simp at h1
    · rename_i u y hx
      rw [hx] at rx
      obtain ⟨cy, ex, ry⟩ := rep_iface (noTmp_of rx (by simp))
      split at h1
      · rename_i hut
        subst hut
        simp only [Option.some.injEq] at h1
        subst h1
        cases ok with
        | true =>
          refine Sound.pure fs (c := .tuple #[cy, .bool true]) ?_ (two ry)
          simp only [execOp, Instr.typeAssert, ex, Sem.run_bind, run_underlying hu, Result.andThen_ok]
          cases d <;> first | (simp; done) | exact absurd rfl (hd' _)
        | false =>
          refine Sound.pure fs (c := cy) ?_ (.val _ _ ry)
          simp only [execOp, Instr.typeAssert, ex, Sem.run_bind, run_underlying hu, Result.andThen_ok]
          cases d <;> first | (simp; done) | exact absurd rfl (hd' _)
      · rename_i hut
        split at h1
        · rename_i hok
          subst hok
          simp only [Option.map_eq_some_iff] at h1
          obtain ⟨z, hz, rfl⟩ := h1
          obtain ⟨c, hc, hr⟩ := zeroV_run hz w
          refine Sound.pure fs (c := .tuple #[c, .bool false]) ?_ (two (.pure _ _ (hr _)))
          simp only [execOp, Instr.typeAssert, ex, Sem.run_bind, run_underlying hu, Result.andThen_ok]
          cases d <;> first | (simp [hc, hut]; done) | exact absurd rfl (hd' _)
        · simp at h1
    · simp at h1
theorem step_extract (fs : FS w a E H β T B G) {x : Operand} {i : Nat} (hv : okTmps G (mkO dst (.extract x i) type pos after guard)) {vs : List AVal} {v : AVal} (hx : aeval T x = .tuple vs) (hi : vs[i]? = some v) :
    Sound P w a E H β T G (mkO dst (.extract x i) type pos after guard) ⟨true, v, B, H⟩ := by
  have rx := okTmps_rep fs hv (x := x) (by simp [Op.operands])
  rw [hx] at rx
  obtain ⟨cs, ex, hl, hr⟩ := rep_tuple (noTmp_of rx (by simp))
  have hlt : i < vs.length := by
    rcases Nat.lt_or_ge i vs.length with g | g
    · exact g
    · rw [List.getElem?_eq_none g] at hi; cases hi
  have := hr i hlt
  rw [List.getD_eq_getElem?_getD, hi] at this
  refine Sound.pure fs (c := cs.getD i undef) ?_ (.val _ _ this)
  simp only [execOp, Instr.extract, ex]
  simp [List.getD_eq_getElem?_getD, List.getElem?_eq_getElem (show i < cs.length by omega)]
theorem step_len (fs : FS w a E H β T B G) {c : Call} {t : TypeId} {x : Operand} (hv : okTmps G (mkO dst (.call c) type pos after guard)) (hc : c.callee = .builtin .len) (ht : c.argTypes[0]? = some t) (hx : c.args[0]? = some x)
    (h : val1 B H (lenA P t (aeval T x)) = some r) : Sound P w a E H β T G (mkO dst (.call c) type pos after guard) r := by
  obtain ⟨v, h1, rfl⟩ := val1_some h
  have hm : x ∈ c.args := Array.mem_of_getElem? hx
  have rx := okTmps_rep fs hv (x := x) (by simp [Op.operands, Call.operands, hc, hm])
  have run : ∀ {n : Nat}, (Builtin.len_ c.argTypes type (c.args.map a.eval)).run P w = .ok (goInt n) w → (execOp a.eval (mkO dst (.call c) type pos after guard)).run P w = .ok (.value (.int .i64 n)) w := by
    intro n hn
    simp only [execOp, resolve, hc, Sem.run_bind, Sem.run_pure, Result.andThen_ok, invoke, builtin, hn]; rfl
  unfold lenA at h1
  split at h1
  · rename_i s hs
    split at h1
    · rename_i hu
      simp only [Option.some.injEq] at h1; subst h1
      rw [hs] at rx
      obtain ⟨b, ex, hb⟩ := repT_str rx
      have hsz : b.size = s.length := by rw [size_eq, hb]
      exact Sound.pure fs (run (by simp [Builtin.len_, ht, hx, ex, run_underlying hu, hsz])) (.int _ _)
    · simp at h1
  · rename_i full n row hs
    split at h1
    · rename_i e hu
      simp only [Option.some.injEq] at h1; subst h1
      rw [hs] at rx
      obtain ⟨ad, cap, ex, _⟩ := rep_list (noTmp_of rx (by simp))
      exact Sound.pure fs (run (by simp [Builtin.len_, ht, hx, ex, run_underlying hu])) (.int _ _)
    · simp at h1
  · rename_i k off len ver clip hs
    split at h1
    · rename_i e hu
      simp only [Option.some.injEq] at h1; subst h1
      rw [hs] at rx
      obtain ⟨ad, cap, sz, u, ex, _⟩ := rep_own (noTmp_of rx (by simp))
      exact Sound.pure fs (run (by simp [Builtin.len_, ht, hx, ex, run_underlying hu])) (.int _ _)
    · simp at h1
  · simp at h1
theorem minmax_args {c : Call} {x y : Operand} (h : c.args.toList = [x, y]) : c.args = #[x, y] := by
  apply Array.ext'; simp [h]
theorem step_min (fs : FS w a E H β T B G) {c : Call} {x y : Operand} (hv : okTmps G (mkO dst (.call c) type pos after guard)) (hc : c.callee = .builtin .min) (ha : c.args.toList = [x, y]) (h : val1 B H (minA (aeval T x) (aeval T y)) = some r) :
    Sound P w a E H β T G (mkO dst (.call c) type pos after guard) r := by
  obtain ⟨v, h1, rfl⟩ := val1_some h
  have ha' := minmax_args ha
  have rx := okTmps_rep fs hv (x := x) (by simp [Op.operands, Call.operands, hc, ha'])
  have ry := okTmps_rep fs hv (x := y) (by simp [Op.operands, Call.operands, hc, ha'])
  unfold minA at h1
  split at h1
  · rename_i k p k' q hp hq
    rw [hp] at rx; rw [hq] at ry
    have ex := repT_int rx
    have ey := repT_int ry
    simp only [Option.some.injEq] at h1; subst h1
    refine Sound.pure fs ?_ (.int _ _)
    simp [execOp, resolve, hc, invoke, builtin, ha', Builtin.min_, Builtin.min2, ex, ey]
  · simp at h1
theorem step_max (fs : FS w a E H β T B G) {c : Call} {x y : Operand} (hv : okTmps G (mkO dst (.call c) type pos after guard)) (hc : c.callee = .builtin .max) (ha : c.args.toList = [x, y]) (h : val1 B H (maxA (aeval T x) (aeval T y)) = some r) :
    Sound P w a E H β T G (mkO dst (.call c) type pos after guard) r := by
  obtain ⟨v, h1, rfl⟩ := val1_some h
  have ha' := minmax_args ha
  have rx := okTmps_rep fs hv (x := x) (by simp [Op.operands, Call.operands, hc, ha'])
  have ry := okTmps_rep fs hv (x := y) (by simp [Op.operands, Call.operands, hc, ha'])
  unfold maxA at h1
  split at h1
  · rename_i k p k' q hp hq
    rw [hp] at rx; rw [hq] at ry
    have ex := repT_int rx
    have ey := repT_int ry
    simp only [Option.some.injEq] at h1; subst h1
    refine Sound.pure fs ?_ (.int _ _)
    simp [execOp, resolve, hc, invoke, builtin, ha', Builtin.max_, Builtin.max2, ex, ey]
  · simp at h1

/- boxes -/
theorem pushed_alloc (w : World) (ds : Array Value) (ty : TypeId) : Pushed w (w.alloc (.cells ds ty)) ds ty (0, 0) := ⟨rfl, rfl, rfl, rfl⟩
theorem thawed0 (n : Nat) : thawed (0, 0) n := fun o _ h => by omega
/-- a new variable, in the heap or as a box -/
theorem new_var (fs : FS w a E H β T B G) {op : Op} {d : Nat} {z : List AVal} {ds : Array Value} {ty : TypeId} (hz : ds.size = z.length) (hr : ∀ (j : Nat) (v : AVal), z[j]? = some v → ∃ c, ds[j]? = some c ∧ c.oneCell' = true ∧ Rep w E H v c)
    (hrun : (execOp a.eval (mkO (some d) op type pos after guard)).run P w = .ok (.value (.pointer (some ⟨w.heap.size, 0, none⟩))) (w.alloc (.cells ds ty))) :
    Sound P w a E H β T G (mkO (some d) op type pos after guard) ⟨true, .ptr (.hp H.length) 0, B, H ++ [.var z]⟩ ∧
    (d < B.length → T.any (pointsTo d) = false → Sound P w a E H β T G (mkO (some d) op type pos after guard) ⟨true, .ptr (.tmp d) 0, bset B d z, H⟩) := by
  constructor
  · obtain ⟨ev, fs'⟩ := fresh_obj fs (pushed_alloc w ds ty) (thawed0 _) (obj := .var z) (c := 0) (fun cs e => by cases e; exact ⟨hz, hr⟩) (fun sz rows u e => by cases e)
    refine ⟨_, _, _, β, ⟨.inl hrun, ev, fs', .val _ _ ?_, fun _ _ h => .inl h⟩⟩
    have := Rep.ptrH (w := w.alloc (.cells ds ty)) (E := pushEnv E H.length w.heap.size 0) (H := H ++ [.var z]) H.length 0 (by simp [isVar])
    simpa [pushEnv] using this
  · intro hd hT
    obtain ⟨ev, fs'⟩ := fresh_box fs (pushed_alloc w ds ty) hd hT hz hr
    refine ⟨_, _, _, _, ⟨.inl hrun, ev, fs', .box _ _ _ (by simp), fun t b hb => ?_⟩⟩
    by_cases e : t = d
    · subst e; rw [upd_same] at hb; simp only [Option.some.injEq] at hb; exact .inr (by omega)
    · rw [upd_other _ _ e] at hb; exact .inl hb
theorem zeroT_run {t : TypeId} {z : List AVal} (h : zeroT P t = some z) (w : World) : ∃ c, (zeroValue t).run P w = .ok c w ∧ c.cells.size = z.length ∧ ∀ (j : Nat) (v : AVal), z[j]? = some v → ∃ d, c.cells[j]? = some d ∧ d.oneCell' = true ∧ ∀ imm, RepP w imm v d := by
  unfold zeroT at h
  split at h
  · rename_i i hi
    split at h
    · rename_i v hz
      split at h
      · rename_i hall
        simp only [Option.some.injEq] at h
        subst h
        refine ⟨v, by simp [zeroValue, typeInfo, hi, hz], by simp, fun j u hu => ?_⟩
        simp only [List.getElem?_map, Option.map_eq_some_iff, Array.getElem?_toList] at hu
        obtain ⟨d, hd, rfl⟩ := hu
        exact ⟨d, hd, List.all_eq_true.1 hall d (Array.mem_toList_iff.2 (Array.mem_of_getElem? hd)), fun imm => ofCell_rep d⟩
      · simp at h
    · simp at h
  · simp at h
theorem step_alloc (fs : FS w a E H β T B G) {t : TypeId} {d : Nat} {z : List AVal} (h : zeroT P t = some z) :
    Sound P w a E H β T G (mkO (some d) (.alloc t) type pos after guard) ⟨true, .ptr (.hp H.length) 0, B, H ++ [.var z]⟩ ∧
    (d < B.length → T.any (pointsTo d) = false → Sound P w a E H β T G (mkO (some d) (.alloc t) type pos after guard) ⟨true, .ptr (.tmp d) 0, bset B d z, H⟩) := by
  obtain ⟨c, hc, hl, hr⟩ := zeroT_run h w
  refine new_var (ty := t) fs hl (fun j v hv => let ⟨d, h1, h2, h3⟩ := hr j v hv; ⟨d, h1, h2, .pure _ _ (h3 _)⟩) ?_
  simp [execOp, Instr.alloc, hc, newVar, newRow]
theorem step_box (fs : FS w a E H β T B G) {t : TypeId} {x : Operand} {d : Nat} {z : List AVal} (hv : okTmps G (mkO (some d) (.box t x) type pos after guard)) (h : cellsOf? (aeval T x) = some z) (hn : noTmp (aeval T x) = true) :
    Sound P w a E H β T G (mkO (some d) (.box t x) type pos after guard) ⟨true, .ptr (.hp H.length) 0, B, H ++ [.var z]⟩ ∧
    (d < B.length → T.any (pointsTo d) = false → Sound P w a E H β T G (mkO (some d) (.box t x) type pos after guard) ⟨true, .ptr (.tmp d) 0, bset B d z, H⟩) := by
  obtain ⟨hl, h1, hr⟩ := cellsOf_rep h (noTmp_rep hn (okTmps_rep fs hv (x := x) (by simp [Op.operands])))
  refine new_var (ty := t) (ds := (a.eval x).cells) fs (by simpa using hl) (fun j v hv => ?_) ?_
  · have hj : j < z.length := by
      rcases Nat.lt_or_ge j z.length with g | g
      · exact g
      · rw [List.getElem?_eq_none g] at hv; cases hv
    have := hr j hj
    rw [List.getD_eq_getElem?_getD, hv, List.getD_eq_getElem?_getD, List.getElem?_eq_getElem (by omega)] at this
    exact ⟨(a.eval x).cells.toList[j]'(by omega), by rw [← Array.getElem?_toList, List.getElem?_eq_getElem (by omega)], h1 _ (List.getElem_mem _), this⟩
  · simp [execOp, Instr.box, newVar, newRow]
end Go.Mu
