/-
  Lemmas on the given program (part 8).
-/
import Derived.Test.YtlobblkhninckaaGreatDoorFL7
import Derived.Test.YtlobblkhninckaaGreatDoorRows
import Derived.Lib.LaidU8
import Derived.Lib.LaidTab
set_option linter.unusedVariables false
set_option linter.unusedSimpArgs false
set_option maxRecDepth 100000
namespace Go.Mu
open Go Go.Proofs
def vsOf : T → List UInt8
 | .s x => x
 | _ => []
def viOf : T → Int
 | .i _ n => n
 | _ => 0
def vlOf : T → List T
 | .l _ es => es
 | _ => []
def vfOf : T → Bool
 | .l f _ => f
 | _ => true
def vrAt (t : T) (j : Nat) : T := match t with
 | .r fs => fs.getD j (.r [])
 | _ => .r []
theorem vsub_T {α : Type} {conv : T → α} {E : α → List AVal} {d : α} {f : Bool} {es : List T} (h : ∀ t ∈ es, SubL t.enc (E (conv t))) : Sub (.list f es.length (T.encAt es)) (encL f E d (es.map conv)) := by
 unfold encL
 rw [List.length_map]
 refine Sub.list (fun h => h) (fun i hi => ?_)
 rw [T.encAt_get es i es[i] (List.getElem?_eq_getElem hi)]
 have : (es.map conv).getD i d = conv es[i] := by simp [List.getD_eq_getElem?_getD, List.getElem?_eq_getElem hi]
 rw [this]
 exact h _ (List.getElem_mem hi)
def valOf : Nat → T → VaD
 | 0, _ => va0
 | d + 1, t => ⟨viOf (vrAt t 0), viOf (vrAt t 1), vsOf (vrAt t 2), vfOf (vrAt t 3), (vlOf (vrAt t 3)).length, fun i => encVa (valOf d ((vlOf (vrAt t 3)).getD i (.r []))), vfOf (vrAt t 4), (vlOf (vrAt t 4)).map vsOf⟩
theorem valOf_vals (d : Nat) (t : T) : vals (valOf (d + 1) t).list = (vlOf (vrAt t 3)).map (valOf d) := by
 show decL decVa (.list _ (vlOf (vrAt t 3)).length (fun i => encVa (valOf d ((vlOf (vrAt t 3)).getD i (.r []))))) = _
 unfold decL
 simp only [decVa_enc]
 apply List.ext_getElem
 · simp
 · intro i h1 h2
   have hi : i < (vlOf (vrAt t 3)).length := by simpa using h1
   simp [List.getD_eq_getElem?_getD, List.getElem?_eq_getElem hi]
theorem sizes_sum : ∀ (es : List T), T.sizes es = (es.map T.size).sum
 | [] => rfl
 | t :: es => by rw [T.sizes, sizes_sum es, List.map_cons, List.sum_cons]
theorem sum_le_of {α : Type} (f g : α → Nat) : ∀ (l : List α), (∀ a ∈ l, f a ≤ g a) → (l.map f).sum ≤ (l.map g).sum
 | [], _ => Nat.le_refl _
 | a :: l, h => by
  have := sum_le_of f g l (fun b hb => h b (by simp [hb]))
  have := h a (by simp)
  simp only [List.map_cons, List.sum_cons]
  omega
theorem sum_mul (c : Nat) : ∀ (l : List Nat), (l.map (fun x => c * x)).sum = c * l.sum
 | [] => by simp
 | a :: l => by rw [List.map_cons, List.sum_cons, sum_mul c l, List.sum_cons, Nat.mul_add]
theorem str_Ts {t : T} (h : HasT Tryz.prog 9 t) : SubL t.enc (encS (vsOf t)) ∧ t.size = (vsOf t).length + 1 := by
 obtain ⟨s, rfl⟩ := h.str_inv (by kernel_rfl)
 exact ⟨by simp only [T.enc, vsOf, encS]; exact .refl _, rfl⟩
theorem val_T : ∀ (d : Nat) (t : T), HasT Tryz.prog 25 t → t.size ≤ d → SubL t.enc (encVa (valOf d t)) ∧ wfVal d (valOf d t) ∧ szV d (valOf d t) ≤ 16 * t.size
 | 0, t, h, hs => by have := t.size_pos; omega
 | d + 1, t, h, hs => by
  obtain ⟨parts, rfl, hp⟩ := h.struct_inv Tryz.underlying25
  obtain ⟨x0, xs, rfl, h0, hp⟩ := HasTs.cons_inv hp
  obtain ⟨x1, xs, rfl, h1, hp⟩ := HasTs.cons_inv hp
  obtain ⟨x2, xs, rfl, h2, hp⟩ := HasTs.cons_inv hp
  obtain ⟨x3, xs, rfl, h3, hp⟩ := HasTs.cons_inv hp
  obtain ⟨x4, xs, rfl, h4, hp⟩ := HasTs.cons_inv hp
  obtain rfl := HasTs.nil_inv hp
  obtain ⟨kd, rfl, _⟩ := h0.int_inv (k := .i64) (by kernel_rfl)
  obtain ⟨n, rfl, wn⟩ := h1.int_inv (k := .i64) (by kernel_rfl)
  obtain ⟨tx, rfl⟩ := h2.str_inv (by kernel_rfl)
  obtain ⟨f, es, rfl, hes⟩ := h3.slice_inv (e := 25) (by kernel_rfl)
  obtain ⟨kf, ks, rfl, hks⟩ := h4.slice_inv (e := 9) (by kernel_rfl)
  have rn : -9223372036854775808 ≤ n ∧ n ≤ 9223372036854775807 := by simpa [Lit.wf, IntKind.min, IntKind.max, IntKind.signed, IntKind.bits, IntKind.wrap] using wn
  simp only [T.size, T.sizes] at hs
  have ih := fun e (he : e ∈ es) => val_T d e (hes e he) (by have := T.size_mem es e he; omega)
  have ev : ∀ t : T, vlOf (vrAt (.r [.i .i64 kd, .i .i64 n, .s tx, .l f es, .l kf ks]) 3) = es := fun _ => rfl
  have hv : vals (valOf (d + 1) (.r [.i .i64 kd, .i .i64 n, .s tx, .l f es, .l kf ks])).list = es.map (valOf d) := valOf_vals d _
  refine ⟨?_, ⟨rn.1, rn.2, ?_, fun x hx => ?_⟩, ?_⟩
  · simp only [T.enc, T.encAll, List.append_nil, List.singleton_append, List.cons_append, List.nil_append]
    refine .cons (.refl _) (.cons (.refl _) (.cons (.refl _) (.cons (Sub.list (fun h => h) (fun i hi => ?_)) (.cons (vsub_T (fun t ht => (str_Ts (hks t ht)).1)) .nil))))
    rw [T.encAt_get es i es[i] (List.getElem?_eq_getElem hi)]
    have e : (vlOf (vrAt (.r [.i .i64 kd, .i .i64 n, .s tx, .l f es, .l kf ks]) 3)).getD i (.r []) = es[i] := by
     show es.getD i (.r []) = _
     rw [List.getD_eq_getElem?_getD, List.getElem?_eq_getElem hi]; rfl
    show SubL es[i].enc (encVa (valOf d ((vlOf (vrAt (.r [.i .i64 kd, .i .i64 n, .s tx, .l f es, .l kf ks]) 3)).getD i (.r []))))
    rw [e]
    exact (ih _ (List.getElem_mem hi)).1
  · show (List.range es.length).all (fun i => wfVa (encVa (valOf d (es.getD i (.r []))))) = true
    refine List.all_eq_true.2 (fun i _ => ?_)
    unfold wfVa
    exact tst_true (by rw [decVa_enc])
  · rw [hv] at hx
    obtain ⟨e, he, rfl⟩ := List.mem_map.1 hx
    exact (ih e he).2.1
  · unfold szV
    rw [hv]
    show 96 + 16 * tx.length + ((ks.map vsOf).map (fun k => 16 + 16 * k.length)).sum + ((es.map (valOf d)).map (szV d)).sum ≤ 16 * (T.size (.r _))
    simp only [T.size, T.sizes]
    have a1 : ((es.map (valOf d)).map (szV d)).sum ≤ 16 * T.sizes es := by
     rw [List.map_map, sizes_sum, ← sum_mul, List.map_map]
     exact sum_le_of _ _ es (fun e he => (ih e he).2.2)
    have a2 : ((ks.map vsOf).map (fun k => 16 + 16 * k.length)).sum ≤ 16 * T.sizes ks := by
     rw [List.map_map, sizes_sum, ← sum_mul, List.map_map]
     refine sum_le_of _ _ ks (fun e he => ?_)
     have := (str_Ts (hks e he)).2
     show 16 + 16 * (vsOf e).length ≤ 16 * e.size
     omega
    omega
end Go.Mu
namespace Go.Mu
open Go Go.Proofs
theorem layLd_ok (d : Nat) : (layLd scanR holeX (WvD d) (apRV d) (apRE d) (ch0R d) (vplR d)).OK Tryz.prog := (((((Lay.nil_ok.addF sfTold_ok).addF hlTold_ok).addF aliveT_ok).addF (apTold_ok d)).addF (ck4Told_ok d)).addF (vpTold_ok d)
theorem scanA_j (a : Bs) : JOk (scanA a).1 := by
 show JOk (scanFeed oneP unfM ss0 a).1
 rw [scanFeed_inv0 ss0_inv]
 exact feedL_j unfM_len a ss0_inv (j_nil rfl)
theorem vaE (v : VaD) : [AVal.int .i64 v.kind, AVal.int .i64 v.int, AVal.str v.text, AVal.list v.lf v.ln v.lr, AVal.list v.kf v.keys.length fun (i : Nat) => [AVal.str (v.keys.getD i [])]] = encVa v := rfl
theorem cAv (x : List AVal) : cellsA (.agg x) = x := rfl
theorem apRV_enc (d : Nat) (e : Int) (v : VaD) : apRV d e (encVa v) = apV d e v := by unfold apRV; rw [decVa_enc]
theorem apRE_enc (d : Nat) (e : Int) (v : VaD) : apRE d e (encVa v) = apE d e v := by unfold apRE; rw [decVa_enc]
theorem canC_enc (v : VaD) : canC (encVa v) = encVa v := by unfold canC; rw [decVa_enc]
theorem hole_err {t : SS} (h : SInv t) : (holeM t).2.2 = 0 ∨ (holeM t).2.2 = 91 := by
 unfold holeM
 rw [h.mark]
 simp only [bne_self_eq_false, cond_false]
 cases (holeR t).2 == 0
 · exact .inl rfl
 · exact .inr rfl
theorem holeC_range {t u : SS} {q : Int} (h : HoleC t u q) : 1 ≤ q ∧ q ≤ 12 := by cases h <;> exact ⟨by decide, by decide⟩
theorem lead_true (d : Nat) (a : Bs) (v : VaD) (ha : a.length ≤ 1048576) (hw : wfVal (d + 1) v) (hs : szV (d + 1) v ≤ 16777216) : CallOK Tryz.prog 3 [.str a, .agg (encVa v)] [] (.ret (.bool true) []) := (layLd_ok (d + 1)).callF (G := []) rfl (fun k => by
 have key := lead_fun scanR holeX (WvD (d + 1)) (apRV (d + 1)) (apRE (d + 1)) (ch0R (d + 1)) (vplR (d + 1)) a v k
 simp only [c0v, cGv, ef0, ef, ssEta, ss0v, scanR_enc, holeX_enc, vaE, cAv, apRV_enc, apRE_enc, canC_enc, ch0R_enc, vplR_enc, bif_or, bif_and] at key
 refine key.trans ?_
 clear key
 refine (congrArg (fun c => cond c _ none) (tst_true ⟨⟨isS_enc ss0, by omega⟩, .refl _, trivial⟩)).trans ((cond_true _ _).trans ?_)
 refine (congrArg (fun c => cond c _ none) (tst_true ⟨isS_enc _, .refl _, trivial⟩)).trans ((cond_true _ _).trans ?_)
 refine (congrArg (fun c => cond c _ none) (tst_true ⟨WvD_enc hw hs, .refl _, trivial⟩)).trans ((cond_true _ _).trans ?_)
 refine (congrArg (fun c => cond c _ none) (tst_true ⟨WvD_enc hw hs, .refl _, trivial⟩)).trans ((cond_true _ _).trans ?_)
 have hinv : SInv (scanFeed oneP unfM ss0 a).1 := scanA_inv a
 have hj : JOk (scanFeed oneP unfM ss0 a).1 := scanA_j a
 generalize (scanFeed oneP unfM ss0 a).1 = t at *
 generalize (scanFeed oneP unfM ss0 a).2.2 = e1 at *
 cases hb : (IntKind.i64.wrap (e1 + (holeM t).2.2) != 0 || e1 != 0 || chkV (d + 1) v 0 != 0 || !vplV (d + 1) v) with
 | true => rfl
 | false =>
  simp only [Bool.or_eq_false_iff, bne_eq_false_iff_eq, Bool.not_eq_false'] at hb
  obtain ⟨⟨⟨b1, b2⟩, b3⟩, b4⟩ := hb
  have hh : (holeM t).2.2 = 0 := by
   rcases hole_err hinv with h | h
   · exact h
   · rw [b2, h] at b1
     exact absurd b1 (by decide)
  obtain ⟨hv, hc⟩ := holeM_c hinv hh
  have hn : nestV (d + 1) v 16 = 0 := nest_of_chk (d + 1) v 0 (by decide) (by decide) hw b3
  have hk : v.kind < 7 := by
   unfold vplV at b4
   rw [Bool.and_eq_true] at b4
   exact of_decide_eq_true b4.2
  have hl := apV_len (d + 1) (holeM t).2.1 v hw hs
  generalize (holeM t).2.1 = q at *
  generalize (holeM t).1 = u at *
  have hr := holeC_range hc
  have hE : apE (d + 1) q v = 0 := by unfold apE; rw [if_neg (by omega)]; exact hn
  have hV : apV (d + 1) q v = apT (d + 1) q v := by unfold apV; rw [if_pos hE]
  obtain ⟨z, hz, hs1, hs2, hs3, hs4⟩ := leads refs6_ok hv hc hj (d + 1) v hw hk
  have hf : scanFeed oneP unfM t (apV (d + 1) q v) = (z, (apV (d + 1) q v).length, 0) := by
   rw [scanFeed_inv0 hinv, hV]
   exact hz
  rw [hf, hE]
  refine (congrArg (fun c => cond c _ none) (tst_true ⟨WvD_enc hw hs, .refl _, trivial⟩)).trans ((cond_true _ _).trans ?_)
  refine (congrArg (fun c => cond c _ none) (tst_true ⟨⟨isS_enc _, hl⟩, .refl _, trivial⟩)).trans ((cond_true _ _).trans ?_)
  have g1 : (q == 4 && (0 : Int) == 93) = false := by cases q == 4 <;> rfl
  have g2 : (IntKind.i64.wrap (0 + 0) != 0 || ((((apV (d + 1) q v).length : Nat) : Int) != (((apV (d + 1) q v).length : Nat) : Int))) = false := by
   rw [show IntKind.i64.wrap (0 + 0) = 0 by decide]
   simp
  simp only [g1, g2, cond_false, hs1.k, hs1.el, hs1.ar, hs1.dl, hs1.pe, hs1.rf, beq_self_eq_true, Bool.true_and]
  by_cases h46 : 4 ≤ q ∧ q ≤ 6
  · have hp := hs2 h46
    rw [dT (show q ≥ 4 by omega), dT (show q ≤ 6 by omega)]
    have : (z.pt != 5) = true := by simpa using hp
    rw [this]
    rfl
  · have h46b : (decide (q ≥ 4) && decide (q ≤ 6)) = false := by
     by_cases h4 : q ≥ 4
     · rw [dT h4, dF (show ¬ q ≤ 6 by omega)]; rfl
     · rw [dF h4]; rfl
    rw [h46b, cond_false]
    by_cases h10 : q > 10
    · rw [dT h10, cond_true, hs3 (by omega)]
      simp
    · rw [dF h10, cond_false]
      have := hs4 (by omega)
      subst this
      simp [hs1.pe, hs1.rf])
end Go.Mu
namespace Go.Mu
open Go
variable {H : Type}
mutual
theorem size_bulk : ∀ d : DataW H, (tOf d).size ≤ Go.Proofs.YtlobblkhninckaaGreatDoor.Rows.uptoBulk d
 | .lit (.bool _) => by simp [tOf, T.size, Go.Proofs.YtlobblkhninckaaGreatDoor.Rows.uptoBulk]
 | .lit (.int _ _) => by simp [tOf, T.size, Go.Proofs.YtlobblkhninckaaGreatDoor.Rows.uptoBulk]
 | .lit (.string _) => by simp [tOf, T.size, Go.Proofs.YtlobblkhninckaaGreatDoor.Rows.uptoBulk]
 | .lit (.float _ _) => by simp [tOf, T.size, T.sizes, Go.Proofs.YtlobblkhninckaaGreatDoor.Rows.uptoBulk]
 | .lit .nil => by simp [tOf, T.size, T.sizes, Go.Proofs.YtlobblkhninckaaGreatDoor.Rows.uptoBulk]
 | .nil => by simp [tOf, T.size, T.sizes, Go.Proofs.YtlobblkhninckaaGreatDoor.Rows.uptoBulk]
 | .ptr d => by simp [tOf, T.size, T.sizes, Go.Proofs.YtlobblkhninckaaGreatDoor.Rows.uptoBulk]
 | .slice es sp => by
  have := size_bulks es
  simp only [tOf, T.size, Go.Proofs.YtlobblkhninckaaGreatDoor.Rows.uptoBulk]
  omega
 | .agg ps => by
  have := size_bulks ps
  simp only [tOf, T.size, Go.Proofs.YtlobblkhninckaaGreatDoor.Rows.uptoBulk]
  omega
 | .iface _ d => by simp [tOf, T.size, T.sizes, Go.Proofs.YtlobblkhninckaaGreatDoor.Rows.uptoBulk]
 | .map _ => by simp [tOf, T.size, T.sizes, Go.Proofs.YtlobblkhninckaaGreatDoor.Rows.uptoBulk]
 | .held _ => by simp [tOf, T.size, T.sizes, Go.Proofs.YtlobblkhninckaaGreatDoor.Rows.uptoBulk]
theorem size_bulks : ∀ ds : List (DataW H), T.sizes (tOfs ds) ≤ Go.Proofs.YtlobblkhninckaaGreatDoor.Rows.uptoBulkAll ds
 | [] => by simp [tOfs, T.sizes, Go.Proofs.YtlobblkhninckaaGreatDoor.Rows.uptoBulkAll]
 | d :: ds => by
  have := size_bulk d
  have := size_bulks ds
  simp only [tOfs, T.sizes, Go.Proofs.YtlobblkhninckaaGreatDoor.Rows.uptoBulkAll]
  omega
end
theorem small_size {ds : List (DataW H)} (h : Go.Proofs.YtlobblkhninckaaGreatDoor.Rows.uptoSmall H ds = true) : T.sizes (tOfs ds) ≤ 1048576 := by
 unfold Go.Proofs.YtlobblkhninckaaGreatDoor.Rows.uptoSmall at h
 have := size_bulks ds
 have := of_decide_eq_true h
 omega
end Go.Mu
namespace Go.Proofs
open Go.Shelf
theorem Tryz.uRen_260 : Lays.n260 Tryz.prog Tryz.uRen := { Tryz.uRen_197 with }
theorem Tryz.u8Extra : U8Extra Tryz.prog Tryz.uRen where
 n3 := by kernel_rfl
 n4 := by kernel_rfl
 y3 := by kernel_rfl
 y4 := by kernel_rfl
 c5 := by kernel_rfl
 c119 := by kernel_rfl
 c138 := by kernel_rfl
end Go.Proofs
namespace Go.Mu
open Go Go.Proofs
theorem tabIs_of_reads {P : Program} {W : World} {name : String} {k : IntKind} {zs : List Int} {g : Nat} {t e : TypeId} {n : Nat}
 (hg : P.globalNamed name = some g) (hty : (P.globals[g]?).map (·.type) = some t) (ht : P.underlying t = some (.array n e)) (he : P.underlying e = some (.int k)) (hce : P.cellsOf e = 1) (hct : P.cellsOf t = n)
 (h : Lib.VarReads P W name (Lib.tabData k zs)) : Lib.TabIs P W name k zs := by
 obtain ⟨g', t', cs, fuel, p, hg', ht', hvar, hd⟩ := h
 obtain rfl := Option.some.inj (hg.symm.trans hg')
 obtain rfl := Option.some.inj (hty.symm.trans ht')
 unfold Lib.TabIs
 rw [hvar, ← Lib.cells_of_tab ht he hce hct hd]
theorem asc_rep {W : World} {imm : Nat → Prop} (h : Lib.TabIs Tryz.prog W "strings.asciiSpace" .u8 Lib.asciiSpaceTab) (hi : imm 3) : RepP W imm (.rptr (Lib.asciiSpaceTab.map (AVal.int .u8))) (.pointer (some ⟨3, 0, none⟩)) := by
 refine .rptr _ _ 0 (fun j => .int .u8 (Lib.asciiSpaceTab.getD j 0)) hi (fun j hj => ?_) (fun j hj => ?_)
 · rw [List.length_map] at hj
   rw [Nat.zero_add]
   exact ⟨h.cell (by kernel_rfl) j hj, rfl⟩
 · rw [List.length_map] at hj
   rw [List.getD_eq_getElem?_getD, List.getElem?_map, List.getElem?_eq_getElem hj, List.getD_eq_getElem?_getD, List.getElem?_eq_getElem hj]
   exact .int _ _
theorem asc_reads {W : World} {laid : List (String × DataW Unit)} (hl : laidMet Tryz.prog laid W) (h3 : ("strings.asciiSpace", Lib.tabData .u8 Lib.asciiSpaceTab) ∈ laid) : Lib.TabIs Tryz.prog W "strings.asciiSpace" .u8 Lib.asciiSpaceTab :=
 tabIs_of_reads (g := 3) (by kernel_rfl) (by kernel_rfl) (t := 139) (e := 5) (n := 256) (by kernel_rfl) (by kernel_rfl) (by kernel_rfl) (by kernel_rfl) (Lib.laidMet.reads hl h3)
theorem asc_old {W : World} (h : Lib.TabIs Tryz.prog W "strings.asciiSpace" .u8 Lib.asciiSpaceTab) : oldB W 3 := by
 have h : W.cell? ⟨3, 0, none⟩ = some (.int .u8 (Lib.asciiSpaceTab.getD 0 0)) := h.cell (by kernel_rfl) 0 (by rw [Lib.asciiSpaceTab_length]; omega)
 show 3 < W.heap.size
 unfold World.cell? at h
 by_cases hlt : 3 < W.heap.size
 · exact hlt
 · have hle : W.heap.size ≤ (Addr.mk 3 0 none).block := by show W.heap.size ≤ 3; omega
   rw [Array.getElem?_eq_none hle] at h
   simp at h
theorem tabs_glob {W : World} {laid : List (String × DataW Unit)} (hl : laidMet Tryz.prog laid W) (h1 : ("unicode/utf8.first", Lib.firstData) ∈ laid) (h2 : ("unicode/utf8.acceptRanges", Lib.acceptData) ∈ laid) (h3 : ("strings.asciiSpace", Lib.tabData .u8 Lib.asciiSpaceTab) ∈ laid) : ∀ g cells, gvals g = some cells → RepP W (oldB W) (.rptr cells) (.pointer (some ⟨g, 0, none⟩)) := by
 have hT : Lib.Utf8Tabs 1 2 W := utf8Tabs_of_reads Tryz.uRen_260 Tryz.u8Extra (Lib.laidMet.reads hl h1) (Lib.laidMet.reads hl h2)
 obtain ⟨t1, t2⟩ := hT
 have lt : ∀ {g j v}, W.cell? ⟨g, j, none⟩ = some v → oldB W g := fun {g j v} h => by
  show g < W.heap.size
  unfold World.cell? at h
  by_cases hlt : g < W.heap.size
  · exact hlt
  · have hle : W.heap.size ≤ (Addr.mk g j none).block := by show W.heap.size ≤ g; omega
    rw [Array.getElem?_eq_none hle] at h
    simp at h
 intro g cells hg
 unfold gvals at hg
 split at hg
 · rename_i e
   have e : g = 1 := by simpa using e
   subst e
   simp only [Option.some.injEq] at hg
   subst hg
   refine .rptr _ _ 0 (fun j => .int .u8 (Lib.firstT j)) (lt (t1 0 (by omega))) (fun j hj => ?_) (fun j hj => ?_)
   · simp only [List.length_map, List.length_range] at hj
     rw [Nat.zero_add]
     exact ⟨t1 j hj, rfl⟩
   · simp only [List.length_map, List.length_range] at hj
     rw [List.getD_eq_getElem?_getD, List.getElem?_map, List.getElem?_range hj]
     exact .int _ _
 · split at hg
   · rename_i e
     have e : g = 2 := by simpa using e
     subst e
     simp only [Option.some.injEq] at hg
     subst hg
     refine .rptr _ _ 0 (fun j => .int .u8 ((if j % 2 = 0 then Lib.accLo (j / 2) else Lib.accHi (j / 2) : Nat) : Int)) (lt (t2 0 (by omega)).1) (fun j hj => ?_) (fun j hj => ?_)
     · simp only [List.length_map, List.length_range] at hj
       rw [Nat.zero_add]
       refine ⟨?_, rfl⟩
       have h3 := t2 (j / 2) (by omega)
       by_cases hp : j % 2 = 0
       · rw [if_pos hp]
         have : 2 * (j / 2) = j := by omega
         rw [this] at h3
         exact h3.1
       · rw [if_neg hp]
         have : 2 * (j / 2) + 1 = j := by omega
         rw [this] at h3
         exact h3.2
     · simp only [List.length_map, List.length_range] at hj
       rw [List.getD_eq_getElem?_getD, List.getElem?_map, List.getElem?_range hj]
       simp only [Option.map_some, Option.getD_some]
       split <;> exact .int _ _
   · split at hg
     · rename_i e
       have e : g = 3 := by simpa using e
       subst e
       simp only [Option.some.injEq] at hg
       subst hg
       exact asc_rep (asc_reads hl h3) (asc_old (asc_reads hl h3))
     · cases hg
end Go.Mu
