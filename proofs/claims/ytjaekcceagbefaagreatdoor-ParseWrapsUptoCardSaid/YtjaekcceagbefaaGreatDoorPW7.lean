/-
  Lemmas on the given program (part 7).
-/
import Derived.Test.YtjaekcceagbefaaGreatDoorPW6
import Derived.Test.YtjaekcceagbefaaGreatDoorRows
import Derived.Lib.LaidU8
import Derived.Shelf.LaysM
import Derived.Test.YtjaekcceagbefaaGreatDoorProg
import Derived.KernelRfl
set_option linter.unusedVariables false
set_option linter.unusedSimpArgs false
set_option linter.constructorNameAsVariable false
set_option maxRecDepth 100000
namespace Go.Mu
open Go Go.Proofs
theorem decSt_e (its : List ItemD) (ds : List DfD) (v : Nat) (l z : Int) : decSt (encIts its) (ds.map encDf) v l z = ⟨its, ds, l, z, v⟩ := by
 unfold decSt
 have e1 : decL decItem (encIts its) = its := decL_encL (fun x => rfl) its
 have e2 : (ds.map encDf).map decDf = ds := by
  rw [List.map_map]
  have : decDf ∘ encDf = id := rfl
  rw [this, List.map_id]
 rw [e1, e2]
theorem ndN_e (deep : Int) (its : List ItemD) (ds : List DfD) (v : Nat) (l z : Int) : ndN deep (encIts its) (ds.map encDf) v l z = nodesR deep ⟨its, ds, l, z, v⟩ := by unfold ndN; rw [decSt_e]
theorem bkN_e (kind : Int) (ws : List WdD) (head : Nm) (at_ n deep : Int) (its : List ItemD) (ds : List DfD) (v : Nat) (l z : Int) : bkN kind (encWqs false ws) head at_ n deep (encIts its) (ds.map encDf) v l z = blockR kind ⟨ws, head, at_⟩ n.toNat deep ⟨its, ds, l, z, v⟩ := by unfold bkN; rw [decSt_e, decWqs_e]
theorem dfN_e (ws : List WdD) (head : Nm) (at_ : Int) (its : List ItemD) (ds : List DfD) (v : Nat) (l z : Int) : dfN (encWqs false ws) head at_ (encIts its) (ds.map encDf) v l z = defineR ⟨ws, head, at_⟩ ⟨its, ds, l, z, v⟩ := by unfold dfN; rw [decSt_e, decWqs_e]
theorem sgN_e (ws : List WdD) (head : Nm) (at_ : Int) (its : List ItemD) (ds : List DfD) (v : Nat) (l z : Int) : sgN (encWqs false ws) head at_ (encIts its) (ds.map encDf) v l z = singleP ⟨ws, head, at_⟩ ⟨its, ds, l, z, v⟩ := by unfold sgN; rw [decSt_e, decWqs_e]
theorem ndN_s (deep : Int) (s : PsD) : ndN deep (encIts s.items) (s.defs.map encDf) s.ver s.left s.size = nodesR deep s := ndN_e _ _ _ _ _ _
theorem bkN_s (kind : Int) (w : PcD) (n deep : Int) (s : PsD) : bkN kind (encWqs false w.words) w.head w.at_ n deep (encIts s.items) (s.defs.map encDf) s.ver s.left s.size = blockR kind w n.toNat deep s := bkN_e _ _ _ _ _ _ _ _ _ _ _
def okU (U : Obj3) : Prop := ∃ a b : Int, U = (.var [nilList], .var [.int .i64 a], .var [.int .i64 b])
def okG (G : Heap) : Prop := ∀ t n, G[0]? ≠ some (.note t n)
def encX (U : Obj3) (s : PsD) : PsX := PsX.mk U.1 U.2.1 U.2.2 (encIts s.items) (s.defs.map encDf) s.ver s.left s.size
def okX (m : Nat) (x : PsX) : Prop := ∃ U s, x = encX U s ∧ okS s ∧ s.items.length < m ∧ okU U
def okNd (m : Nat) (a : NdA) : Prop := okX m a.x ∧ okG a.G ∧ 0 ≤ a.deep ∧ a.deep ≤ 100
def okBk (m : Nat) (a : BkA) : Prop := okX m a.x ∧ okG a.G ∧ (∃ l, a.ws = encWqs false l ∧ okPc ⟨l, a.head, a.at_⟩ ∧ 0 ≤ a.n ∧ a.n.toNat ≤ l.length) ∧ 0 ≤ a.deep ∧ a.deep ≤ 100
def okSg (a : SgA) : Prop := (∃ m, okX m a.x) ∧ okG a.G ∧ ∃ l, a.ws = encWqs false l ∧ okPc ⟨l, a.head, a.at_⟩
def okDf (m : Nat) (a : SgA) : Prop := (∃ U s, a.x = encX U s ∧ okS s ∧ s.items.length < m ∧ okU U ∧ s.defs.length + s.items.length + 1 ≤ 65536) ∧ okG a.G ∧ ∃ l, a.ws = encWqs false l ∧ okPc ⟨l, a.head, a.at_⟩
theorem okG_nil : okG [] := fun t n h => by simp at h
theorem bk_res (m : Nat) (U : Obj3) (hU : okU U) (s : PsD) (hs : okS s) (hm : s.items.length < m + 1) (kind : Int) (w : PcD) (hw : okPc w) (n : Nat) (hn : n ≤ w.words.length) (deep : Int) (hd0 : 0 ≤ deep) (hd1 : deep ≤ 100) (k : Out → Ans) :
 iFun Tryz.prog ((layBk (okNd (m + 1)) (okBk m)).hd Tryz.prog) (layBk (okNd (m + 1)) (okBk m)).fhs 0 25 [.ptr (.hp 4) 0, .int .i64 kind, .agg (encPc w), .int .i64 (n : Int), .int .i64 deep] (hpS U s) k = pOut (blockR kind w n deep s) ndV (hpS U) k := by
 refine (bk_fun (okNd (m + 1)) (okBk m) U.1 U.2.1 U.2.2 (encIts s.items) (s.defs.map encDf) s.ver s.left s.size kind w n deep k).trans ?_
 have pn := par_tst hw n (.int .i64 w.at_)
 have dn := drop_enc w.words n (n : Int) hn rfl
 rw [blockR_eq, pOut_then]
 have hst := stp_count hs w.at_
 unfold countP at hst ⊢
 by_cases hc : s.size < 1024
 case neg => simp only [dF hc, Bool.not_false, cond_true, cond_false]; rfl
 have hsz : 0 ≤ s.size := hs.2.2.1
 have ew : IntKind.i64.wrap (s.size + 1) = s.size + 1 := wrap_of (by omega) (by omega)
 have ed : IntKind.i64.wrap (deep + 1) = deep + 1 := wrap_of (by omega) (by omega)
 rw [dT hc] at hst
 simp only [cond_true] at hst
 have hs1 := hst.1
 have hle : ∀ t : PsD, t = { s with size := s.size + 1 } → t.items.length = s.items.length := fun t e => by rw [e]
 generalize hs1e : (psOk () { s with size := s.size + 1 }).s = s1 at hst hs1
 have hs1f : s1 = { s with size := s.size + 1 } := hs1e.symm
 have hit : s1.items.length = s.items.length := hle s1 hs1f
 have eN : ndN (deep + 1) (encIts s.items) (s.defs.map encDf) s.ver s.left (s.size + 1) = nodesR (deep + 1) s1 := by rw [ndN_e, hs1f]
 simp only [dT hc, Bool.not_true, cond_false, cond_true, ew, ed, dn, parE_enc, parV_enc, parA_enc, pn, eN, dT (show (n : Int) ≤ (w.words.length : Int) by omega), dT (show (w.words.length : Int) ≤ (w.words.length : Int) by omega), Bool.and_self]
 show _ = pOut ((pipeP w n { s with size := s.size + 1 }).andThen nd0 _) ndV (hpS U) k
 rw [← hs1f]
 rw [pOut_then]
 unfold pipeP
 cases hp : (parR (w.words.drop n) w.at_).2.2 == 0 with
 | false => rw [hs1f]; simp only [Bool.not_false, cond_true, cond_false]; rfl
 | true =>
 simp only [Bool.not_true, cond_false, cond_true]
 show _ = pOut (bif decide (deep < 16) then _ else _ : PRes NdD) ndV (hpS U) k
 by_cases h16 : deep < 16
 case neg => simp only [dF h16, Bool.not_false, cond_true, cond_false]; rw [hs1f]; rfl
 have tN : tst (okNd (m + 1) (NdA.mk (PsX.mk U.1 U.2.1 U.2.2 (encIts s.items) (s.defs.map encDf) s.ver s.left (s.size + 1)) [] (deep + 1)) ∧ SubL [AVal.ptr (Oid.hp 4) 0, AVal.int .i64 (deep + 1)] [AVal.ptr (Oid.hp 4) 0, AVal.int .i64 (deep + 1)] ∧ True) = true :=
  tst_true ⟨⟨⟨U, s1, by rw [hs1f]; rfl, hs1, by omega, hU⟩, okG_nil, by show 0 ≤ deep + 1; omega, by show deep + 1 ≤ 100; omega⟩, .refl _, trivial⟩
 simp only [dT h16, Bool.not_true, cond_false, cond_true]
 show _ = pOut ((nodesR (deep + 1) s1).andThen nd0 (elseR kind w (parR (w.words.drop n) w.at_).1 deep)) ndV (hpS U) k
 rw [pOut_then]
 refine cT tN ?_
 have hst2 := stp_nodesR hs1 (deep + 1)
 have hpc := nodesR_pc hs1 (deep + 1)
 have hlt := @nodesR_lt (deep + 1) s1
 generalize nodesR (deep + 1) s1 = r at hst2 hpc hlt
 obtain ⟨rb, ⟨body, e⟩, s2⟩ := r
 simp only at hst2 hpc hlt
 cases rb with
 | some b => rfl
 | none =>
 simp only [Option.isSome_none, cond_false]
 have hs2 := hst2.1
 have hpc := hpc rfl
 have hlt := hlt rfl
 unfold elseR
 have eE : (e.head == [101, 108, 115, 101]) = (e.head == sElse) := rfl
 have eD : (e.head == [101, 110, 100]) = (e.head == sEnd) := rfl
 have h0 : okX (m + 1) (encX U s2) := ⟨U, s2, rfl, hs2, by have := hst2.2.1; omega, hU⟩
 simp only [eE, eD, ndN_s, bkN_s, show Int.toNat 2 = 2 from rfl]
 cases he : e.head == sElse with
 | false =>
  simp only [cond_false, Bool.false_and]
  cases e.head == sEnd <;> rfl
 | true =>
  have hh : e.head ≠ [] := by
   rw [beq_iff_eq] at he; rw [he]; decide
  have hpc := hpc hh
  have hlt := hlt hh
  simp only [cond_true, Bool.true_and]
  by_cases h1 : 1 < e.words.length
  case neg =>
   simp only [dF h1, dF (show ¬ (e.words.length : Int) > 1 by omega), cond_false]
   refine cT (tst_true ⟨⟨h0, okG_nil, by show 0 ≤ deep + 1; omega, by show deep + 1 ≤ 100; omega⟩, .refl _, rfl⟩) ?_
   rw [pOut_then]
   generalize nodesR (deep + 1) s2 = r2
   obtain ⟨rb, ⟨els, e2⟩, s3⟩ := r2
   cases rb with
   | some b => rfl
   | none =>
    have eD : (e2.head == [101, 110, 100]) = (e2.head == sEnd) := rfl
    simp only [Option.isSome_none, cond_false, eD]
    cases e2.head == sEnd <;> rfl
  simp only [dT h1, dT (show (e.words.length : Int) > 1 by omega), dT (show (1 : Int) < (e.words.length : Int) by omega), Bool.true_or, cond_true]
  have eI : ((e.words.getD 1 wd0).text == [105, 102]) = ((e.words.getD 1 wd0).text == sIf) := rfl
  simp only [eI, bif_and]
  cases hk : ((e.words.getD 1 wd0).kind == 1 && (e.words.getD 1 wd0).text == sIf) with
  | false => rfl
  | true =>
   simp only [Bool.not_true, cond_false, cond_true]
   by_cases h17 : deep + 1 < 16
   case neg => simp only [dF h17, Bool.not_false, cond_true, cond_false]; rfl
   simp only [dT h17, Bool.not_true, cond_false, cond_true]
   refine cT (tst_true ⟨⟨⟨U, s2, rfl, hs2, by omega, hU⟩, okG_nil, ⟨e.words, rfl, hpc, by show (0 : Int) ≤ 2; omega, h1⟩, by show 0 ≤ deep + 1; omega, by show deep + 1 ≤ 100; omega⟩, .refl _, rfl⟩) ?_
   rw [pOut_then]
   generalize blockR 3 e 2 (deep + 1) s2 = r2
   obtain ⟨rb, nd, s3⟩ := r2
   cases rb <;> rfl
end Go.Mu
namespace Go.Mu
open Go Go.Proofs
theorem refs_map (ds : List DfD) (v : Nat) : refsO 5 (.arr 2 (ds.map encDf) v) = true := by
 unfold refsO
 rw [List.all_eq_true]
 intro r hr
 obtain ⟨d, _, rfl⟩ := List.mem_map.1 hr
 rfl
theorem refs_hp {U : Obj3} (hU : okU U) (s : PsD) : ∀ x ∈ hpS U s, refsO 5 x = true := by
 intro x hx
 have hx : x ∈ [U.1, U.2.1, U.2.2, .arr 2 (s.defs.map encDf) s.ver, .var [encIts s.items, .own 3 0 (s.defs.map encDf).length s.ver false, .int .i64 s.left, .int .i64 s.size]] := hx
 simp only [List.mem_cons, List.not_mem_nil, or_false] at hx
 obtain ⟨a, b, rfl⟩ := hU
 rcases hx with rfl | rfl | rfl | rfl | rfl
 · rfl
 · rfl
 · rfl
 · exact refs_map _ _
 · rfl
theorem leafR {L : Lay} (h : L.OK Tryz.prog) {f : FuncId} {xs : Vs} {U : Obj3} (hU : okU U) {s t : PsD} {T : Heap} {v : AVal} (hv : refsD 6 5 v = true) (hr : ∀ k, iFun Tryz.prog (L.hd Tryz.prog) L.fhs 0 f xs (hpS U s) k = k (.ret v (hpS U t ++ T))) : CallOK Tryz.prog f xs (hpS U s) (.ret v (hpS U t)) :=
 CallOK.shrink (h.call hr) (Nat.le_refl 5) hv (refs_hp hU t)
theorem leafP {L : Lay} (h : L.OK Tryz.prog) {f : FuncId} {xs : Vs} {U : Obj3} (hU : okU U) {s t : PsD} {T : Heap} {v : AVal} (hv : refsD 6 5 v = true) (hr : ∀ k, iFun Tryz.prog (L.hd Tryz.prog) L.fhs 0 f xs (hpS U s) k = k (.panic v (hpS U t ++ T))) : CallOK Tryz.prog f xs (hpS U s) (.panic v (hpS U t)) :=
 CallOK.shrinkP (h.call hr) (Nat.le_refl 5) hv (refs_hp hU t)
theorem psOk_s {α : Type} (v : α) (s : PsD) : (psOk v s).s = s := rfl
theorem psOk_v {α : Type} (v : α) (s : PsD) : (psOk v s).v = v := rfl
theorem psOk_b {α : Type} (v : α) (s : PsD) : (psOk v s).bad = none := rfl
theorem keyT {F A : (Out → Ans) → Ans} {c : Bool} (key : ∀ k, F k = cond c (A k) none) (h : c = true) : ∀ k, F k = A k := fun k => by rw [key k, h]; rfl
theorem set_enc (ds : List DfD) (i : Nat) (hi : i < ds.length) (b : AVal) (hb : ∃ f n r, b = .list f n r) : (ds.map encDf).set i (((ds.map encDf).getD i []).set 1 b) = (ds.set i (mkDf (ds.getD i df0).name b)).map encDf := by
 obtain ⟨f, n, r, rfl⟩ := hb
 have e : (ds.map encDf).getD i [] = encDf (ds.getD i df0) := by
  simp only [gQ, List.getElem?_map, List.getElem?_eq_getElem hi, Option.map_some, Option.getD_some]
 rw [e, List.map_set]
 rfl
theorem df_any (ds : List DfD) (a b c e : Obj) (v : Nat) (s : Nm) : dxAny (DxA.mk a b c (ds.map encDf) v e s) = ds.any (fun d => d.name == s) := by
 unfold dxAny
 rw [List.any_map]
 rfl
theorem df_call (m : Nat) (U : Obj3) (hU : okU U) (s : PsD) (hs : okS s) (hm : s.items.length < m) (hd : s.defs.length + s.items.length + 1 ≤ 65536) (w : PcD) (hw : okPc w) (hL : (layDf (okNd m)).OK Tryz.prog) :
 ∃ o, (∀ k : Out → Ans, pOut (defineR w s) (fun _ => .tuple []) (hpS U) k = k o) ∧ CallOK Tryz.prog 24 [.ptr (.hp 4) 0, .agg (encPc w)] (hpS U s) o := by
 have key := fun k => df_fun (okNd m) U.1 U.2.1 U.2.2 (encIts s.items) (s.defs.map encDf) s.ver s.left s.size w k
 change ∀ k, iFun Tryz.prog ((layDf (okNd m)).hd Tryz.prog) (layDf (okNd m)).fhs 0 24 [.ptr (.hp 4) 0, .agg (encPc w)] (hpS U s) k = _ at key
 rw [defineR_eq]
 simp only [pOut_then]
 unfold calledP
 by_cases h1 : 1 < w.words.length
 case neg =>
  simp only [dF h1, dF (show ¬ (w.words.length : Int) > 1 by omega), dF (show ¬ (1 : Int) < (w.words.length : Int) by omega), Bool.not_false, Bool.or_true, Bool.false_and, cond_true, cond_false] at key ⊢
  exact ⟨_, fun k => rfl, leafP (T := []) hL hU rfl key⟩
 simp only [dT h1, dT (show (w.words.length : Int) > 1 by omega), dT (show (1 : Int) < (w.words.length : Int) by omega), Bool.true_or, Bool.true_and, cond_true] at key ⊢
 cases hk : (w.words.getD 1 wd0).kind == 5 with
 | false =>
  simp only [hk, Bool.not_false, cond_true, cond_false] at key ⊢
  exact ⟨_, fun k => rfl, leafP (T := []) hL hU rfl key⟩
 | true =>
 simp only [hk, Bool.not_true, cond_true, cond_false] at key ⊢
 generalize hnm : (w.words.getD 1 wd0).text = nm at key ⊢
 cases hn : nameB nm with
 | false =>
  simp only [hn, Bool.not_false, cond_true, cond_false] at key ⊢
  exact ⟨_, fun k => rfl, leafP (T := []) hL hU rfl key⟩
 | true =>
 simp only [hn, Bool.not_true, cond_true, cond_false] at key ⊢
 show ∃ o, (∀ k : Out → Ans, pOut (bif w.words.length == 2 then _ else _ : PRes Unit) (fun _ => .tuple []) (hpS U) k = k o) ∧ _
 have e2 : ((w.words.length : Int) == 2) = (w.words.length == 2) := by
  rw [Bool.eq_iff_iff]; simp only [beq_iff_eq]; omega
 simp only [e2] at key
 cases h2 : w.words.length == 2 with
 | false =>
  simp only [h2, Bool.not_false, cond_true, cond_false] at key ⊢
  exact ⟨_, fun k => rfl, leafP (t := s) (T := [.var [.str nm]]) hL hU rfl key⟩
 | true =>
 simp only [h2, Bool.not_true, cond_true, cond_false] at key ⊢
 replace key := keyT key (tst_true ⟨⟨s.defs, rfl, by omega⟩, .refl _, by trivial, rfl⟩)
 simp only [df_any] at key
 simp only [psOk_s, psOk_v, psOk_b, Option.isSome_none, cond_false]
 cases ha : s.defs.any (fun d => d.name == nm) with
 | true =>
  simp only [ha, cond_true] at key ⊢
  exact ⟨_, fun k => rfl, leafP (t := s) (T := [.var [.str nm]]) hL hU rfl key⟩
 | false =>
 simp only [ha, cond_false] at key ⊢
 have hl : (s.defs.map encDf).length = s.defs.length := List.length_map _
 have g1 : (s.ver == s.ver && (s.defs.map encDf).length == (s.defs.map encDf).length && decide ((2 * ((s.defs.map encDf).length + 1) + 1000) * 40 ≤ 281474976710656) && true) = true := by
  rw [dT (by rw [hl]; omega)]; simp
 replace key := keyT key g1
 have ea : (s.defs.map encDf).append [[AVal.str nm, AVal.list true 0 fun (x : Nat) => []]] = (s.defs ++ [mkDf nm nilList]).map encDf := by
  show s.defs.map encDf ++ _ = _
  rw [List.map_append]
  rfl
 have hs1 : okS { s with defs := s.defs ++ [mkDf nm nilList], ver := s.ver + 1 } := by
  obtain ⟨g1, g2, g3, g4, g5⟩ := hs
  exact ⟨g1, g2, g3, g4, by show (s.defs ++ [mkDf nm nilList]).length + s.items.length ≤ 65536; rw [List.length_append]; simp only [List.length_singleton]; omega⟩
 have hl1 : ({ s with defs := s.defs ++ [mkDf nm nilList], ver := s.ver + 1 } : PsD).defs.length = s.defs.length + 1 := by show (s.defs ++ [mkDf nm nilList]).length = _; rw [List.length_append]; rfl
 have hi1 : ({ s with defs := s.defs ++ [mkDf nm nilList], ver := s.ver + 1 } : PsD).items.length < m := hm
 simp only [ea] at key
 have eN : ndN 1 (encIts s.items) ((s.defs ++ [mkDf nm nilList]).map encDf) (s.ver + 1) s.left s.size = nodesR 1 { s with defs := s.defs ++ [mkDf nm nilList], ver := s.ver + 1 } := ndN_e _ _ _ _ _ _
 simp only [eN] at key
 have eLn : ((s.defs ++ [mkDf nm nilList]).map encDf).length = (s.defs.map encDf).length + 1 := by rw [List.length_map, List.length_map, List.length_append]; rfl
 replace key := keyT key (tst_true ⟨⟨⟨U, _, rfl, hs1, hi1, hU⟩, fun t n => by simp, by show (0 : Int) ≤ 1; omega, by show (1 : Int) ≤ 100; omega⟩, .refl _, by rw [eLn]⟩)
 generalize hs0 : ({ s with defs := s.defs ++ [mkDf nm nilList], ver := s.ver + 1 } : PsD) = s0 at key hs1 hl1 ⊢
 have hst := stp_nodesR hs1 1
 generalize nodesR 1 s0 = r at key hst ⊢
 obtain ⟨rb, ⟨body, e⟩, s2⟩ := r
 cases rb with
 | some b =>
  simp only [Option.isSome_some, cond_true] at key
  exact ⟨_, fun k => rfl, leafP (t := s2) (T := [.var [.str nm]]) hL hU rfl key⟩
 | none =>
 simp only [Option.isSome_none, cond_false] at key
 have eD : (e.head == [101, 110, 100]) = (e.head == sEnd) := rfl
 simp only [eD] at key
 have hlen : s.defs.length < s2.defs.length := by
  have := hst.2.2.1
  rw [hl1] at this
  exact this
 show ∃ o, (∀ k : Out → Ans, pOut (bif e.head == sEnd then _ else _ : PRes Unit) (fun _ => .tuple []) (hpS U) k = k o) ∧ _
 cases he : e.head == sEnd with
 | false =>
  simp only [he, Bool.not_false, cond_true] at key
  exact ⟨_, fun k => rfl, leafP (t := s2) (T := [.var [.str nm]]) hL hU rfl key⟩
 | true =>
  simp only [he, Bool.not_true, cond_false] at key
  have hl2 : (s2.defs.map encDf).length = s2.defs.length := List.length_map _
  have c1 : (s2.ver == s2.ver && true && decide (((s.defs.map encDf).length : Int) < ((s2.defs.map encDf).length : Int))) = true := by rw [hl, hl2, dT (by omega)]; simp
  have c2 : (s2.ver == s2.ver) = true := by simp
  have c3 : (s2.ver == s2.ver && decide (0 + ((s.defs.map encDf).length : Int).toNat < (s2.defs.map encDf).length) && true) = true := by rw [hl, hl2, Int.toNat_natCast, dT (by omega)]; simp
  replace key := keyT (keyT (keyT key c1) c2) c3
  have e0 : 0 + ((s.defs.map encDf).length : Int).toNat = s.defs.length := by rw [hl, Int.toNat_natCast]; omega
  simp only [e0] at key
  have e5 := set_enc s2.defs s.defs.length hlen (bodyV body) ⟨_, _, _, rfl⟩
  have e6 : (s2.defs.map encDf).length = ((s2.defs.set s.defs.length (mkDf (s2.defs.getD s.defs.length df0).name (bodyV body))).map encDf).length := by rw [List.length_map, List.length_map, List.length_set]
  refine ⟨_, fun k => rfl, leafR (t := { s2 with defs := s2.defs.set s.defs.length (mkDf (s2.defs.getD s.defs.length df0).name (bodyV body)) }) (T := [.var [.str nm]]) hL hU rfl (fun k => (key k).trans ?_)⟩
  refine congrArg k (congrArg (Out.ret _) ?_)
  show _ = [U.1, U.2.1, U.2.2, Obj.arr 2 ((s2.defs.set s.defs.length (mkDf (s2.defs.getD s.defs.length df0).name (bodyV body))).map encDf) s2.ver, Obj.var [encIts s2.items, AVal.own 3 0 ((s2.defs.set s.defs.length (mkDf (s2.defs.getD s.defs.length df0).name (bodyV body))).map encDf).length s2.ver false, .int .i64 s2.left, .int .i64 s2.size], .var [.str nm]]
  rw [← e6, ← e5]
end Go.Mu
namespace Go.Mu
open Go Go.Proofs
def ndOV (out : List NdD) : AVal := match out with
 | [] => nilList
 | c :: t => .own 5 0 ((c :: t).map encNd).length t.length false
def ndOG (out : List NdD) : Heap := match out with
 | [] => []
 | c :: t => [.arr 9 ((c :: t).map encNd) t.length]
theorem ndOV_snoc (out : List NdD) (n : NdD) : ndOV (out ++ [n]) = .own 5 0 ((out.map encNd).length + 1) out.length false := by
 cases out with
 | nil => rfl
 | cons c t =>
  show AVal.own 5 0 ((c :: (t ++ [n])).map encNd).length (t ++ [n]).length false = _
  simp only [List.length_map, List.length_cons, List.length_append, List.length_singleton]
  rfl
theorem ndOG_snoc (out : List NdD) (n : NdD) : ndOG (out ++ [n]) = [.arr 9 ((out.map encNd).append [encNd n]) out.length] := by
 cases out with
 | nil => rfl
 | cons c t =>
  show [Obj.arr 9 ((c :: (t ++ [n])).map encNd) (t ++ [n]).length] = _
  simp only [List.map_cons, List.map_append, List.length_append, List.length_singleton]
  rfl
def oneR (deep : Int) (out : List NdD) (x : ItemD) (s : PsD) : LoopR :=
 bif x.kind == 1 then (textP out x s).andThen (out, none) fun o s => psOk (o, none) s
 else (wordsP x s).andThen (out, none) fun w s =>
  bif w.head == sEnd || w.head == sElse then
   (bif decide (deep > 0) && (w.head == sElse || w.words.length == 1) then psOk (out, some w) s else psBad (out, none) w.at_ 33 s)
  else bif w.head == sDefine then
   (bif decide (deep = 0) then (defineR w s).andThen (out, none) fun _ s => psOk (out, none) s else psBad (out, none) w.at_ 33 s)
  else bif decide (kindN w.head ≥ 0) then
   (blockR (3 + kindN w.head) w 1 deep s).andThen (out, none) fun n s => psOk (out ++ [n], none) s
  else (singleP w s).andThen (out, none) fun n s => psOk (out ++ [n], none) s
def okNl (m : Nat) (a : NdA) : Prop := okX (m + 1) a.x ∧ 0 ≤ a.deep ∧ a.deep ≤ 100
noncomputable abbrev ndTurn (m : Nat) := lturn Tryz.prog (layN0 (okDf m) okSg (okBk m)) (ndFH (okNl m)) 13 2 [0,1,5,6] [5] [0,1,4,5,6] [5]
def stN (U : Obj3) (deep : Int) (out : List NdD) (s : PsD) (D : Dfs) : St := stL 109 [0,1,5,6] [.ptr (.hp 4) 0, .int .i64 deep, .ptr (.tmp 5) 0, ndOV out] [5] [pcZ] (hpS U s ++ ndOG out) D
abbrev FK := List (FuncId × Vs) → Kont → Ans
def RndOk (U : Obj3) (deep : Int) (F : FK) (r : LoopR) : Prop := match r.bad with
 | some b => ∃ vs, SubTL vs (vsP deep) ∧ ∀ D k, F D k = k (.panic (fltS b.1 b.2)) (stL 109 [0,1,4,5,6] vs [5] [[]] (hpS U r.s ++ ndOG r.v.1) D)
 | none => match r.v.2 with
  | some w => ∀ D k, F D k = k .ret (stL 109 [0,1,4,5,6] [.ptr (.hp 4) 0, .int .i64 deep, ndOV r.v.1, .ptr (.tmp 5) 0, ndOV r.v.1] [5] [encPc w] (hpS U r.s ++ ndOG r.v.1) D)
  | none => ∀ D k, F D k = k .normal (stN U deep r.v.1 r.s D)
theorem rnd_bad {U : Obj3} {deep : Int} {F : FK} {out : List NdD} {a e : Int} {s : PsD} {vs : Vs} (h : SubTL vs (vsP deep)) (key : ∀ D k, F D k = k (.panic (fltS a e)) (stL 109 [0,1,4,5,6] vs [5] [[]] (hpS U s ++ ndOG out) D)) : RndOk U deep F (psBad (out, none) a e s) := ⟨vs, h, key⟩
theorem rnd_some {α : Type} {U : Obj3} {deep : Int} {F : FK} {out : List NdD} {r : PRes α} {f : α → PsD → LoopR} {b : Int × Int} {vs : Vs} (hb : r.bad = some b) (h : SubTL vs (vsP deep)) (key : ∀ D k, F D k = k (.panic (fltS b.1 b.2)) (stL 109 [0,1,4,5,6] vs [5] [[]] (hpS U r.s ++ ndOG out) D)) : RndOk U deep F (r.andThen (out, none) f) := by
 unfold PRes.andThen
 rw [hb]
 exact ⟨vs, h, key⟩
theorem rnd_none {α : Type} {U : Obj3} {deep : Int} {F : FK} {out : List NdD} {r : PRes α} {f : α → PsD → LoopR} (hb : r.bad = none) (h : RndOk U deep F (f r.v r.s)) : RndOk U deep F (r.andThen (out, none) f) := by
 rw [at_ok hb]; exact h
theorem keyD {F A : FK} {c : Bool} (key : ∀ D k, F D k = cond c (A D k) none) (h : c = true) : ∀ D k, F D k = A D k := fun D k => by rw [key D k, h]; rfl
theorem its_tail (x : ItemD) (r : List ItemD) : (AVal.list false (((x :: r).length : Int) - 1).toNat fun (i : Nat) => encItem ((x :: r).getD (Int.toNat 1 + i) it0)) = encIts r := by
 have e1 : (((x :: r).length : Int) - 1).toNat = r.length := by rw [List.length_cons]; omega
 rw [e1]
 congr 1
 funext i
 rw [show Int.toNat 1 + i = i + 1 from Nat.add_comm _ _]
 rfl
theorem kind_idx (h : Nm) : idxS (decL decS (AVal.list true 3 fun i => [[AVal.str [105, 102]], [AVal.str [114, 97, 110, 103, 101]], [AVal.str [119, 105, 116, 104]]].getD i [])) h = kindN h := by
 have e : decL decS (AVal.list true 3 fun i => [[AVal.str [105, 102]], [AVal.str [114, 97, 110, 103, 101]], [AVal.str [119, 105, 116, 104]]].getD i []) = [sIf, sRange, sWith] := rfl
 rw [e]
 unfold idxS kindN
 simp only [List.any_cons, List.any_nil, List.findIdx_cons, List.findIdx_nil, Bool.or_false]
 cases h == sIf <;> cases h == sRange <;> cases h == sWith <;> rfl
theorem kind_sub (v : AVal) : SubL [AVal.list true 3 (fun (i : Nat) => [[AVal.str [105, 102]], [AVal.str [114, 97, 110, 103, 101]], [AVal.str [119, 105, 116, 104]]].getD i []), v]
 [ssL true (decL decS (AVal.list true 3 fun i => [[AVal.str [105, 102]], [AVal.str [114, 97, 110, 103, 101]], [AVal.str [119, 105, 116, 104]]].getD i [])), v] := by
 have e : decL decS (AVal.list true 3 fun i => [[AVal.str [105, 102]], [AVal.str [114, 97, 110, 103, 101]], [AVal.str [119, 105, 116, 104]]].getD i []) = [sIf, sRange, sWith] := rfl
 rw [e]
 refine .cons ?_ (.refl _)
 show Sub (.list true 3 _) (.list true 3 _)
 refine Sub.list (fun h => h) (fun i hi => ?_)
 match i, hi with
 | 0, _ => exact .refl _
 | 1, _ => exact .refl _
 | 2, _ => exact .refl _
theorem ndOV_set (c : NdD) (t : List NdD) (i : Nat) (n : NdD) : ndOV ((c :: t).set i n) = .own 5 0 ((c :: t).map encNd).length t.length false := by
 cases i with
 | zero => rfl
 | succ j =>
  show AVal.own 5 0 ((c :: t.set j n).map encNd).length (t.set j n).length false = _
  simp only [List.length_map, List.length_cons, List.length_set]
theorem ndOG_set (c : NdD) (t : List NdD) (i : Nat) (n : NdD) : ndOG ((c :: t).set i n) = [.arr 9 (((c :: t).map encNd).set i (encNd n)) t.length] := by
 cases i with
 | zero => rfl
 | succ j =>
  show [Obj.arr 9 ((c :: t.set j n).map encNd) (t.set j n).length] = _
  simp only [List.length_set, List.map_cons, List.set_cons_succ, List.map_set]
theorem kindN_le (h : Nm) : -1 ≤ kindN h ∧ kindN h ≤ 2 := by
 unfold kindN
 cases h == sIf
 · cases h == sRange
   · cases h == sWith <;> simp
   · simp
 · simp
theorem wdN_eq (x : ItemD) (s : PsD) : (wordsP x s).bad = (wdN x).bad ∧ (wordsP x s).v = (wdN x).v := by
 unfold wdN wordsP
 cases wdsE x == 0
 · exact ⟨rfl, rfl⟩
 · cases decide (0 < (wdsL x).length) <;> exact ⟨rfl, rfl⟩
def OkOut (out : List NdD) (L : Nat) : Prop := out.length + L ≤ 65536 ∧ ∀ n ∈ out, n.text.length + 16384 * L ≤ 1073741824
abbrev CtxN (m : Nat) (U : Obj3) (s : PsD) (x : ItemD) (r : List ItemD) (deep : Int) : Prop := okU U ∧ okS s ∧ s.items = x :: r ∧ r.length < m ∧ 0 ≤ deep ∧ deep ≤ 100
theorem nd_rd0 (m : Nat) (U : Obj3) (s : PsD) (x : ItemD) (r : List ItemD) (deep : Int) (hc : CtxN m U s x r deep) : RndOk U deep (fun D k => ndTurn m (stN U deep [] s D) k) (oneR deep [] x { s with items := r }) := by
 obtain ⟨hU, hs, e, hm, hd0, hd1⟩ := hc
 obtain ⟨hs1, hx, hdf⟩ := okS_pop hs e
 have key := fun D k => nd_step0 (okNl m) (okDf m) okSg (okBk m) U.1 U.2.1 U.2.2 s.items (s.defs.map encDf) s.ver s.left s.size deep D k
 change ∀ D k, ndTurn m (stN U deep [] s D) k = _ at key
 have hlen : (s.items.length : Int) = (r.length : Int) + 1 := by rw [e]; simp
 have e0 : s.items.getD 0 it0 = x := by rw [e]; rfl
 have eT : (AVal.list false ((s.items.length : Int) - 1).toNat fun (i : Nat) => encItem (s.items.getD (Int.toNat 1 + i) it0)) = encIts r := by rw [e]; exact its_tail x r
 simp only [e0, eT, dT (show (s.items.length : Int) > 0 by omega), dT (show (0 : Int) < (s.items.length : Int) by omega), dT (show (1 : Int) ≤ (s.items.length : Int) by omega), dT (show (s.items.length : Int) ≤ (s.items.length : Int) by omega), Bool.and_self, cond_true, kind_idx] at key
 have hsz0 : 0 ≤ s.size := hs.2.2.1
 unfold oneR
 cases hk : x.kind == 1 with
 | true =>
  simp only [hk, cond_true] at key ⊢
  unfold textP
  simp only [List.length_nil, dF (show ¬ 0 < 0 by omega), Bool.false_and, cond_false]
  unfold countP
  by_cases hcz : s.size < 1024
  case neg =>
   simp only [dF hcz, Bool.not_false, cond_true, cond_false] at key ⊢
   exact rnd_bad (.refl _) key
  have ew : IntKind.i64.wrap (s.size + 1) = s.size + 1 := wrap_of (by omega) (by omega)
  simp only [dT hcz, Bool.not_true, cond_true, cond_false, ew] at key ⊢
  exact key
 | false =>
 simp only [hk, cond_false] at key ⊢
 have hxE : ItemD.mk x.kind x.text x.at_ = x := rfl
 simp only [hxE] at key
 replace key := keyD key (tst_true ⟨hx, .refl _, by trivial⟩)
 obtain ⟨hw1, hw2⟩ := wdN_eq x { s with items := r }
 have hw3 : (wordsP x { s with items := r }).s = { s with items := r } := words_it _ _
 cases hwb : (wdN x).bad with
 | some b =>
  simp only [hwb, Option.isSome_some, cond_true, Option.getD_some] at key
  exact rnd_some (hw1.trans hwb) (.cons (.refl _) (.cons (.refl _) (.cons (.refl _) (.cons (.refl _) (.cons (.undef _) .nil))))) (fun D k => (key D k).trans (by rw [hw3]; rfl))
 | none =>
 have hwp := words_ok hx (s := { s with items := r }) (hw1.trans hwb)
 refine rnd_none (hw1.trans hwb) ?_
 rw [hw2, hw3] at *
 simp only [hwb, Option.isSome_none, cond_false] at key
 generalize (wdN x).v = w at key hwp ⊢
 replace key := keyD key (tst_true ⟨by decide, kind_sub _, by trivial⟩)
 have eE : (w.head == [101, 108, 115, 101]) = (w.head == sElse) := rfl
 have eN : (w.head == [101, 110, 100]) = (w.head == sEnd) := rfl
 have eD : (w.head == [100, 101, 102, 105, 110, 101]) = (w.head == sDefine) := rfl
 have el : ((w.words.length : Int) == 1) = (w.words.length == 1) := by
  rw [Bool.eq_iff_iff]; simp only [beq_iff_eq]; omega
 simp only [eE, eN, eD, el, bif_or, bif_and] at key
 cases he : (w.head == sEnd || w.head == sElse) with
 | true =>
  simp only [he, cond_true] at key ⊢
  cases h1 : (decide (deep > 0) && (w.head == sElse || w.words.length == 1)) with
  | false =>
   simp only [h1, Bool.not_false, cond_true, cond_false] at key ⊢
   exact rnd_bad (.cons (.refl _) (.cons (.refl _) (.cons (.refl _) (.cons (.refl _) (.cons (.undef _) .nil))))) key
  | true =>
   simp only [h1, Bool.not_true, cond_true, cond_false] at key ⊢
   exact key
 | false =>
 simp only [he, cond_false] at key ⊢
 cases hde : w.head == sDefine with
 | true =>
  simp only [hde, cond_true] at key ⊢
  have ed : (deep == 0) = decide (deep = 0) := by
   rw [Bool.eq_iff_iff]; simp only [beq_iff_eq, decide_eq_true_eq]
  simp only [ed] at key
  cases h0 : decide (deep = 0) with
  | false =>
   simp only [h0, Bool.not_false, cond_true, cond_false] at key ⊢
   exact rnd_bad (.cons (.refl _) (.cons (.refl _) (.cons (.refl _) (.cons (.refl _) (.cons (.undef _) .nil))))) key
  | true =>
   simp only [h0, Bool.not_true, cond_true, cond_false] at key ⊢
   replace key := keyD key (tst_true ⟨⟨⟨U, { s with items := r }, rfl, hs1.1, hm, hU, hdf⟩, okG_nil, w.words, rfl, hwp⟩, .refl _, by first | trivial | rfl⟩)
   have eF : dfN (encWqs false w.words) w.head w.at_ (encIts r) (s.defs.map encDf) s.ver s.left s.size = defineR w { s with items := r } := dfN_e _ _ _ _ _ _ _ _
   simp only [eF] at key
   generalize hr : defineR w { s with items := r } = q at key ⊢
   cases hq : q.bad with
   | some b =>
    simp only [hq, Option.isSome_some, cond_true, Option.getD_some] at key
    exact rnd_some hq (.cons (.refl _) (.cons (.refl _) (.cons (.refl _) (.cons (.refl _) (.cons (.undef _) .nil))))) key
   | none =>
    simp only [hq, Option.isSome_none, cond_false] at key
    exact rnd_none hq key
 | false =>
 simp only [hde, cond_false] at key ⊢
 obtain ⟨k0, k1⟩ := kindN_le w.head
 have ew : IntKind.i64.wrap (3 + kindN w.head) = 3 + kindN w.head := wrap_of (by omega) (by omega)
 simp only [ew] at key
 cases hkd : decide (kindN w.head ≥ 0) with
 | true =>
  simp only [hkd, cond_true] at key ⊢
  replace key := keyD key (tst_true ⟨⟨⟨U, { s with items := r }, rfl, hs1.1, hm, hU⟩, okG_nil, ⟨w.words, rfl, hwp, by show (0 : Int) ≤ 1; omega, hwp.1⟩, hd0, hd1⟩, .refl _, by first | trivial | rfl⟩)
  have eF : bkN (3 + kindN w.head) (encWqs false w.words) w.head w.at_ 1 deep (encIts r) (s.defs.map encDf) s.ver s.left s.size = blockR (3 + kindN w.head) w 1 deep { s with items := r } := bkN_e _ _ _ _ _ _ _ _ _ _ _
  simp only [eF] at key
  generalize hr : blockR (3 + kindN w.head) w 1 deep { s with items := r } = q at key ⊢
  obtain ⟨qb, nd, s2⟩ := q
  cases qb with
  | some b =>
   exact rnd_some rfl (.cons (.refl _) (.cons (.refl _) (.cons (.refl _) (.cons (.refl _) (.cons (.undef _) .nil))))) key
  | none =>
   refine rnd_none rfl ?_
   exact fun D k => (key D k).trans (by rw [show (psOk ([] ++ [nd], (none : Option PcD)) s2).v.1 = [] ++ [nd] from rfl]; unfold stN; rw [ndOV_snoc, ndOG_snoc]; rfl)
 | false =>
  simp only [hkd, cond_false] at key ⊢
  replace key := keyD key (tst_true ⟨⟨⟨m, U, { s with items := r }, rfl, hs1.1, hm, hU⟩, okG_nil, w.words, rfl, hwp⟩, .refl _, by first | trivial | rfl⟩)
  have eF : sgN (encWqs false w.words) w.head w.at_ (encIts r) (s.defs.map encDf) s.ver s.left s.size = singleP w { s with items := r } := sgN_e _ _ _ _ _ _ _ _
  simp only [eF] at key
  generalize hr : singleP w { s with items := r } = q at key ⊢
  obtain ⟨qb, nd, s2⟩ := q
  cases qb with
  | some b =>
   exact rnd_some rfl (.cons (.refl _) (.cons (.refl _) (.cons (.refl _) (.cons (.refl _) (.cons (.undef _) .nil))))) key
  | none =>
   refine rnd_none rfl ?_
   exact fun D k => (key D k).trans (by rw [show (psOk ([] ++ [nd], (none : Option PcD)) s2).v.1 = [] ++ [nd] from rfl]; unfold stN; rw [ndOV_snoc, ndOG_snoc]; rfl)
theorem nd_rd1 (m : Nat) (U : Obj3) (s : PsD) (x : ItemD) (r : List ItemD) (deep : Int) (hc : CtxN m U s x r deep) (c : NdD) (t : List NdD) (ho : OkOut (c :: t) (r.length + 1)) : RndOk U deep (fun D k => ndTurn m (stN U deep (c :: t) s D) k) (oneR deep (c :: t) x { s with items := r }) := by
 obtain ⟨hU, hs, e, hm, hd0, hd1⟩ := hc
 obtain ⟨hs1, hx, hdf⟩ := okS_pop hs e
 have key := fun D k => nd_step1 (okNl m) (okDf m) okSg (okBk m) U.1 U.2.1 U.2.2 s.items (s.defs.map encDf) s.ver s.left s.size deep ((c :: t).map encNd) t.length D k
 change ∀ D k, ndTurn m (stN U deep (c :: t) s D) k = _ at key
 have hlen : (s.items.length : Int) = (r.length : Int) + 1 := by rw [e]; simp
 have e0 : s.items.getD 0 it0 = x := by rw [e]; rfl
 have eT : (AVal.list false ((s.items.length : Int) - 1).toNat fun (i : Nat) => encItem (s.items.getD (Int.toNat 1 + i) it0)) = encIts r := by rw [e]; exact its_tail x r
 simp only [e0, eT, dT (show (s.items.length : Int) > 0 by omega), dT (show (0 : Int) < (s.items.length : Int) by omega), dT (show (1 : Int) ≤ (s.items.length : Int) by omega), dT (show (s.items.length : Int) ≤ (s.items.length : Int) by omega), Bool.and_self, cond_true, kind_idx] at key
 have hsz0 : 0 ≤ s.size := hs.2.2.1
 unfold oneR
 cases hk : x.kind == 1 with
 | true =>
  simp only [hk, cond_true] at key ⊢
  have hn : ((c :: t).map encNd).length = t.length + 1 := by simp
  have hj : (t.length : Int) + 1 - 1 = (t.length : Int) := by omega
  have ho1 := ho.1
  simp only [List.length_cons] at ho1
  have ewn : IntKind.i64.wrap (((c :: t).map encNd).length - 1 : Int) = (t.length : Int) := by
   rw [hn]
   have : ((t.length + 1 : Nat) : Int) - 1 = (t.length : Int) := by omega
   rw [this]
   exact wrap_of (by omega) (by omega)
  have eget : ((c :: t).map encNd).getD t.length [] = encNd (lastN (c :: t)) := by
   unfold lastN
   have hi : t.length < (c :: t).length := Nat.lt_succ_self _
   simp only [gQ, List.getElem?_map, List.length_cons, Nat.add_sub_cancel, List.getElem?_eq_getElem hi, Option.map_some, Option.getD_some]
  have hmem : lastN (c :: t) ∈ c :: t := by
   unfold lastN
   have hi : (c :: t).length - 1 < (c :: t).length := by simp
   simp only [gQ, List.getElem?_eq_getElem hi, Option.getD_some]
   exact List.getElem_mem hi
  have hbt := ho.2 _ hmem
  have d1 : decide ((0 : Int) ≤ (t.length : Int)) = true := dT (by omega)
  have d2 : decide ((t.length : Int) < (((c :: t).map encNd).length : Int)) = true := dT (by rw [hn]; omega)
  have d3 : decide ((t.length : Int) ≥ 0) = true := dT (by omega)
  have d4 : decide (t.length < ((c :: t).map encNd).length) = true := dT (by rw [hn]; omega)
  have ez : 0 + (t.length : Int).toNat = t.length := by omega
  simp only [ewn, ez, eget, d1, d2, d3, d4, beq_self_eq_true, Bool.and_self, Bool.true_and, Bool.and_true, Bool.true_or, cond_true] at key
  generalize hln : lastN (c :: t) = ln at *
  change ∀ D k, _ = cond (cond true (ln.kind == 1) false) _ _ at key
  simp only [cond_true] at key
  unfold textP
  simp only [hln, List.length_cons, dT (show 0 < t.length + 1 by omega), Bool.true_and]
  cases hk1 : ln.kind == 1 with
  | true =>
   simp only [hk1, cond_true] at key ⊢
   have hlx := hx.1
   have e5 : strOf ((encNd ln).getD 1 AVal.undef) = ln.text := rfl
   have hlt : decide (ln.text.length + x.text.length ≤ 4611686018427387904) = true := dT (by omega)
   replace key := keyD (keyD key rfl) hlt
   refine fun D k => (key D k).trans ?_
   show _ = k .normal (stN U deep ((c :: t).set (t.length + 1 - 1) { ln with text := ln.text ++ x.text }) { s with items := r } D)
   unfold stN
   rw [ndOV_set, ndOG_set]
   rfl
  | false =>
  simp only [hk1, cond_false] at key ⊢
  unfold countP
  by_cases hcz : s.size < 1024
  case neg =>
   simp only [dF hcz, Bool.not_false, cond_true, cond_false] at key ⊢
   exact rnd_bad (.refl _) key
  have ew : IntKind.i64.wrap (s.size + 1) = s.size + 1 := wrap_of (by omega) (by omega)
  simp only [dT hcz, Bool.not_true, cond_true, cond_false, ew] at key ⊢
  replace key := keyD key (show decide ((2 * (((c :: t).map encNd).length + 1) + 1000) * 136 ≤ 281474976710656) = true from dT (by rw [hn]; omega))
  refine fun D k => (key D k).trans ?_
  show _ = k .normal (stN U deep ((c :: t) ++ [mkNd 1 x.text [] nilList nilList nilList x.at_]) { s with items := r, size := s.size + 1 } D)
  unfold stN
  rw [ndOV_snoc, ndOG_snoc]
  rfl
 | false =>
 simp only [hk, cond_false] at key ⊢
 have hxE : ItemD.mk x.kind x.text x.at_ = x := rfl
 simp only [hxE] at key
 replace key := keyD key (tst_true ⟨hx, .refl _, by trivial⟩)
 obtain ⟨hw1, hw2⟩ := wdN_eq x { s with items := r }
 have hw3 : (wordsP x { s with items := r }).s = { s with items := r } := words_it _ _
 cases hwb : (wdN x).bad with
 | some b =>
  simp only [hwb, Option.isSome_some, cond_true, Option.getD_some] at key
  exact rnd_some (hw1.trans hwb) (.cons (.refl _) (.cons (.refl _) (.cons (.refl _) (.cons (.refl _) (.cons (.undef _) .nil))))) (fun D k => (key D k).trans (by rw [hw3]; rfl))
 | none =>
 have hwp := words_ok hx (s := { s with items := r }) (hw1.trans hwb)
 refine rnd_none (hw1.trans hwb) ?_
 rw [hw2, hw3] at *
 simp only [hwb, Option.isSome_none, cond_false] at key
 generalize (wdN x).v = w at key hwp ⊢
 replace key := keyD key (tst_true ⟨by decide, kind_sub _, by trivial⟩)
 have eE : (w.head == [101, 108, 115, 101]) = (w.head == sElse) := rfl
 have eN : (w.head == [101, 110, 100]) = (w.head == sEnd) := rfl
 have eD : (w.head == [100, 101, 102, 105, 110, 101]) = (w.head == sDefine) := rfl
 have el : ((w.words.length : Int) == 1) = (w.words.length == 1) := by
  rw [Bool.eq_iff_iff]; simp only [beq_iff_eq]; omega
 simp only [eE, eN, eD, el, bif_or, bif_and] at key
 cases he : (w.head == sEnd || w.head == sElse) with
 | true =>
  simp only [he, cond_true] at key ⊢
  cases h1 : (decide (deep > 0) && (w.head == sElse || w.words.length == 1)) with
  | false =>
   simp only [h1, Bool.not_false, cond_true, cond_false] at key ⊢
   exact rnd_bad (.cons (.refl _) (.cons (.refl _) (.cons (.refl _) (.cons (.refl _) (.cons (.undef _) .nil))))) key
  | true =>
   simp only [h1, Bool.not_true, cond_true, cond_false] at key ⊢
   exact key
 | false =>
 simp only [he, cond_false] at key ⊢
 cases hde : w.head == sDefine with
 | true =>
  simp only [hde, cond_true] at key ⊢
  have ed : (deep == 0) = decide (deep = 0) := by
   rw [Bool.eq_iff_iff]; simp only [beq_iff_eq, decide_eq_true_eq]
  simp only [ed] at key
  cases h0 : decide (deep = 0) with
  | false =>
   simp only [h0, Bool.not_false, cond_true, cond_false] at key ⊢
   exact rnd_bad (.cons (.refl _) (.cons (.refl _) (.cons (.refl _) (.cons (.refl _) (.cons (.undef _) .nil))))) key
  | true =>
   simp only [h0, Bool.not_true, cond_true, cond_false] at key ⊢
   replace key := keyD key (tst_true ⟨⟨⟨U, { s with items := r }, rfl, hs1.1, hm, hU, hdf⟩, (fun t n => by simp), w.words, rfl, hwp⟩, .refl _, by first | trivial | rfl⟩)
   have eF : dfN (encWqs false w.words) w.head w.at_ (encIts r) (s.defs.map encDf) s.ver s.left s.size = defineR w { s with items := r } := dfN_e _ _ _ _ _ _ _ _
   simp only [eF] at key
   generalize hr : defineR w { s with items := r } = q at key ⊢
   cases hq : q.bad with
   | some b =>
    simp only [hq, Option.isSome_some, cond_true, Option.getD_some] at key
    exact rnd_some hq (.cons (.refl _) (.cons (.refl _) (.cons (.refl _) (.cons (.refl _) (.cons (.undef _) .nil))))) key
   | none =>
    simp only [hq, Option.isSome_none, cond_false] at key
    exact rnd_none hq key
 | false =>
 simp only [hde, cond_false] at key ⊢
 obtain ⟨k0, k1⟩ := kindN_le w.head
 have ew : IntKind.i64.wrap (3 + kindN w.head) = 3 + kindN w.head := wrap_of (by omega) (by omega)
 simp only [ew] at key
 cases hkd : decide (kindN w.head ≥ 0) with
 | true =>
  simp only [hkd, cond_true] at key ⊢
  replace key := keyD key (tst_true ⟨⟨⟨U, { s with items := r }, rfl, hs1.1, hm, hU⟩, (fun t n => by simp), ⟨w.words, rfl, hwp, by show (0 : Int) ≤ 1; omega, hwp.1⟩, hd0, hd1⟩, .refl _, by first | trivial | rfl⟩)
  have eF : bkN (3 + kindN w.head) (encWqs false w.words) w.head w.at_ 1 deep (encIts r) (s.defs.map encDf) s.ver s.left s.size = blockR (3 + kindN w.head) w 1 deep { s with items := r } := bkN_e _ _ _ _ _ _ _ _ _ _ _
  simp only [eF] at key
  generalize hr : blockR (3 + kindN w.head) w 1 deep { s with items := r } = q at key ⊢
  obtain ⟨qb, nd, s2⟩ := q
  cases qb with
  | some b =>
   exact rnd_some rfl (.cons (.refl _) (.cons (.refl _) (.cons (.refl _) (.cons (.refl _) (.cons (.undef _) .nil))))) key
  | none =>
   refine rnd_none rfl ?_
   have c15 : (t.length == t.length && ((c :: t).map encNd).length == ((c :: t).map encNd).length && decide ((2 * (((c :: t).map encNd).length + 1) + 1000) * 136 ≤ 281474976710656) && true) = true := by
    have hn : ((c :: t).map encNd).length = t.length + 1 := by simp
    have ho1 := ho.1
    simp only [List.length_cons] at ho1
    rw [dT (by rw [hn]; omega)]; simp
   replace key := keyD key c15
   exact fun D k => (key D k).trans (by rw [show (psOk ((c :: t) ++ [nd], (none : Option PcD)) s2).v.1 = (c :: t) ++ [nd] from rfl]; unfold stN; rw [ndOV_snoc, ndOG_snoc]; rfl)
 | false =>
  simp only [hkd, cond_false] at key ⊢
  replace key := keyD key (tst_true ⟨⟨⟨m, U, { s with items := r }, rfl, hs1.1, hm, hU⟩, (fun t n => by simp), w.words, rfl, hwp⟩, .refl _, by first | trivial | rfl⟩)
  have eF : sgN (encWqs false w.words) w.head w.at_ (encIts r) (s.defs.map encDf) s.ver s.left s.size = singleP w { s with items := r } := sgN_e _ _ _ _ _ _ _ _
  simp only [eF] at key
  generalize hr : singleP w { s with items := r } = q at key ⊢
  obtain ⟨qb, nd, s2⟩ := q
  cases qb with
  | some b =>
   exact rnd_some rfl (.cons (.refl _) (.cons (.refl _) (.cons (.refl _) (.cons (.refl _) (.cons (.undef _) .nil))))) key
  | none =>
   refine rnd_none rfl ?_
   have c15 : (t.length == t.length && ((c :: t).map encNd).length == ((c :: t).map encNd).length && decide ((2 * (((c :: t).map encNd).length + 1) + 1000) * 136 ≤ 281474976710656) && true) = true := by
    have hn : ((c :: t).map encNd).length = t.length + 1 := by simp
    have ho1 := ho.1
    simp only [List.length_cons] at ho1
    rw [dT (by rw [hn]; omega)]; simp
   replace key := keyD key c15
   exact fun D k => (key D k).trans (by rw [show (psOk ((c :: t) ++ [nd], (none : Option PcD)) s2).v.1 = (c :: t) ++ [nd] from rfl]; unfold stN; rw [ndOV_snoc, ndOG_snoc]; rfl)
end Go.Mu
namespace Go.Mu
open Go Go.Proofs
theorem piece_one (deep : Int) (out : List NdD) (x : ItemD) (s : PsD) : pieceR deep out x s = match (oneR deep out x s).bad with
 | some _ => oneR deep out x s
 | none => match (oneR deep out x s).v.2 with
  | some _ => oneR deep out x s
  | none => loopR deep (oneR deep out x s).v.1 (oneR deep out x s).s := by
 unfold pieceR oneR
 cases x.kind == 1 with
 | true =>
  simp only [cond_true]
  unfold PRes.andThen
  cases (textP out x s).bad <;> rfl
 | false =>
  simp only [cond_false]
  unfold PRes.andThen
  cases (wordsP x s).bad with
  | some b => rfl
  | none =>
   simp only
   generalize (wordsP x s).v = w
   generalize (wordsP x s).s = s
   cases w.head == sEnd || w.head == sElse with
   | true => cases decide (deep > 0) && (w.head == sElse || w.words.length == 1) <;> rfl
   | false =>
    simp only [cond_false]
    cases w.head == sDefine with
    | true =>
     simp only [cond_true]
     cases decide (deep = 0) with
     | true =>
      simp only [cond_true]
      cases (defineR w s).bad <;> rfl
     | false => rfl
    | false =>
     simp only [cond_false]
     cases decide (kindN w.head ≥ 0) with
     | true =>
      simp only [cond_true]
      cases (blockR (3 + kindN w.head) w 1 deep s).bad <;> rfl
     | false =>
      simp only [cond_false]
      cases (singleP w s).bad <;> rfl
def OneOk (s : PsD) (r : LoopR) : Prop := r.bad = none → r.v.2 = none → okS r.s ∧ r.s.items.length ≤ s.items.length ∧ OkOut r.v.1 r.s.items.length
theorem OkOut.le {out : List NdD} {L M : Nat} (h : OkOut out L) (hm : M ≤ L) : OkOut out M := ⟨by have := h.1; omega, fun n hn => by have := h.2 n hn; omega⟩
theorem OkOut.snoc {out : List NdD} {L : Nat} {n : NdD} (h : OkOut out (L + 1)) (hn : n.text.length + 16384 * L ≤ 1073741824) : OkOut (out ++ [n]) L := by
 refine ⟨by rw [List.length_append]; have := h.1; simp only [List.length_singleton]; omega, fun x hx => ?_⟩
 rw [List.mem_append, List.mem_singleton] at hx
 rcases hx with hx | rfl
 · have := h.2 x hx; omega
 · exact hn
theorem one_then {α : Type} {s : PsD} {r : PRes α} {out : List NdD} {f : α → PsD → LoopR} (h : r.bad = none → OneOk s (f r.v r.s)) : OneOk s (r.andThen (out, none) f) := by
 unfold PRes.andThen
 cases e : r.bad with
 | some b => intro h; simp at h
 | none => exact h e
theorem one_bif {s : PsD} {c : Bool} {a b : LoopR} (h1 : c = true → OneOk s a) (h2 : c = false → OneOk s b) : OneOk s (bif c then a else b) := by
 cases c
 · exact h2 rfl
 · exact h1 rfl
theorem one_bad {s t : PsD} {v : List NdD × Option PcD} {a e : Int} : OneOk s (psBad v a e t) := fun h => by simp [psBad] at h
theorem single_text (w : PcD) (s : PsD) : (singleP w s).v.text = [] := by
 unfold singleP
 have pp : ∀ n (f : List CallD → NdD) (s : PsD), (∀ p, (f p).text = []) → ((pipeP w n s).andThen nd0 fun p s => psOk (f p) s).v.text = [] := fun n f s h => by
  unfold PRes.andThen
  cases (pipeP w n s).bad with
  | some b => rfl
  | none => exact h _
 have bb : ∀ (c : Bool) (a b : PRes NdD), a.v.text = [] → b.v.text = [] → (bif c then a else b).v.text = [] := fun c a b h1 h2 => by cases c <;> assumption
 have aa : ∀ {α : Type} (r : PRes α) (f : α → PsD → PRes NdD), (f r.v r.s).v.text = [] → (r.andThen nd0 f).v.text = [] := fun r f h => by
  unfold PRes.andThen
  cases r.bad with
  | some b => rfl
  | none => exact h
 refine aa _ _ (bb _ _ _ (aa _ _ (bb _ _ _ (pp _ _ _ fun _ => rfl) rfl)) (bb _ _ _ (bb _ _ _ (pp _ _ _ fun _ => rfl) rfl) (pp _ _ _ fun _ => rfl)))
theorem block_text (kind : Int) (w : PcD) (n : Nat) (deep : Int) (s : PsD) : (blockR kind w n deep s).v.text = [] := by
 rw [blockR_eq]
 have bb : ∀ (c : Bool) (a b : PRes NdD), a.v.text = [] → b.v.text = [] → (bif c then a else b).v.text = [] := fun c a b h1 h2 => by cases c <;> assumption
 have aa : ∀ {α : Type} (r : PRes α) (f : α → PsD → PRes NdD), (f r.v r.s).v.text = [] → (r.andThen nd0 f).v.text = [] := fun r f h => by
  unfold PRes.andThen
  cases r.bad with
  | some b => rfl
  | none => exact h
 refine aa _ _ (aa _ _ (bb _ _ _ (aa _ _ ?_) rfl))
 unfold elseR
 exact bb _ _ _ (bb _ _ _ (bb _ _ _ (aa _ _ rfl) rfl) rfl) (bb _ _ _ (aa _ _ (bb _ _ _ rfl rfl)) (bb _ _ _ rfl rfl))
theorem one_ok {deep : Int} {out : List NdD} {x : ItemD} {s : PsD} (hs : okS s) (hx : okIt x) (hd : s.defs.length + s.items.length + 1 ≤ 65536) (ho : OkOut out (s.items.length + 1)) : OneOk s (oneR deep out x s) := by
 have hsm := hs.2.1
 have hxl := hx.1
 unfold oneR
 refine one_bif (fun _ => one_then (fun hb => ?_)) (fun _ => one_then (fun _ => ?_))
 · intro _ _
   have h1 := stp_text hs out x
   refine ⟨h1.1, h1.2.1, ?_⟩
   refine OkOut.le (L := s.items.length) ?_ h1.2.1
   show OkOut (textP out x s).v s.items.length
   unfold textP at hb ⊢
   cases hc : decide (0 < out.length) && (lastN out).kind == 1 with
   | true =>
    simp only [cond_true]
    show OkOut (out.set (out.length - 1) { lastN out with text := (lastN out).text ++ x.text }) s.items.length
    refine ⟨by rw [List.length_set]; have := ho.1; omega, fun n hn => ?_⟩
    rw [Bool.and_eq_true, decide_eq_true_eq] at hc
    have hmem : lastN out ∈ out := by
     unfold lastN
     have hi : out.length - 1 < out.length := by omega
     simp only [gQ, List.getElem?_eq_getElem hi, Option.getD_some]
     exact List.getElem_mem hi
    have hl := ho.2 _ hmem
    rcases List.mem_or_eq_of_mem_set hn with h | rfl
    · have := ho.2 _ h; omega
    · show ((lastN out).text ++ x.text).length + _ ≤ _
      rw [List.length_append]; omega
   | false =>
    rw [hc] at hb
    simp only [cond_false] at hb ⊢
    obtain ⟨_, h2⟩ := at_none hb
    rw [h2]
    exact ho.snoc (by show x.text.length + _ ≤ _; omega)
 · rw [words_it]
   generalize (wordsP x s).v = w
   refine one_bif (fun _ => one_bif (fun _ => fun _ h => by simp [psOk] at h) (fun _ => one_bad)) (fun _ => one_bif (fun _ => one_bif (fun _ => one_then (fun _ => ?_)) (fun _ => one_bad)) (fun _ => one_bif (fun _ => one_then (fun _ => ?_)) (fun _ => one_then (fun _ => ?_))))
   · have h1 := stp_defineR hs hd w
     exact fun _ _ => ⟨h1.1, h1.2.1, ho.le (Nat.le_succ_of_le h1.2.1)⟩
   · have h1 := stp_blockR hs (3 + kindN w.head) w 1 deep
     have ht := block_text (3 + kindN w.head) w 1 deep s
     exact fun _ _ => ⟨h1.1, h1.2.1, (ho.snoc (by rw [ht]; show 0 + _ ≤ _; omega)).le h1.2.1⟩
   · have h1 := stp_single hs w
     have ht := single_text w s
     exact fun _ _ => ⟨h1.1, h1.2.1, (ho.snoc (by rw [ht]; show 0 + _ ≤ _; omega)).le h1.2.1⟩
def ndEnd (U : Obj3) (deep : Int) (r : LoopR) (e : AExit) (ws : Vs) (bs : List Vs) (H : Heap) : Prop := H = hpS U r.s ++ ndOG r.v.1 ∧ match r.bad with
 | some b => e = .panic (fltS b.1 b.2) ∧ ws = vsP deep ∧ bs = [[]]
 | none => match r.v.2 with
  | some w => e = .ret ∧ ws = [.ptr (.hp 4) 0, .int .i64 deep, ndOV r.v.1, .ptr (.tmp 5) 0, ndOV r.v.1] ∧ bs = [encPc w]
  | none => e = .exit 0 ∧ ws = [.ptr (.hp 4) 0, .int .i64 deep, .undef, .ptr (.tmp 5) 0, ndOV r.v.1] ∧ bs = [pcZ]
theorem nd_stop (m : Nat) (U : Obj3) (deep : Int) (out : List NdD) (s : PsD) (e : s.items = []) (D : Dfs) (k : Kont) : ndTurn m (stN U deep out s D) k = k (.exit 0) (stL 109 [0,1,4,5,6] [.ptr (.hp 4) 0, .int .i64 deep, .undef, .ptr (.tmp 5) 0, ndOV out] [5] [pcZ] (hpS U s ++ ndOG out) D) := by
 cases out with
 | nil =>
  refine (nd_step0 (okNl m) (okDf m) okSg (okBk m) U.1 U.2.1 U.2.2 s.items (s.defs.map encDf) s.ver s.left s.size deep D k).trans ?_
  simp only [e, List.length_nil, dF (show ¬ ((0 : Nat) : Int) > 0 by omega), cond_false]
  unfold hpS
  rw [e]
  rfl
 | cons c t =>
  refine (nd_step1 (okNl m) (okDf m) okSg (okBk m) U.1 U.2.1 U.2.2 s.items (s.defs.map encDf) s.ver s.left s.size deep ((c :: t).map encNd) t.length D k).trans ?_
  simp only [e, List.length_nil, dF (show ¬ ((0 : Nat) : Int) > 0 by omega), cond_false]
  unfold hpS
  rw [e]
  rfl
theorem nd_runs (m : Nat) (U : Obj3) (hU : okU U) (deep : Int) (hd0 : 0 ≤ deep) (hd1 : deep ≤ 100) : ∀ (n : Nat) (s : PsD) (out : List NdD), s.items.length ≤ n → s.items.length ≤ m → okS s → OkOut out s.items.length →
 ∃ e vs bs H ws, SubTL vs ws ∧ ndEnd U deep (loopR deep out s) e ws bs H ∧ LoopRuns (ndTurn m) 109 [0,1,5,6] [5] [0,1,4,5,6] [5] [.ptr (.hp 4) 0, .int .i64 deep, .ptr (.tmp 5) 0, ndOV out] [pcZ] (hpS U s ++ ndOG out) e vs bs H
 | n, s, out, hn, hm, hs, ho => by
  cases e : s.items with
  | nil =>
   refine ⟨_, _, _, _, _, .refl _, ?_, LoopRuns.stop (by simp) (fun D k => nd_stop m U deep out s e D k)⟩
   rw [loopR_nil e]
   exact ⟨rfl, rfl, rfl, rfl⟩
  | cons x r =>
   cases n with
   | zero => rw [e] at hn; simp at hn
   | succ n =>
   have hl : s.items.length = r.length + 1 := by rw [e]; rfl
   obtain ⟨hs1, hx, hdf⟩ := okS_pop hs e
   have hc : CtxN m U s x r deep := ⟨hU, hs, e, by omega, hd0, hd1⟩
   have hrd : RndOk U deep (fun D k => ndTurn m (stN U deep out s D) k) (oneR deep out x { s with items := r }) := by
    cases out with
    | nil => exact nd_rd0 m U s x r deep hc
    | cons c t => exact nd_rd1 m U s x r deep hc c t (by rw [hl] at ho; exact ho)
   have hone := one_ok (deep := deep) (out := out) hs1.1 hx hdf (by show OkOut out (r.length + 1); rw [hl] at ho; exact ho)
   rw [loopR_cons e, piece_one]
   revert hrd hone
   generalize oneR deep out x { s with items := r } = q
   intro hrd hone
   obtain ⟨qb, ⟨out2, qw⟩, s2⟩ := q
   cases qb with
   | some b =>
    obtain ⟨vs, h1, h2⟩ := hrd
    exact ⟨_, _, _, _, _, h1, ⟨rfl, rfl, rfl, rfl⟩, LoopRuns.stop (by simp) h2⟩
   | none =>
    cases qw with
    | some w => exact ⟨_, _, _, _, _, .refl _, ⟨rfl, rfl, rfl, rfl⟩, LoopRuns.stop (by simp) hrd⟩
    | none =>
     obtain ⟨g1, g2, g3⟩ := hone rfl rfl
     replace g2 : s2.items.length ≤ r.length := g2
     obtain ⟨e', vs, bs, H, ws, i1, i2, i3⟩ := nd_runs m U hU deep hd0 hd1 n s2 out2 (by omega) (by omega) g1 g3
     exact ⟨e', vs, bs, H, ws, i1, i2, LoopRuns.step hrd i3⟩
end Go.Mu
namespace Go.Mu
open Go Go.Proofs
theorem outK_eq (out : List NdD) (F : AVal → Heap → Ans) : outK out F = F (ndOV out) (ndOG out) := by
 cases out <;> rfl
theorem mkL_okW {α : Type} {turn : St → Kont → Ans} {n : Nat} {l m lx mx : List Nat} {dec : Vs → List Vs → Heap → α} {ok : α → Prop} {ev : α → Vs} {eb : α → List Vs} {eh : α → Heap} {post : α → (AExit → Vs → List Vs → Heap → Ans) → Ans}
 (h : ∀ a, ok a → ∃ e vs bs H ws, SubTL vs ws ∧ (∀ k, post a k = k e ws bs H) ∧ LoopRuns turn n l m lx mx (ev a) (eb a) (eh a) e vs bs H) : SpOK turn n l m lx mx (mkL dec ok ev eb eh post) := by
 intro vs bs H k out ho
 unfold mkL at ho
 rw [Bool.cond_eq_ite] at ho
 split at ho
 case isFalse => simp at ho
 rename_i hc
 obtain ⟨h1, h2, h3, h4⟩ := of_tst hc
 generalize dec vs bs H = a at *
 obtain ⟨e, vs', bs', H', ws, h0, h5, h6⟩ := h a h1
 rw [h5] at ho
 subst h3 h4
 exact ⟨ev a, e, vs', bs', H', ws, h2, h6, h0, ho⟩
theorem ndL_s (deep : Int) (s : PsD) : ndL deep (encIts s.items) (s.defs.map encDf) s.ver s.left s.size = loopR deep [] s := by
 unfold ndL; rw [decSt_e]
theorem ndSp_ok (m : Nat) : SpOK (ndTurn m) 109 [0,1,5,6] [5] [0,1,4,5,6] [5] (ndSp (okNl m)) := mkL_okW fun a h => by
 obtain ⟨x, G, deep⟩ := a
 obtain ⟨⟨U, s, hx, hs, hm, hU⟩, hd0, hd1⟩ := h
 replace hx : x = encX U s := hx
 subst hx
 replace hd0 : 0 ≤ deep := hd0
 replace hd1 : deep ≤ 100 := hd1
 obtain ⟨e, vs, bs, H, ws, h1, h2, h3⟩ := nd_runs m U hU deep hd0 hd1 s.items.length s [] (Nat.le_refl _) (by omega) hs ⟨by have := hs.2.1; simp only [List.length_nil]; omega, fun n hn => by cases hn⟩
 have h3 : LoopRuns (ndTurn m) 109 [0,1,5,6] [5] [0,1,4,5,6] [5] [.ptr (.hp 4) 0, .int .i64 deep, .ptr (.tmp 5) 0, nilList] [pcZ] (encX U s).heap e vs bs H := h3
 refine ⟨e, vs, bs, H, ws, h1, fun k => ?_, h3⟩
 unfold ndPost
 have eL : ndL deep (encX U s).it (encX U s).rows (encX U s).ver (encX U s).left (encX U s).size = loopR deep [] s := ndL_s deep s
 simp only [eL, outK_eq]
 unfold ndEnd at h2
 generalize loopR deep [] s = r at h2 ⊢
 obtain ⟨rb, ⟨out, rw_⟩, s2⟩ := r
 cases rb with
 | some b =>
  obtain ⟨rfl, rfl, rfl, rfl⟩ := h2
  rfl
 | none =>
  cases rw_ with
  | some w =>
   obtain ⟨rfl, rfl, rfl, rfl⟩ := h2
   rfl
  | none =>
   obtain ⟨rfl, rfl, rfl, rfl⟩ := h2
   rfl
theorem layNl_ok {m : Nat} (h : (layN0 (okDf m) okSg (okBk m)).OK Tryz.prog) : (layNl (okNl m) (okDf m) okSg (okBk m)).OK Tryz.prog := h.loop1 (id := 2) (by kernel_rfl) (by kernel_rfl) (by kernel_rfl) (ndSp_ok m)
theorem fz_defs (ds : List DfD) (k : Nat) (rows : List Vs) (u : Nat) : (ds.map encDf).map (fun r => r.map (fzV k rows u 6)) = ds.map encDf := by
 rw [List.map_map]
 rfl
theorem fz_hp {U : Obj3} (hU : okU U) (s : PsD) (rows : List Vs) (u : Nat) : (hpS U s).map (fzO 5 rows u) = hpS U s := by
 obtain ⟨a, b, rfl⟩ := hU
 show [_, _, _, Obj.arr 2 ((s.defs.map encDf).map (fun r => r.map (fzV 5 rows u 6))) s.ver, _] = _
 rw [fz_defs]
 rfl
theorem nds_pure (l : List NdD) : (l.map encNd).all (fun r => r.all isPure) = true := by
 rw [List.all_eq_true]
 intro r hr
 obtain ⟨n, _, rfl⟩ := List.mem_map.1 hr
 rfl
theorem nds_sub (l : List NdD) : Sub (.list false (l.map encNd).length (fun i => (l.map encNd).getD (0 + i) [])) (encNds false l) := by
 rw [List.length_map]
 refine Sub.list (fun h => h) (fun i hi => ?_)
 have : (l.map encNd).getD (0 + i) [] = encNd (l.getD i nd0) := by
  rw [Nat.zero_add]
  simp only [gQ, List.getElem?_map, List.getElem?_eq_getElem hi, Option.map_some, Option.getD_some]
 rw [this]
 exact .refl _
theorem leafN {L : Lay} (h : L.OK Tryz.prog) {f : FuncId} {xs : Vs} {U : Obj3} (hU : okU U) {s t : PsD} (out : List NdD) (w : PcD) {p : AVal} (hz : ∀ rows u, fzV 5 rows u 5 p = p) (hr1 : refsD 6 5 (.tuple [nilList, p]) = true) (hp : Sub p (pieceV w))
 (hr : ∀ k, iFun Tryz.prog (L.hd Tryz.prog) L.fhs 0 f xs (hpS U s) k = k (.ret (.tuple [ndOV out, p]) (hpS U t ++ ndOG out))) :
 CallOK Tryz.prog f xs (hpS U s) (.ret (nodesV (out, w)) (hpS U t)) := by
 cases out with
 | nil =>
  refine (leafR (T := []) h hU hr1 hr).sub (.refl _) ⟨Sub.tuple (.cons (Sub.list (fun h => by cases h) (fun i hi => by omega)) (.cons hp .nil)), rfl⟩
 | cons c t' =>
  have k1 := h.call hr
  have k2 := k1.meltR (Nat.le_refl 5) (nds_pure (c :: t'))
  have e1 : fzV (hpS U t).length ((c :: t').map encNd) t'.length 6 (.tuple [ndOV (c :: t'), p]) = .tuple [.list false ((c :: t').map encNd).length (fun i => ((c :: t').map encNd).getD (0 + i) []), p] := by
   show AVal.tuple [if (5 : Nat) = 5 then (if t'.length = t'.length ∧ 0 + ((c :: t').map encNd).length ≤ ((c :: t').map encNd).length then .list false ((c :: t').map encNd).length (fun i => ((c :: t').map encNd).getD (0 + i) []) else .undef) else .own 5 0 ((c :: t').map encNd).length t'.length false, fzV 5 ((c :: t').map encNd) t'.length 5 p] = _
   rw [if_pos rfl, if_pos ⟨rfl, by omega⟩, hz]
  rw [e1] at k2
  have e2 : (hpS U t).map (fzO (hpS U t).length ((c :: t').map encNd) t'.length) = hpS U t := fz_hp hU t _ _
  rw [e2] at k2
  exact k2.sub (.refl _) ⟨Sub.tuple (.cons (nds_sub (c :: t')) (.cons hp .nil)), rfl⟩
theorem nd_call (m : Nat) (U : Obj3) (hU : okU U) (s : PsD) (hs : okS s) (hm : s.items.length < m + 1) (deep : Int) (hd0 : 0 ≤ deep) (hd1 : deep ≤ 100) (hL : (layNl (okNl m) (okDf m) okSg (okBk m)).OK Tryz.prog) :
 ∃ o, (∀ k : Out → Ans, pOut (nodesR deep s) nodesV (hpS U) k = k o) ∧ CallOK Tryz.prog 13 [.ptr (.hp 4) 0, .int .i64 deep] (hpS U s) o := by
 have key := fun k => nd_fun (okNl m) (okDf m) okSg (okBk m) U.1 U.2.1 U.2.2 (encIts s.items) (s.defs.map encDf) s.ver s.left s.size deep k
 change ∀ k, iFun Tryz.prog ((layNl (okNl m) (okDf m) okSg (okBk m)).hd Tryz.prog) (layNl (okNl m) (okDf m) okSg (okBk m)).fhs 0 13 [.ptr (.hp 4) 0, .int .i64 deep] (hpS U s) k = _ at key
 replace key := keyT key (tst_true ⟨⟨⟨U, s, rfl, hs, hm, hU⟩, hd0, hd1⟩, .refl _, rfl, rfl⟩)
 simp only [ndL_s] at key
 unfold nodesR
 simp only [pOut_then]
 generalize loopR deep [] s = r at key ⊢
 obtain ⟨rb, ⟨out, ow⟩, s2⟩ := r
 cases rb with
 | some b =>
  simp only [Option.isSome_some, cond_true, Option.getD_some] at key
  refine ⟨_, fun k => rfl, leafP (T := ndOG out) (t := s2) hL hU rfl (fun k => (key k).trans ?_)⟩
  cases out <;> rfl
 | none =>
 simp only [Option.isSome_none, cond_false] at key
 cases ow with
 | some w =>
  simp only [Option.isSome_some, cond_true, Option.getD_some] at key
  refine ⟨_, fun k => rfl, leafN (t := s2) hL hU out w (p := .agg (encPc w)) (fun _ _ => rfl) rfl (.refl _) (fun k => (key k).trans ?_)⟩
  cases out <;> rfl
 | none =>
  simp only [Option.isSome_none, cond_false] at key
  show ∃ o, (∀ k : Out → Ans, pOut (bif decide (deep = 0) then psOk (out, pc0) s2 else psBad (out, pc0) s2.left 8 s2) nodesV (hpS U) k = k o) ∧ _
  have ed : (deep == 0) = decide (deep = 0) := by
   rw [Bool.eq_iff_iff]; simp only [beq_iff_eq, decide_eq_true_eq]
  simp only [ed] at key
  cases h0 : decide (deep = 0) with
  | true =>
   simp only [h0, Bool.not_true, cond_false] at key
   refine ⟨_, fun k => rfl, leafN (t := s2) hL hU out pc0 (p := .agg pcZ) (fun _ _ => rfl) rfl (Sub.agg (.cons (Sub.list (fun h => by cases h) (fun i hi => by omega)) (.refl _))) (fun k => (key k).trans ?_)⟩
   cases out <;> rfl
  | false =>
   simp only [h0, Bool.not_false, cond_true] at key
   refine ⟨_, fun k => rfl, leafP (T := ndOG out) (t := s2) hL hU rfl (fun k => (key k).trans ?_)⟩
   cases out <;> rfl
end Go.Mu
namespace Go.Mu
open Go Go.Proofs
theorem frm {α : Type} {r : PRes α} {f : α → AVal} {U : Obj3} {s : PsD} (hU : okU U) {g : FuncId} {xs : Vs} (hx : ∀ x ∈ xs, refsD 6 5 x = true) {G : Heap} (hG : okG G)
 (h : ∃ o, (∀ k : Out → Ans, pOut r f (hpS U) k = k o) ∧ CallOK Tryz.prog g xs (hpS U s) o) : ∃ o, (∀ k : Out → Ans, pOut r f (fun t => hpS U t ++ G) k = k o) ∧ CallOK Tryz.prog g xs (hpS U s ++ G) o := by
 obtain ⟨o, h1, h2⟩ := h
 have h3 := h1 some
 cases hb : r.bad with
 | some b =>
  unfold pOut at h3
  rw [hb] at h3
  simp only [Option.isSome_some, cond_true, sJ] at h3
  subst h3
  exact ⟨_, fun k => by unfold pOut; rw [hb]; rfl, h2.frameP rfl hx (refs_hp hU s) G hG⟩
 | none =>
  unfold pOut at h3
  rw [hb] at h3
  simp only [Option.isSome_none, cond_false, sJ] at h3
  subst h3
  exact ⟨_, fun k => by unfold pOut; rw [hb]; rfl, h2.frame rfl hx (refs_hp hU s) G hG⟩
theorem layPw1_ok : layPw1.OK Tryz.prog := Lay.nil_ok.addF wordsTold_ok
theorem wds_sub2 (x : ItemD) (h : 0 ≤ x.at_) : Sub (.list false (wordsOf x.text).length (fun i => encWd x.at_ ((wordsOf x.text).getD i wd0))) (encWqs false ((wordsOf x.text).map (atW x.at_))) := by
 show Sub _ (.list false ((wordsOf x.text).map (atW x.at_)).length _)
 rw [List.length_map]
 refine Sub.list (fun h => h) (fun i hi => ?_)
 have e : ((wordsOf x.text).map (atW x.at_)).getD i wd0 = atW x.at_ ((wordsOf x.text).getD i wd0) := by
  simp only [gQ, List.getElem?_map, List.getElem?_eq_getElem hi, Option.map_some, Option.getD_some]
 rw [e]
 have e2 : encWd x.at_ ((wordsOf x.text).getD i wd0) = encWq (atW x.at_ ((wordsOf x.text).getD i wd0)) := by
  unfold encWd encWq atW
  have : x.at_ + (((wordsOf x.text).getD i wd0).at_ : Int) = ((x.at_.toNat + ((wordsOf x.text).getD i wd0).at_ : Nat) : Int) := by omega
  rw [this]
 rw [e2]
 exact .refl _
theorem pw_call (x : ItemD) (H : Heap) (hx : okIt x) : ∃ o, (∀ k : Out → Ans, pOut (wdN x) pieceV (fun _ => H) k = k o) ∧ CallOK Tryz.prog 21 [.ptr (.hp 4) 0, .agg (encItem x)] H o := by
 obtain ⟨h1, h2, h3⟩ := hx
 have key := fun k => wd_fun x H k
 have c0 : decide (x.text.length ≤ 1073741824 ∧ 0 ≤ x.at_ ∧ x.at_ ≤ 1099511627776) = true := dT ⟨by omega, h2, by omega⟩
 replace key := keyT key c0
 unfold wdN wordsP wdsE wdsA wdsL
 cases hs : (wordsE x.text).isSome with
 | true =>
  simp only [hs, cond_true] at key ⊢
  cases he : wdErr x.text == 0 with
  | false =>
   simp only [he, Bool.not_false, cond_true, cond_false] at key ⊢
   exact ⟨_, fun k => rfl, layPw1_ok.call key⟩
  | true =>
   simp only [he, Bool.not_true, cond_true, cond_false] at key ⊢
   exact ⟨_, fun k => rfl, layPw1_ok.call key⟩
 | false =>
  simp only [hs, cond_false] at key ⊢
  have hl : ((wordsOf x.text).map (atW x.at_)).length = (wordsOf x.text).length := List.length_map _
  show ∃ o, (∀ k : Out → Ans, pOut (bif decide (0 < ((wordsOf x.text).map (atW x.at_)).length) then _ else _ : PRes PcD) pieceV (fun _ => H) k = k o) ∧ _
  by_cases h0 : 0 < (wordsOf x.text).length
  case neg =>
   simp only [hl, dF h0, dF (show ¬ ((wordsOf x.text).length : Int) > 0 by omega), Bool.not_false, cond_true, cond_false] at key ⊢
   exact ⟨_, fun k => rfl, layPw1_ok.call key⟩
  simp only [hl, dT h0, dT (show ((wordsOf x.text).length : Int) > 0 by omega), dT (show (0 : Int) < ((wordsOf x.text).length : Int) by omega), Bool.not_true, cond_true, cond_false] at key ⊢
  have e0 : ((wordsOf x.text).map (atW x.at_)).getD 0 wd0 = atW x.at_ ((wordsOf x.text).getD 0 wd0) := by
   simp only [gQ, List.getElem?_map, List.getElem?_eq_getElem h0, Option.map_some, Option.getD_some]
  unfold headW
  rw [e0]
  have ek : (atW x.at_ ((wordsOf x.text).getD 0 wd0)).kind = ((wordsOf x.text).getD 0 wd0).kind := rfl
  have et : (atW x.at_ ((wordsOf x.text).getD 0 wd0)).text = ((wordsOf x.text).getD 0 wd0).text := rfl
  rw [ek, et]
  cases hk : ((wordsOf x.text).getD 0 wd0).kind == 1 with
  | true =>
   simp only [hk, cond_true] at key ⊢
   exact ⟨_, fun k => rfl, (layPw1_ok.call key).sub (.refl _) ⟨Sub.agg (.cons (wds_sub2 x h2) (.refl _)), rfl⟩⟩
  | false =>
   simp only [hk, cond_false] at key ⊢
   exact ⟨_, fun k => rfl, (layPw1_ok.call key).sub (.refl _) ⟨Sub.agg (.cons (wds_sub2 x h2) (.refl _)), rfl⟩⟩
theorem pwTold_ok : ∀ xs H k out, pwTold xs H k = some out → ∃ o, CallOK Tryz.prog 21 xs H o ∧ k o = some out := mkF_ok fun a h => pw_call a.x a.H h
theorem ndTold_ok {m : Nat} (hL : (layNl (okNl m) (okDf m) okSg (okBk m)).OK Tryz.prog) : ∀ xs H k out, ndTold (okNd (m + 1)) xs H k = some out → ∃ o, CallOK Tryz.prog 13 xs H o ∧ k o = some out := mkF_ok fun a h => by
 obtain ⟨x, G, deep⟩ := a
 obtain ⟨⟨U, s, hx, hs, hm, hU⟩, hG, hd0, hd1⟩ := h
 replace hx : x = encX U s := hx
 subst hx
 have := frm hU (by intro x hx; simp only [List.mem_cons, List.not_mem_nil, or_false] at hx; rcases hx with rfl | rfl <;> rfl) hG (nd_call m U hU s hs hm deep hd0 hd1 hL)
 have eN : ndN deep (encX U s).it (encX U s).rows (encX U s).ver (encX U s).left (encX U s).size = nodesR deep s := ndN_s deep s
 simp only [eN]
 exact this
theorem sgTold_ok : ∀ xs H k out, sgTold okSg xs H k = some out → ∃ o, CallOK Tryz.prog 26 xs H o ∧ k o = some out := mkF_ok fun a h => by
 obtain ⟨x, G, ws, head, at_⟩ := a
 obtain ⟨⟨m, U, s, hx, hs, hm, hU⟩, hG, l, hl, hw⟩ := h
 replace hx : x = encX U s := hx
 replace hl : ws = encWqs false l := hl
 subst hx hl
 have := frm hU (by intro x hx; simp only [List.mem_cons, List.not_mem_nil, or_false] at hx; rcases hx with rfl | rfl <;> rfl) hG (sg_call U s ⟨l, head, at_⟩ hw hs.2.2.1)
 have eN : sgN (encWqs false l) head at_ (encX U s).it (encX U s).rows (encX U s).ver (encX U s).left (encX U s).size = singleP ⟨l, head, at_⟩ s := sgN_e _ _ _ _ _ _ _ _
 simp only [eN]
 exact this
theorem dfTold_ok {m : Nat} (hL : (layDf (okNd m)).OK Tryz.prog) : ∀ xs H k out, dfTold (okDf m) xs H k = some out → ∃ o, CallOK Tryz.prog 24 xs H o ∧ k o = some out := mkF_ok fun a h => by
 obtain ⟨x, G, ws, head, at_⟩ := a
 obtain ⟨⟨U, s, hx, hs, hm, hU, hdf⟩, hG, l, hl, hw⟩ := h
 replace hx : x = encX U s := hx
 replace hl : ws = encWqs false l := hl
 subst hx hl
 have := frm hU (by intro x hx; simp only [List.mem_cons, List.not_mem_nil, or_false] at hx; rcases hx with rfl | rfl <;> rfl) hG (df_call m U hU s hs hm hdf ⟨l, head, at_⟩ hw hL)
 have eN : dfN (encWqs false l) head at_ (encX U s).it (encX U s).rows (encX U s).ver (encX U s).left (encX U s).size = defineR ⟨l, head, at_⟩ s := dfN_e _ _ _ _ _ _ _ _
 simp only [eN]
 exact this
theorem bkTold_ok {m : Nat} (hL : (layBk (okNd (m + 1)) (okBk m)).OK Tryz.prog) : ∀ xs H k out, bkTold (okBk (m + 1)) xs H k = some out → ∃ o, CallOK Tryz.prog 25 xs H o ∧ k o = some out := mkF_ok fun a h => by
 obtain ⟨x, G, kind, ws, head, at_, n, deep⟩ := a
 obtain ⟨⟨U, s, hx, hs, hm, hU⟩, hG, ⟨l, hl, hw, hn0, hn1⟩, hd0, hd1⟩ := h
 replace hx : x = encX U s := hx
 replace hl : ws = encWqs false l := hl
 replace hn0 : 0 ≤ n := hn0
 replace hn1 : n.toNat ≤ l.length := hn1
 subst hx hl
 obtain ⟨j, rfl⟩ : ∃ j : Nat, n = (j : Int) := ⟨n.toNat, by omega⟩
 rw [Int.toNat_natCast] at hn1
 have hc : ∃ o, (∀ k : Out → Ans, pOut (blockR kind ⟨l, head, at_⟩ j deep s) ndV (hpS U) k = k o) ∧ CallOK Tryz.prog 25 [.ptr (.hp 4) 0, .int .i64 kind, .agg (encPc ⟨l, head, at_⟩), .int .i64 (j : Int), .int .i64 deep] (hpS U s) o := by
  obtain ⟨o, ho⟩ := pOut_one (blockR kind ⟨l, head, at_⟩ j deep s) ndV (hpS U)
  exact ⟨o, ho, hL.call (fun k => (bk_res m U hU s hs hm kind ⟨l, head, at_⟩ hw j hn1 deep hd0 hd1 k).trans (ho k))⟩
 have := frm hU (by intro x hx; simp only [List.mem_cons, List.not_mem_nil, or_false] at hx; rcases hx with rfl | rfl | rfl | rfl | rfl <;> rfl) hG hc
 have eN : bkN kind (encWqs false l) head at_ (j : Int) deep (encX U s).it (encX U s).rows (encX U s).ver (encX U s).left (encX U s).size = blockR kind ⟨l, head, at_⟩ j deep s := (bkN_e _ _ _ _ _ _ _ _ _ _ _).trans (by rw [Int.toNat_natCast]; rfl)
 simp only [eN]
 exact this
theorem all_told : ∀ m : Nat, (∀ xs H k out, bkTold (okBk m) xs H k = some out → ∃ o, CallOK Tryz.prog 25 xs H o ∧ k o = some out) ∧ (∀ xs H k out, dfTold (okDf m) xs H k = some out → ∃ o, CallOK Tryz.prog 24 xs H o ∧ k o = some out)
 | 0 => ⟨mkF_ok fun a h => by obtain ⟨⟨U, s, hx, hs, hm, hU⟩, _⟩ := h; omega, mkF_ok fun a h => by obtain ⟨⟨U, s, hx, hs, hm, hU⟩, _⟩ := h; omega⟩
 | m + 1 => by
  obtain ⟨hb, hd⟩ := all_told m
  have h0 : (layN0 (okDf m) okSg (okBk m)).OK Tryz.prog := ((((Lay.nil_ok.addF pwTold_ok).addF ixsTold_ok).addF hd).addF sgTold_ok).addF hb
  have hn := ndTold_ok (layNl_ok h0)
  exact ⟨bkTold_ok ((((Lay.nil_ok.addF parTold_ok).addF hn).addF hb).addN (by kernel_rfl)), dfTold_ok (((layIx2_ok.addF oNameTold_ok).addF hn).addN (by kernel_rfl))⟩
theorem nodes_told (m : Nat) : ∀ xs H k out, ndTold (okNd (m + 1)) xs H k = some out → ∃ o, CallOK Tryz.prog 13 xs H o ∧ k o = some out :=
 ndTold_ok (layNl_ok (((((Lay.nil_ok.addF pwTold_ok).addF ixsTold_ok).addF (all_told m).2).addF sgTold_ok).addF (all_told m).1))
end Go.Mu
namespace Go.Mu
open Go Go.Proofs
noncomputable def layPar (okN : NdA → Prop) : Lay := ((Lay.nil.addF 11 itemsTold).addF 13 (ndTold okN)).addL 6 { heap := [2, 3, 4, 26], own := [24] }
theorem ps_fun (okN : NdA → Prop) (s : Oc) (k : Out → Ans) : iFun Tryz.prog ((layPar okN).hd Tryz.prog) (layPar okN).fhs 0 6 [.str s] [] k = (
 let n0 : Int := (↑s.length : Int);
 let m1 : Nat := (ndN 0 (AVal.list false (itemsOf s).length fun (i : Nat) => encItem ((itemsOf s).getD i (ItemD.mk 0 [] 0))) [[AVal.str [], AVal.list true 0 fun (x : Nat) => []]] 0 n0 0).s.ver;
 let m2 : Nat := (List.map encDf (ndN 0 (AVal.list false (itemsOf s).length fun (i : Nat) => encItem ((itemsOf s).getD i (ItemD.mk 0 [] 0))) [[AVal.str [], AVal.list true 0 fun (x : Nat) => []]] 0 n0 0).s.defs).length;
 let c3 : Bool := m1 == m1;
 let z0 := [AVal.ptr (Oid.hp 4) 0, AVal.int .i64 0];
  bif decide (16384 < s.length) then k (Out.ret (AVal.tuple [AVal.list true 0 fun (x : Nat) => [], AVal.int .i64 0, AVal.int .i64 5]) [Obj.var [AVal.list true 0 fun (x : Nat) => []], Obj.var [AVal.int .i64 0], Obj.var [AVal.int .i64 5]]) else bif itBad s then bif sameV (AVal.int .i64 (↑(itPl s) : Int)) (AVal.int .i64 (↑(itPl s) : Int)) && true && true && true then k (Out.ret (AVal.tuple [AVal.list true 0 fun (x : Nat) => [], AVal.int .i64 (↑(itPl s) : Int), AVal.int .i64 8]) [Obj.var [AVal.list true 0 fun (x : Nat) => []], Obj.var [AVal.int .i64 (↑(itPl s) : Int)], Obj.var [AVal.int .i64 8]]) else none else bif tst (okN (NdA.mk (PsX.mk (Obj.var [AVal.list true 0 fun (x : Nat) => []]) (Obj.var [AVal.int .i64 n0]) (Obj.var [AVal.int .i64 0]) (AVal.list false (itemsOf s).length fun (i : Nat) => encItem ((itemsOf s).getD i (ItemD.mk 0 [] 0))) [[AVal.str [], AVal.list true 0 fun (x : Nat) => []]] 0 n0 0) (List.drop 5 [Obj.var [AVal.list true 0 fun (x : Nat) => []], Obj.var [AVal.int .i64 n0], Obj.var [AVal.int .i64 0], Obj.arr 2 [[AVal.str [], AVal.list true 0 fun (x : Nat) => []]] 0, Obj.var [AVal.list false (itemsOf s).length fun (i : Nat) => encItem ((itemsOf s).getD i (ItemD.mk 0 [] 0)), AVal.own 3 0 1 0 false, AVal.int .i64 n0, AVal.int .i64 0]]) 0) ∧ SubL z0 z0 ∧ [Obj.var [AVal.list true 0 fun (x : Nat) => []], Obj.var [AVal.int .i64 n0], Obj.var [AVal.int .i64 0], Obj.arr 2 [[AVal.str [], AVal.list true 0 fun (x : Nat) => []]] 0, Obj.var [AVal.list false (itemsOf s).length fun (i : Nat) => encItem ((itemsOf s).getD i (ItemD.mk 0 [] 0)), AVal.own 3 0 1 0 false, AVal.int .i64 n0, AVal.int .i64 0]] = [Obj.var [AVal.list true 0 fun (x : Nat) => []], Obj.var [AVal.int .i64 n0], Obj.var [AVal.int .i64 0], Obj.arr 2 [[AVal.str [], AVal.list true 0 fun (x : Nat) => []]] 0, Obj.var [AVal.list false (itemsOf s).length fun (i : Nat) => encItem ((itemsOf s).getD i (ItemD.mk 0 [] 0)), AVal.own 3 0 1 0 false, AVal.int .i64 n0, AVal.int .i64 0]]) then bif (ndN 0 (AVal.list false (itemsOf s).length fun (i : Nat) => encItem ((itemsOf s).getD i (ItemD.mk 0 [] 0))) [[AVal.str [], AVal.list true 0 fun (x : Nat) => []]] 0 n0 0).bad.isSome then k (Out.ret (AVal.tuple [AVal.list true 0 fun (x : Nat) => [], AVal.int .i64 ((ndN 0 (AVal.list false (itemsOf s).length fun (i : Nat) => encItem ((itemsOf s).getD i (ItemD.mk 0 [] 0))) [[AVal.str [], AVal.list true 0 fun (x : Nat) => []]] 0 n0 0).bad.getD (0, 0)).fst, AVal.int .i64 ((ndN 0 (AVal.list false (itemsOf s).length fun (i : Nat) => encItem ((itemsOf s).getD i (ItemD.mk 0 [] 0))) [[AVal.str [], AVal.list true 0 fun (x : Nat) => []]] 0 n0 0).bad.getD (0, 0)).snd]) [Obj.var [AVal.list true 0 fun (x : Nat) => []], Obj.var [AVal.int .i64 ((ndN 0 (AVal.list false (itemsOf s).length fun (i : Nat) => encItem ((itemsOf s).getD i (ItemD.mk 0 [] 0))) [[AVal.str [], AVal.list true 0 fun (x : Nat) => []]] 0 n0 0).bad.getD (0, 0)).fst], Obj.var [AVal.int .i64 ((ndN 0 (AVal.list false (itemsOf s).length fun (i : Nat) => encItem ((itemsOf s).getD i (ItemD.mk 0 [] 0))) [[AVal.str [], AVal.list true 0 fun (x : Nat) => []]] 0 n0 0).bad.getD (0, 0)).snd], Obj.arr 2 (List.map encDf (ndN 0 (AVal.list false (itemsOf s).length fun (i : Nat) => encItem ((itemsOf s).getD i (ItemD.mk 0 [] 0))) [[AVal.str [], AVal.list true 0 fun (x : Nat) => []]] 0 n0 0).s.defs) m1, Obj.var [encIts (ndN 0 (AVal.list false (itemsOf s).length fun (i : Nat) => encItem ((itemsOf s).getD i (ItemD.mk 0 [] 0))) [[AVal.str [], AVal.list true 0 fun (x : Nat) => []]] 0 n0 0).s.items, AVal.own 3 0 m2 m1 false, AVal.int .i64 (ndN 0 (AVal.list false (itemsOf s).length fun (i : Nat) => encItem ((itemsOf s).getD i (ItemD.mk 0 [] 0))) [[AVal.str [], AVal.list true 0 fun (x : Nat) => []]] 0 n0 0).s.left, AVal.int .i64 (ndN 0 (AVal.list false (itemsOf s).length fun (i : Nat) => encItem ((itemsOf s).getD i (ItemD.mk 0 [] 0))) [[AVal.str [], AVal.list true 0 fun (x : Nat) => []]] 0 n0 0).s.size]]) else bif c3 && true && decide (0 < (↑m2 : Int)) then bif c3 then bif c3 && decide (0 < m2) && true then k (Out.ret (AVal.tuple [AVal.own 3 0 m2 m1 false, AVal.int .i64 n0, AVal.int .i64 0]) [Obj.var [AVal.own 3 0 m2 m1 false], Obj.var [AVal.int .i64 n0], Obj.var [AVal.int .i64 0], Obj.arr 2 ((List.map encDf (ndN 0 (AVal.list false (itemsOf s).length fun (i : Nat) => encItem ((itemsOf s).getD i (ItemD.mk 0 [] 0))) [[AVal.str [], AVal.list true 0 fun (x : Nat) => []]] 0 n0 0).s.defs).set 0 (((List.map encDf (ndN 0 (AVal.list false (itemsOf s).length fun (i : Nat) => encItem ((itemsOf s).getD i (ItemD.mk 0 [] 0))) [[AVal.str [], AVal.list true 0 fun (x : Nat) => []]] 0 n0 0).s.defs).getD 0 []).set 1 (AVal.list false (ndN 0 (AVal.list false (itemsOf s).length fun (i : Nat) => encItem ((itemsOf s).getD i (ItemD.mk 0 [] 0))) [[AVal.str [], AVal.list true 0 fun (x : Nat) => []]] 0 n0 0).v.fst.length fun (i : Nat) => encNd ((ndN 0 (AVal.list false (itemsOf s).length fun (i : Nat) => encItem ((itemsOf s).getD i (ItemD.mk 0 [] 0))) [[AVal.str [], AVal.list true 0 fun (x : Nat) => []]] 0 (↑s.length : Int) 0).v.fst.getD i nd0)))) m1, Obj.var [encIts (ndN 0 (AVal.list false (itemsOf s).length fun (i : Nat) => encItem ((itemsOf s).getD i (ItemD.mk 0 [] 0))) [[AVal.str [], AVal.list true 0 fun (x : Nat) => []]] 0 n0 0).s.items, AVal.own 3 0 m2 m1 false, AVal.int .i64 (ndN 0 (AVal.list false (itemsOf s).length fun (i : Nat) => encItem ((itemsOf s).getD i (ItemD.mk 0 [] 0))) [[AVal.str [], AVal.list true 0 fun (x : Nat) => []]] 0 n0 0).s.left, AVal.int .i64 (ndN 0 (AVal.list false (itemsOf s).length fun (i : Nat) => encItem ((itemsOf s).getD i (ItemD.mk 0 [] 0))) [[AVal.str [], AVal.list true 0 fun (x : Nat) => []]] 0 n0 0).s.size]]) else none else none else none else none) := by kernel_rfl
end Go.Mu
namespace Go.Mu
open Go Go.Proofs
def okPl (L : Nat) (i : ItemD) : Prop := i.text.length ≤ L ∧ 0 ≤ i.at_ ∧ i.at_ ≤ (L : Int) ∧ (i.kind = 1 ∨ i.kind = 2 ∧ i.at_ + i.text.length ≤ (L : Int))
def ItG (L : Nat) (rows : List Vs) : Prop := ∀ r ∈ rows, ∃ i : ItemD, r = encItem i ∧ okPl L i
theorem itG_app {L : Nat} {a b : List Vs} (h : ItG L a) (g : ItG L b) : ItG L (a ++ b) := fun r hr => by
 rcases List.mem_append.1 hr with hr | hr
 · exact h r hr
 · exact g r hr
theorem itG_one {L : Nat} (i : ItemD) (h : okPl L i) : ItG L [encItem i] := fun r hr => ⟨i, by simpa using hr, h⟩
theorem flushM_g {L : Nat} {x : SpH} (h : ItG L (rowsO x.O)) (hb : (bytesOf x.rows).length ≤ L) (ha0 : 0 ≤ x.a) (ha1 : x.a ≤ (L : Int)) : ItG L (rowsO (flushM x).O) := by
 unfold flushM
 simp only [rowsO]
 cases flN x
 · exact itG_app h (itG_one ⟨1, bytesOf x.rows, x.a⟩ ⟨hb, ha0, ha1, .inl rfl⟩)
 · exact h
theorem acM_g {L : Nat} {x : SpH} (h : ItG L (rowsO x.O)) (hb : (bytesOf x.rows).length ≤ L) (ha0 : 0 ≤ x.a) (ha1 : x.a ≤ (L : Int)) (at_ : Nat) (ht : at_ + (acIn x.s at_).length ≤ L) : ItG L (rowsO (acM x at_).O) := by
 unfold acM
 have hy : ItG L (rowsO (bif trimsA (acIn x.s at_) then cutM x else x).O) ∧ (bytesOf (bif trimsA (acIn x.s at_) then cutM x else x).rows).length ≤ L ∧ (bif trimsA (acIn x.s at_) then cutM x else x).a = x.a := by
  cases trimsA (acIn x.s at_)
  · exact ⟨h, hb, rfl⟩
  · refine ⟨h, ?_, rfl⟩
    show (bytesOf (cutM x).rows).length ≤ L
    rw [cutM_t]
    exact Nat.le_trans (trimR_len _) hb
 generalize (bif trimsA (acIn x.s at_) then cutM x else x) = y at hy
 obtain ⟨h1, h2, h3⟩ := hy
 have e4 : (trimL (trimR (trimsU (trimsT (acIn x.s at_))))).length ≤ (acIn x.s at_).length := Nat.le_trans (trimL_len _) (Nat.le_trans (trimR_len _) (trimsU_len _))
 generalize trimL (trimR (trimsU (trimsT (acIn x.s at_)))) = tx at e4 ⊢
 cases rmIs x.s at_
 · show ItG L (rowsO (flushM y).O ++ [encItem ⟨2, tx, at_⟩])
   refine itG_app (flushM_g h1 h2 (by rw [h3]; exact ha0) (by rw [h3]; exact ha1)) (itG_one ⟨2, tx, at_⟩ ⟨?_, ?_, ?_, .inr ⟨rfl, ?_⟩⟩)
   · show tx.length ≤ L; omega
   · show (0 : Int) ≤ (at_ : Int); omega
   · show (at_ : Int) ≤ (L : Int); omega
   · show (at_ : Int) + (tx.length : Int) ≤ (L : Int); omega
 · exact h1
theorem putM_a (x : SpH) (f t : Nat) (hf : f ≤ t) (ht : t ≤ x.s.length) (h0 : 0 ≤ x.a) (h1 : x.a ≤ (x.s.length : Int)) : 0 ≤ (putM x f t).a ∧ (putM x f t).a ≤ (x.s.length : Int) := by
 show 0 ≤ (bif !(putL x.s x.tr f t == []) && bytesOf x.rows == [] then (f : Int) + (((x.s.take t).drop f).length - (putL x.s x.tr f t).length) else x.a) ∧ (bif !(putL x.s x.tr f t == []) && bytesOf x.rows == [] then (f : Int) + (((x.s.take t).drop f).length - (putL x.s x.tr f t).length) else x.a) ≤ (x.s.length : Int)
 cases !(putL x.s x.tr f t == []) && bytesOf x.rows == [] with
 | false => exact ⟨h0, h1⟩
 | true =>
  simp only [cond_true]
  have e1 := putL_len x.s x.tr f t
  have e2 : ((x.s.take t).drop f).length = t - f := by simp; omega
  omega
theorem it_good : ∀ (m : Nat) (x : SpH) (f : Nat), Inv x f → ItG x.s.length (rowsO (relX x).O) → 0 ≤ x.a → x.a ≤ (x.s.length : Int) →
 (∀ p, (itM m x f).2.2 = some p → p ≤ x.s.length) ∧ ((itM m x f).2.2 = none → ItG x.s.length (rowsO (relX (itM m x f).1).O) ∧ 0 ≤ (itM m x f).1.a ∧ (itM m x f).1.a ≤ (x.s.length : Int) ∧ (itM m x f).1.s = x.s)
 | 0, x, f, h, hr, h0, h1 => ⟨fun p hp => by simp [itM] at hp, fun _ => ⟨hr, h0, h1, rfl⟩⟩
 | m + 1, x, f, h, hi, ha0, ha1 => by
  have h' := h
  obtain ⟨h1, h2, h3, h4, h5, h6⟩ := h
  by_cases hn : itAt x.s f < 0
  · have e : itM (m + 1) x f = (x, f, none) := by rw [itM, dT hn]; rfl
    rw [e]
    exact ⟨fun p hp => by simp at hp, fun _ => ⟨hi, ha0, ha1, rfl⟩⟩
  · have hr := index_room (x.s.drop f) [123, 123] (by have : ¬ Lib.index (x.s.drop f) [123, 123] < 0 := hn; omega)
    have hd : (x.s.drop f).length = x.s.length - f := by simp
    simp only [List.length_cons, List.length_nil] at hr
    obtain ⟨n, hnn⟩ : ∃ n : Nat, itAt x.s f = n := ⟨(itAt x.s f).toNat, by omega⟩
    have hi2 : Lib.index (x.s.drop f) [123, 123] = n := hnn
    have en : ((f : Int) + itAt x.s f).toNat = f + n := by omega
    have hrx : bytesOf (relX x).rows = bytesOf x.rows := rfl
    have c1 : Can (putM (relX x) f (f + n)) := putM_can (x := relX x) h1 _ _
    have c2 : CanO (putM (relX x) f (f + n)).o (putM (relX x) f (f + n)).O := h2.1
    have c3 : (bytesOf (putM (relX x) f (f + n)).rows).length ≤ f + n := by
     rw [putM_t, List.length_append, hrx]
     have := putL_len (relX x).s (relX x).tr f (f + n)
     have h7 : (((relX x).s.take (f + n)).drop f).length ≤ n := by simp; omega
     omega
    have c4 : (rowsO (putM (relX x) f (f + n)).O).length ≤ f := h6
    have c5 : ItG x.s.length (rowsO (putM (relX x) f (f + n)).O) := hi
    have c6 := putM_a (relX x) f (f + n) (by omega) (by show f + n ≤ x.s.length; omega) ha0 ha1
    cases hb : acBad x.s (f + n) with
    | true =>
     have e : itM (m + 1) x f = (putM (relX x) f (f + n), f, some (f + n)) := by rw [itM, dF hn, en, hb]; rfl
     rw [e]
     exact ⟨fun p hp => by simp only [sJ] at hp; omega, fun he => by simp at he⟩
    | false =>
     obtain ⟨f1, f2, f3, f4⟩ := acFrom_le x.s (f + n) hb (by omega)
     have e : itM (m + 1) x f = itM m (actionM (putM (relX x) f (f + n)) (f + n)) (acTo x.s (f + n) + 2).toNat := by rw [itM, dF hn, en, hb]; rfl
     rw [e]
     obtain ⟨a1, a2, a3, a4⟩ := acM_all c1 c2 (f + n)
     have b2 : CanO (actionM (putM (relX x) f (f + n)) (f + n)).o (actionM (putM (relX x) f (f + n)) (f + n)).O := a2
     have hin : (acIn x.s (f + n)).length + (f + n) + 2 ≤ x.s.length := by
      unfold acIn
      simp only [List.length_drop, List.length_take]
      omega
     have b5 : ItG x.s.length (rowsO (actionM (putM (relX x) f (f + n)) (f + n)).O) := acM_g c5 (by omega) c6.1 c6.2 (f + n) (by show f + n + (acIn x.s (f + n)).length ≤ _; omega)
     have w1 := win_room (x.s.drop (acFrom x.s (f + n))) false false (acFrom x.s (f + n))
     have w2 : (x.s.drop (acFrom x.s (f + n))).length = x.s.length - acFrom x.s (f + n) := by simp
     have w3 : win (x.s.drop (acFrom x.s (f + n))) false false (acFrom x.s (f + n)) = acTo x.s (f + n) := rfl
     have inv : Inv (actionM (putM (relX x) f (f + n)) (f + n)) (acTo x.s (f + n) + 2).toNat := by
      refine ⟨a1, canO_can b2, ?_, h4, ?_, ?_⟩
      · show _ ≤ x.s.length
        omega
      · have : (bytesOf (actionM (putM (relX x) f (f + n)) (f + n)).rows).length ≤ f + n := Nat.le_trans a3 c3
        omega
      · rw [canO_rel b2]
        have : (rowsO (actionM (putM (relX x) f (f + n)) (f + n)).O).length ≤ f + 2 := Nat.le_trans a4 (by omega)
        omega
     have ih := it_good m _ _ inv (by rw [canO_rel b2]; exact b5) c6.1 c6.2
     exact ih
theorem items_ok (s : Oc) (hs : s.length ≤ 16384) (hb : itBad s = false) : (∀ x ∈ itemsOf s, okPl s.length x) ∧ (itemsOf s).length ≤ s.length + 1 := by
 have hn : (itR s).2.2 = none := by unfold itBad at hb; simpa using hb
 obtain ⟨g1, g2, g3, g4⟩ := (it_good (s.length + 1) (itX0 s) 0 (inv0 s hs) (fun r hr => by cases hr) (Int.le_refl _) (by show (0 : Int) ≤ (s.length : Int); omega)).2 hn
 obtain ⟨⟨h1, h2, h3, h4, h5, h6⟩, h7⟩ := it_inv (s.length + 1) (itX0 s) 0 (inv0 s hs) (fun r hr => by cases hr) hn
 have hk := itM_keep (s.length + 1) (itX0 s) 0
 have q3 : (itR s).2.1 ≤ s.length := by
  have : (itM (s.length + 1) (itX0 s) 0).2.1 ≤ (itM (s.length + 1) (itX0 s) 0).1.s.length := h3
  rw [g4] at this
  exact this
 have e0 : (itM (s.length + 1) (itX0 s) 0).1 = itY s := hk
 have hG : ItG s.length (rowsO (relX (itY s)).O) := by rw [← e0]; exact g1
 have ha := putM_a (relX (itY s)) (itR s).2.1 s.length q3 (Nat.le_refl _) (by show 0 ≤ (itY s).a; rw [← e0]; exact g2) (by show (itY s).a ≤ (s.length : Int); rw [← e0]; exact g3)
 have hbb : (bytesOf (itZ s).rows).length ≤ s.length := by
  show (bytesOf (putM (relX (itY s)) (itR s).2.1 s.length).rows).length ≤ _
  rw [putM_t, List.length_append]
  have k1 := putL_len (relX (itY s)).s (relX (itY s)).tr (itR s).2.1 s.length
  have k2 : (((relX (itY s)).s.take s.length).drop (itR s).2.1).length ≤ s.length - (itR s).2.1 := by
   rw [List.length_drop, List.length_take]
   have : (relX (itY s)).s.length = s.length := rfl
   omega
  have k3 : (bytesOf (relX (itY s)).rows).length ≤ (itR s).2.1 := by
   have : bytesOf (relX (itY s)).rows = bytesOf (itM (s.length + 1) (itX0 s) 0).1.rows := by rw [e0]; rfl
   rw [this]; exact h5
  omega
 have hW : ItG s.length (rowsO (itW s).O) := flushM_g (x := itZ s) hG hbb ha.1 ha.2
 have hL : (rowsO (itW s).O).length ≤ s.length + 1 := by
  have k4 : (rowsO (relX (itY s)).O).length ≤ s.length := by
   rw [← e0]; exact Nat.le_trans h6 q3
  show (rowsO (flushM (itZ s)).O).length ≤ _
  unfold flushM
  simp only [rowsO]
  have k5 : (rowsO (itZ s).O).length ≤ s.length := k4
  cases flN (itZ s)
  · simp only [cond_false, List.length_append, List.length_singleton]
    exact Nat.succ_le_succ k5
  · simp only [cond_true]
    exact Nat.le_succ_of_le k5
 refine ⟨fun x hx => ?_, by unfold itemsOf; rw [List.length_map]; exact hL⟩
 unfold itemsOf at hx
 obtain ⟨r, hr, rfl⟩ := List.mem_map.1 hx
 obtain ⟨i, rfl, hi⟩ := hW r hr
 exact hi
end Go.Mu
namespace Go.Mu
open Go Go.Proofs
abbrev encDfs (f : Bool) (l : List DfD) : AVal := encL f encDf df0 l
def ps1 (s : Oc) : PsD := ⟨itemsOf s, [mkDf [] nilList], s.length, 0, 0⟩
def parsR (s : Oc) : PRes (List NdD × PcD) := nodesR 0 (ps1 s)
def parsDefs (s : Oc) : List DfD := (parsR s).s.defs.set 0 (mkDf ((parsR s).s.defs.getD 0 df0).name (bodyV (parsR s).v.1))
def parsE (s : Oc) : Int := bif decide (16384 < s.length) then 5 else bif itBad s then 8 else bif (parsR s).bad.isSome then ((parsR s).bad.getD (0, 0)).2 else 0
def parsA (s : Oc) : Int := bif decide (16384 < s.length) then 0 else bif itBad s then (itPl s : Nat) else bif (parsR s).bad.isSome then ((parsR s).bad.getD (0, 0)).1 else (s.length : Nat)
def parsD (s : Oc) : List DfD := bif decide (16384 < s.length) then [] else bif itBad s then [] else bif (parsR s).bad.isSome then [] else parsDefs s
theorem ps1_ok (s : Oc) (hs : s.length ≤ 16384) (hb : itBad s = false) : okS (ps1 s) := by
 obtain ⟨h1, h2⟩ := items_ok s hs hb
 refine ⟨fun x hx => ?_, by show (itemsOf s).length ≤ 32768; omega, Int.le_refl _, by show (0 : Int) ≤ 1024; omega, by show 1 + (itemsOf s).length ≤ 65536; omega⟩
 obtain ⟨g1, g2, g3, _⟩ := h1 x hx
 exact ⟨by omega, g2, by omega⟩
theorem layPar_ok : (layPar (okNd 40000)).OK Tryz.prog := ((Lay.nil_ok.addF itemsTold_ok).addF (nodes_told 39999)).addN (by kernel_rfl)
theorem pars_call (s : Oc) : CallOK Tryz.prog 6 [.str s] [] (.ret (.tuple [encDfs false (parsD s), .int .i64 (parsA s), .int .i64 (parsE s)]) []) := by
 have key := fun k => ps_fun (okNd 40000) s k
 have hsub : ∀ a b : AVal, Sub (.tuple [.list true 0 (fun _ => []), a, b]) (.tuple [encDfs false [], a, b]) := fun a b => Sub.tuple (.cons (Sub.list (fun h => by cases h) (fun i hi => by omega)) (.refl _))
 unfold parsD parsA parsE
 by_cases hl : 16384 < s.length
 · simp only [dT hl, cond_true] at key ⊢
   exact (layPar_ok.callF rfl key).sub (.refl _) ⟨hsub _ _, rfl⟩
 simp only [dF hl, cond_false] at key ⊢
 cases hb : itBad s with
 | true =>
  simp only [hb, cond_true, sameV_refl, Bool.and_self] at key ⊢
  exact (layPar_ok.callF rfl key).sub (.refl _) ⟨hsub _ _, rfl⟩
 | false =>
 simp only [hb, cond_false] at key ⊢
 have hok := ps1_ok s (by omega) hb
 obtain ⟨_, hit⟩ := items_ok s (by omega) hb
 have eR : [[AVal.str [], AVal.list true 0 fun (x : Nat) => []]] = [mkDf [] nilList].map encDf := rfl
 have eN : ndN 0 (encIts (itemsOf s)) [[AVal.str [], AVal.list true 0 fun (x : Nat) => []]] 0 (s.length : Int) 0 = parsR s := by
  rw [eR, ndN_e]; rfl
 replace key := keyT key (tst_true ⟨⟨⟨(.var [nilList], .var [.int .i64 (s.length : Int)], .var [.int .i64 0]), ps1 s, rfl, hok, by show (itemsOf s).length < 40000; omega, ⟨_, _, rfl⟩⟩, okG_nil, Int.le_refl _, by show (0 : Int) ≤ 100; omega⟩, .refl _, by first | trivial | rfl⟩)
 simp only [eN] at key
 have hst := stp_nodesR hok 0
 have hp : parsR s = nodesR 0 (ps1 s) := rfl
 unfold parsDefs
 rw [← hp] at hst
 generalize parsR s = r at key hst ⊢
 obtain ⟨rb, ⟨body, w⟩, s2⟩ := r
 cases rb with
 | some b =>
  simp only [Option.isSome_some, cond_true, Option.getD_some] at key ⊢
  exact (layPar_ok.callF rfl key).sub (.refl _) ⟨hsub _ _, rfl⟩
 | none =>
  simp only [Option.isSome_none, cond_false] at key ⊢
  have hlen : 0 < s2.defs.length := by
   have h1 : (ps1 s).defs.length ≤ s2.defs.length := hst.2.2.1
   have h2 : (ps1 s).defs.length = 1 := rfl
   omega
  have hl2 : (s2.defs.map encDf).length = s2.defs.length := List.length_map _
  have c1 : (s2.ver == s2.ver && true && decide ((0 : Int) < ((s2.defs.map encDf).length : Int))) = true := by rw [hl2, dT (by omega)]; simp
  have c2 : (s2.ver == s2.ver) = true := by simp
  have c3 : (s2.ver == s2.ver && decide (0 < (s2.defs.map encDf).length) && true) = true := by rw [hl2, dT hlen]; simp
  replace key := keyT (keyT (keyT key c1) c2) c3
  have e5 := set_enc s2.defs 0 hlen (bodyV body) ⟨_, _, _, rfl⟩
  have e6 : (s2.defs.map encDf).length = ((s2.defs.set 0 (mkDf (s2.defs.getD 0 df0).name (bodyV body))).map encDf).length := by rw [List.length_map, List.length_map, List.length_set]
  generalize hds : s2.defs.set 0 (mkDf (s2.defs.getD 0 df0).name (bodyV body)) = ds at e5 e6 ⊢
  have key2 : ∀ k : Out → Ans, iFun Tryz.prog ((layPar (okNd 40000)).hd Tryz.prog) (layPar (okNd 40000)).fhs 0 6 [.str s] [] k = k (.ret (.tuple [.own 3 0 (ds.map encDf).length s2.ver false, .int .i64 (s.length : Int), .int .i64 0])
   [.var [.own 3 0 (ds.map encDf).length s2.ver false], .var [.int .i64 (s.length : Int)], .var [.int .i64 0], .arr 2 (ds.map encDf) s2.ver, .var [encIts s2.items, .own 3 0 (ds.map encDf).length s2.ver false, .int .i64 s2.left, .int .i64 s2.size]]) := fun k => (key k).trans (by rw [← e6, ← e5])
  obtain ⟨v, g1, g2⟩ := freeze_rows (f := encDf) (d := df0) (l := ds) (k := 3) (sz := 2) (u := s2.ver) (H := [.var [.own 3 0 (ds.map encDf).length s2.ver false], .var [.int .i64 (s.length : Int)], .var [.int .i64 0], .arr 2 (ds.map encDf) s2.ver, .var [encIts s2.items, .own 3 0 (ds.map encDf).length s2.ver false, .int .i64 s2.left, .int .i64 s2.size]]) rfl (fun a => rfl)
  exact ((layPar_ok.call key2).freeze (d := 3) (freeze_t3 g1)).sub (.refl _) ⟨Sub.tuple (.cons g2 (.refl _)), rfl⟩
noncomputable def parsTold : FSp := mkFS [.s] (fun _ => true) (fun xs k => k (.ret (.tuple [encDfs false (parsD (aS xs 0)), .int .i64 (parsA (aS xs 0)), .int .i64 (parsE (aS xs 0))]) []))
theorem parsTold_ok : ∀ xs H k out, parsTold xs H k = some out → ∃ o, CallOK Tryz.prog 6 xs H o ∧ k o = some out := mkFS_ok fun ys xs e h => by
 obtain ⟨s, rfl⟩ : ∃ s, xs = [.str s] := ⟨_, e⟩
 exact ⟨_, fun k => rfl, pars_call s⟩
end Go.Mu
namespace Go.Mu
open Go Go.Proofs
def wfV : Nat → AVal → Prop
 | 0, _ => False
 | d + 1, x => wfL wfNd x = true ∧ lenL x ≤ 1099511627776 ∧ ∀ n ∈ nodes x, wfV d n.body ∧ wfV d n.els
def cntV : Nat → AVal → Nat
 | 0, _ => 0
 | d + 1, x => (nodes x).length + ((nodes x).map (fun n => cntV d n.body + cntV d n.els)).sum
def dpF (f : AVal → Nat) (m : Nat) (n : NdD) : Nat := max m (1 + max (f n.body) (f n.els))
def dpV : Nat → AVal → Nat
 | 0, _ => 0
 | d + 1, x => (nodes x).foldl (dpF (dpV d)) 0
structure SzA where
 f : Bool
 l : List NdD
 H : Heap
end Go.Mu
namespace Go.Mu
open Go Go.Proofs
theorem mem_getD {l : List NdD} {i : Nat} (h : i < l.length) : l.getD i nd0 ∈ l := by
 simp only [gQ, List.getElem?_eq_getElem h, Option.getD_some]
 exact List.getElem_mem h
end Go.Mu
namespace Go.Mu
open Go Go.Proofs
noncomputable def layAl20 : Lay := Lay.nil.addF 6 parsTold
theorem al20_fun (k : Out → Ans) : iFun Tryz.prog (layAl20.hd Tryz.prog) layAl20.fhs 0 5 [] [] k = (
 k (Out.ret (AVal.bool true) [])) := by kernel_rfl
structure MyA where
 s : Oc
 l : List DfD
 n : Int
def sumD (d : Nat) (l : List DfD) : Nat := (l.map (fun x => cntV d x.body)).sum
end Go.Mu
namespace Go.Mu
open Go Go.Proofs
end Go.Mu
namespace Go.Mu
open Go Go.Proofs
def OkD (d : DfD) : Prop := wfV 18 d.body ∧ dpV 18 d.body ≤ 17
def Tot (l : List DfD) : Nat := sumD 18 l
def NmOk (l : List DfD) : Prop := 1 ≤ l.length ∧ ∀ i, i < l.length → (i == 0) = ((l.getD i df0).name == [])
structure InvP (L : Nat) (s : PsD) : Prop where
 it : ∀ x ∈ s.items, okPl L x
 left : s.left = (L : Int)
 z0 : 0 ≤ s.size
 z1 : s.size ≤ 1024
 tot : (Tot s.defs : Int) ≤ s.size
 defs : ∀ d ∈ s.defs, OkD d
 nm : NmOk s.defs
end Go.Mu
namespace Go.Mu
open Go Go.Proofs
theorem defs_then {α β : Type} {r : PRes α} {d : β} {f : α → PsD → PRes β} {n : Nat} (h : n ≤ r.s.defs.length) (hf : r.s.defs.length ≤ (f r.v r.s).s.defs.length) : n ≤ (r.andThen d f).s.defs.length := by
 unfold PRes.andThen
 cases r.bad with
 | some b => exact h
 | none => exact Nat.le_trans h hf
theorem defs_bif {α : Type} {c : Bool} {a b : PRes α} {n : Nat} (h1 : n ≤ a.s.defs.length) (h2 : n ≤ b.s.defs.length) : n ≤ (bif c then a else b).s.defs.length := by cases c <;> assumption
theorem defs_count (a : Int) (s : PsD) : s.defs.length ≤ (countP a s).s.defs.length := defs_bif (Nat.le_refl _) (Nat.le_refl _)
theorem defs_pipe (w : PcD) (n : Nat) (s : PsD) : s.defs.length ≤ (pipeP w n s).s.defs.length := by rw [pipe_it]; exact Nat.le_refl _
theorem defs_called (w : PcD) (s : PsD) : s.defs.length ≤ (calledP w s).s.defs.length := by rw [called_it]; exact Nat.le_refl _
theorem defs_single (w : PcD) (s : PsD) : s.defs.length ≤ (singleP w s).s.defs.length := by
 unfold singleP
 exact defs_then (defs_count _ _) (defs_bif (defs_then (defs_called _ _) (defs_bif (defs_then (defs_pipe _ _ _) (Nat.le_refl _)) (Nat.le_refl _))) (defs_bif (defs_bif (defs_then (defs_pipe _ _ _) (Nat.le_refl _)) (Nat.le_refl _)) (defs_then (defs_pipe _ _ _) (Nat.le_refl _))))
theorem defs_text (out : List NdD) (x : ItemD) (s : PsD) : s.defs.length ≤ (textP out x s).s.defs.length := defs_bif (Nat.le_refl _) (defs_then (defs_count _ _) (Nat.le_refl _))
theorem defs_all : ∀ (f : Nat), (∀ deep out s, s.defs.length ≤ (loopP f deep out s).s.defs.length) ∧ (∀ kind w n deep s, s.defs.length ≤ (blockP f kind w n deep s).s.defs.length) ∧ (∀ w s, s.defs.length ≤ (defineP f w s).s.defs.length)
 | 0 => ⟨fun _ _ _ => Nat.le_refl _, fun _ _ _ _ _ => Nat.le_refl _, fun _ _ => Nat.le_refl _⟩
 | f + 1 => by
  obtain ⟨hl, hb, hd⟩ := defs_all f
  have hn : ∀ deep s, s.defs.length ≤ ((loopP f deep [] s).andThen ([], pc0) (endP deep)).s.defs.length := fun deep s => defs_then (hl _ _ _) (by rw [end_it]; exact Nat.le_refl _)
  refine ⟨fun deep out s => ?_, fun kind w n deep s => ?_, fun w s => ?_⟩
  · rw [loopP]
    cases e : s.items with
    | nil => exact Nat.le_refl _
    | cons x r =>
     refine defs_bif (defs_then (defs_text out x { s with items := r }) (hl _ _ _)) (defs_then (by rw [words_it]; exact Nat.le_refl _) ?_)
     exact defs_bif (defs_bif (Nat.le_refl _) (Nat.le_refl _)) (defs_bif (defs_bif (defs_then (hd _ _) (hl _ _ _)) (Nat.le_refl _)) (defs_bif (defs_then (hb _ _ _ _ _) (hl _ _ _)) (defs_then (defs_single _ _) (hl _ _ _))))
  · rw [blockP]
    refine defs_then (defs_count _ _) (defs_then (defs_pipe _ _ _) (defs_bif (defs_then (hn _ _) ?_) (Nat.le_refl _)))
    exact defs_bif (defs_bif (defs_bif (defs_then (hb _ _ _ _ _) (Nat.le_refl _)) (Nat.le_refl _)) (Nat.le_refl _)) (defs_bif (defs_then (hn _ _) (defs_bif (Nat.le_refl _) (Nat.le_refl _))) (defs_bif (Nat.le_refl _) (Nat.le_refl _)))
  · rw [defineP]
    refine defs_then (defs_called _ _) (defs_bif (defs_bif (Nat.le_refl _) (defs_then (Nat.le_trans ?_ (hn _ _)) (defs_bif ?_ (Nat.le_refl _)))) (Nat.le_refl _))
    · show _ ≤ ((calledP w s).s.defs ++ _).length
      rw [List.length_append]; omega
    · show _ ≤ (List.set _ _ _).length
      rw [List.length_set]; exact Nat.le_refl _
theorem nodes_defs (f : Nat) (deep : Int) (s : PsD) : s.defs.length ≤ ((loopP f deep [] s).andThen ([], pc0) (endP deep)).s.defs.length := defs_then ((defs_all f).1 _ _ _) (by rw [end_it]; exact Nat.le_refl _)
end Go.Mu
namespace Go.Mu
open Go Go.Proofs
abbrev wk (w : WdD) : Int × Oc := (w.kind, w.text)
abbrev SameW (l m : List WdD) : Prop := m.map wk = l.map wk
theorem sameW_len {l m : List WdD} (h : SameW l m) : m.length = l.length := by
 have := congrArg List.length h
 simpa using this
theorem sameW_get {l m : List WdD} (h : SameW l m) (i : Nat) : (m.getD i wd0).kind = (l.getD i wd0).kind ∧ (m.getD i wd0).text = (l.getD i wd0).text := by
 have e : (m.map wk).getD i (wk wd0) = (l.map wk).getD i (wk wd0) := by rw [h]
 have e1 : ∀ l : List WdD, (l.map wk).getD i (wk wd0) = wk (l.getD i wd0) := fun l => by
  simp only [gQ, List.getElem?_map]
  cases l[i]? <;> rfl
 rw [e1, e1] at e
 exact ⟨congrArg Prod.fst e, congrArg Prod.snd e⟩
theorem sameW_drop {l m : List WdD} (h : SameW l m) (n : Nat) : SameW (l.drop n) (m.drop n) := by
 unfold SameW
 rw [List.map_drop, List.map_drop, h]
theorem sameW_take {l m : List WdD} (h : SameW l m) (n : Nat) : SameW (l.take n) (m.take n) := by
 unfold SameW
 rw [List.map_take, List.map_take, h]
theorem sameW_tail {l m : List WdD} (h : SameW l m) : SameW l.tail m.tail := by
 unfold SameW
 rw [List.map_tail, List.map_tail, h]
theorem argE_wk {w x : WdD} (h : wk x = wk w) : argE x = argE w := by
 have h1 : x.kind = w.kind := congrArg Prod.fst h
 have h2 : x.text = w.text := congrArg Prod.snd h
 obtain ⟨a, b, c⟩ := w
 obtain ⟨a', b', c'⟩ := x
 simp only at h1 h2
 subst h1 h2
 rfl
theorem argA_wk {w x : WdD} (h : wk x = wk w) : argA x = argA w := by
 have h1 : x.kind = w.kind := congrArg Prod.fst h
 have h2 : x.text = w.text := congrArg Prod.snd h
 obtain ⟨a, b, c⟩ := w
 obtain ⟨a', b', c'⟩ := x
 simp only at h1 h2
 subst h1 h2
 rfl
theorem isName_wk {w x : WdD} (h : wk x = wk w) : isName x = isName w := by
 have h1 : x.kind = w.kind := congrArg Prod.fst h
 have h2 : x.text = w.text := congrArg Prod.snd h
 obtain ⟨a, b, c⟩ := w
 obtain ⟨a', b', c'⟩ := x
 simp only at h1 h2
 subst h1 h2
 rfl
theorem isSig_wk {w x : WdD} (h : wk x = wk w) : isSig x = isSig w := by
 have h1 : x.kind = w.kind := congrArg Prod.fst h
 have h2 : x.text = w.text := congrArg Prod.snd h
 obtain ⟨a, b, c⟩ := w
 obtain ⟨a', b', c'⟩ := x
 simp only at h1 h2
 subst h1 h2
 rfl
theorem argsM_wk : ∀ (l m : List WdD), SameW l m → (argsM m).1 = (argsM l).1 ∧ (argsM m).2.map Prod.snd = (argsM l).2.map Prod.snd
 | [], [], _ => ⟨rfl, rfl⟩
 | [], x :: m, h => by simp [SameW] at h
 | w :: l, [], h => by simp [SameW] at h
 | w :: l, x :: m, h => by
  simp only [SameW, List.map_cons, List.cons.injEq] at h
  obtain ⟨h1, h2⟩ := h
  obtain ⟨i1, i2⟩ := argsM_wk l m h2
  rw [argsM, argsM, argE_wk h1, argA_wk h1]
  cases argE w == 0 with
  | true => exact ⟨by simp only [cond_true, i1], i2⟩
  | false => exact ⟨rfl, rfl⟩
theorem calE_wk {w x : WdD} {r q : List WdD} (h : wk x = wk w) (hr : SameW r q) (ah : Bool) : (calE x q ah).map Prod.snd = (calE w r ah).map Prod.snd := by
 have h2 : x.text = w.text := congrArg Prod.snd h
 obtain ⟨i1, i2⟩ := argsM_wk r q hr
 unfold calE
 rw [isName_wk h, h2, i1]
 cases isName w with
 | true =>
  simp only [cond_true]
  cases !(ar w.text).2.2 with
  | true => rfl
  | false =>
   simp only [cond_false]
   cases e1 : (argsM r).2 with
   | some a =>
    rw [e1] at i2
    cases e2 : (argsM q).2 with
    | some b => rw [e2] at i2; exact i2
    | none => rw [e2] at i2; simp at i2
   | none =>
    rw [e1] at i2
    cases e2 : (argsM q).2 with
    | some b => rw [e2] at i2; simp at i2
    | none =>
     simp only
     generalize (decide ((((argsM r).1.length + (bif ah then 1 else 0) : Nat) : Int) ≥ (ar w.text).1) && decide ((((argsM r).1.length + (bif ah then 1 else 0) : Nat) : Int) ≤ (ar w.text).2.1)) = c
     cases c <;> rfl
 | false =>
  simp only [cond_false]
  rw [argE_wk h]
  cases ah with
  | true => rfl
  | false =>
   simp only [cond_false]
   cases argE w == 0 with
   | true =>
    simp only [cond_true]
    cases r with
    | nil => cases q with
     | nil => rfl
     | cons y q => simp [SameW] at hr
    | cons y r => cases q with
     | nil => simp [SameW] at hr
     | cons z q => rfl
   | false => rfl
theorem calC_wk {w x : WdD} {r q : List WdD} (h : wk x = wk w) (hr : SameW r q) : calC x q = calC w r := by
 have h2 : x.text = w.text := congrArg Prod.snd h
 unfold calC
 rw [isName_wk h, h2, (argsM_wk r q hr).1, argA_wk h]
theorem hdW_wk {l m : List WdD} (h : SameW l m) : wk (hdW m) = wk (hdW l) := by
 cases l with
 | nil => cases m with
  | nil => rfl
  | cons y m => simp [SameW] at h
 | cons y l => cases m with
  | nil => simp [SameW] at h
  | cons z m => simp only [SameW, List.map_cons, List.cons.injEq] at h; exact h.1
theorem pPos_wk : ∀ {l m : List WdD}, SameW l m → pPos m = pPos l := by
 have : ∀ (l m : List WdD), SameW l m → m.findIdx isSig = l.findIdx isSig := by
  intro l
  induction l with
  | nil => intro m h; cases m with
   | nil => rfl
   | cons y m => simp [SameW] at h
  | cons w l ih => intro m h; cases m with
   | nil => simp [SameW] at h
   | cons x m =>
    simp only [SameW, List.map_cons, List.cons.injEq] at h
    rw [List.findIdx_cons, List.findIdx_cons, isSig_wk h.1, ih m h.2]
 exact @fun l m h => this l m h
theorem parM_wk : ∀ (n : Nat) (l m : List WdD) (cs : List CallD) (a b : Int), SameW l m → (parM n m cs b).1.map Prod.snd = (parM n l cs a).1.map Prod.snd ∧ (parM n m cs b).2 = (parM n l cs a).2
 | 0, _, _, _, _, _, _ => ⟨rfl, rfl⟩
 | n + 1, l, m, cs, a, b, h => by
  have e1 := hdW_wk h
  have e2 := pPos_wk h
  have e3 : (hdW m).kind = (hdW l).kind := congrArg Prod.fst e1
  have e4 : paC m = paC l := by unfold paC; rw [e2]; exact calC_wk (hdW_wk (sameW_take h _)) (sameW_tail (sameW_take h _))
  have e5 := fun ah => calE_wk (hdW_wk (sameW_take h (pPos l))) (sameW_tail (sameW_take h (pPos l))) ah
  have e6 := sameW_len h
  have e7 := (sameW_get h (pPos l)).2
  rw [parM, parM, e3, e4]
  unfold paE
  rw [e2, e6, e7]
  cases (hdW l).kind == 6 with
  | true => exact ⟨rfl, rfl⟩
  | false =>
   simp only [cond_false]
   have e8 := e5 (decide (0 < cs.length))
   cases c1 : calE (hdW (l.take (pPos l))) (l.take (pPos l)).tail (decide (0 < cs.length)) with
   | some x =>
    rw [c1] at e8
    cases c2 : calE (hdW (m.take (pPos l))) (m.take (pPos l)).tail (decide (0 < cs.length)) with
    | some y => rw [c2] at e8; exact ⟨e8, rfl⟩
    | none => rw [c2] at e8; simp at e8
   | none =>
    rw [c1] at e8
    cases c2 : calE (hdW (m.take (pPos l))) (m.take (pPos l)).tail (decide (0 < cs.length)) with
    | some y => rw [c2] at e8; simp at e8
    | none =>
     simp only
     cases !decide (cs.length < 16) with
     | true => exact ⟨rfl, rfl⟩
     | false =>
      simp only [cond_false]
      cases pPos l == l.length with
      | true => exact ⟨rfl, rfl⟩
      | false =>
       simp only [cond_false]
       cases !(l.getD (pPos l) wd0).text == [124] with
       | true => exact ⟨rfl, rfl⟩
       | false =>
        simp only [cond_false]
        cases !decide (pPos l + 1 < l.length) with
        | true => exact ⟨rfl, rfl⟩
        | false => exact parM_wk n _ _ _ a b (sameW_drop h _)
theorem parR_wk {l m : List WdD} (h : SameW l m) (a b : Int) : (parR m b).1 = (parR l a).1 ∧ (parR m b).2.2 = (parR l a).2.2 := by
 have hl := sameW_len h
 unfold parR
 cases l with
 | nil => cases m with
  | nil => exact ⟨rfl, rfl⟩
  | cons y m => simp [SameW] at h
 | cons w l => cases m with
  | nil => simp [SameW] at h
  | cons x m =>
   simp only [List.isEmpty_cons, cond_false]
   rw [hl]
   obtain ⟨i1, i2⟩ := parM_wk (w :: l).length (w :: l) (x :: m) [] a b h
   revert i1 i2
   generalize parM (w :: l).length (x :: m) [] b = p
   generalize parM (w :: l).length (w :: l) [] a = q
   intro i1 i2
   obtain ⟨pe, pc⟩ := p
   obtain ⟨qe, qc⟩ := q
   cases pe with
   | some y => cases qe with
    | some z => exact ⟨rfl, by simpa using i1⟩
    | none => simp at i1
   | none => cases qe with
    | some z => simp at i1
    | none => exact ⟨i2, rfl⟩
end Go.Mu
namespace Go.Mu
open Go Go.Proofs
abbrev ik (i : ItemD) : Int × Oc := (i.kind, i.text)
def RelL (R : NdD → NdD → Prop) : List NdD → List NdD → Prop
 | [], [] => True
 | a :: l, b :: m => R a b ∧ RelL R l m
 | _, _ => False
def NdEqF (E : AVal → AVal → Prop) (n m : NdD) : Prop := n.kind = m.kind ∧ n.text = m.text ∧ n.name = m.name ∧ (n.pf = m.pf ∧ n.pn = m.pn ∧ n.pr = m.pr) ∧ E n.body m.body ∧ E n.els m.els
def EqV : Nat → AVal → AVal → Prop
 | 0, _, _ => True
 | d + 1, x, y => RelL (NdEqF (EqV d)) (nodes x) (nodes y)
def RelN (l m : List NdD) : Prop := ∀ d, RelL (NdEqF (EqV d)) l m
def Nd1 (n m : NdD) : Prop := ∀ d, NdEqF (EqV d) n m
theorem relL_snoc {R : NdD → NdD → Prop} : ∀ {l m : List NdD} {a b : NdD}, RelL R l m → R a b → RelL R (l ++ [a]) (m ++ [b])
 | [], [], _, _, _, h => ⟨h, trivial⟩
 | [], _ :: _, _, _, h, _ => h.elim
 | _ :: _, [], _, _, h, _ => h.elim
 | x :: l, y :: m, a, b, h, g => ⟨h.1, relL_snoc h.2 g⟩
theorem relL_len {R : NdD → NdD → Prop} : ∀ {l m : List NdD}, RelL R l m → m.length = l.length
 | [], [], _ => rfl
 | [], _ :: _, h => h.elim
 | _ :: _, [], h => h.elim
 | x :: l, y :: m, h => by rw [List.length_cons, List.length_cons, relL_len h.2]
theorem relL_get {R : NdD → NdD → Prop} : ∀ {l m : List NdD} (i : Nat), RelL R l m → i < l.length → R (l.getD i nd0) (m.getD i nd0)
 | [], _, i, _, hi => by simp at hi
 | _ :: _, [], _, h, _ => h.elim
 | x :: l, y :: m, 0, h, _ => h.1
 | x :: l, y :: m, i + 1, h, hi => relL_get i h.2 (by simpa using hi)
theorem relL_set {R : NdD → NdD → Prop} : ∀ {l m : List NdD} (i : Nat) {a b : NdD}, RelL R l m → R a b → RelL R (l.set i a) (m.set i b)
 | [], [], _, _, _, _, _ => trivial
 | [], _ :: _, _, _, _, h, _ => h.elim
 | _ :: _, [], _, _, _, h, _ => h.elim
 | x :: l, y :: m, 0, a, b, h, g => ⟨g, h.2⟩
 | x :: l, y :: m, i + 1, a, b, h, g => ⟨h.1, relL_set i h.2 g⟩
theorem eqV_body {l m : List NdD} (h : RelN l m) : ∀ d, EqV d (bodyV l) (bodyV m)
 | 0 => trivial
 | d + 1 => by
  show RelL _ (nodes (encNds false l)) (nodes (encNds false m))
  rw [nodes_enc, nodes_enc]; exact h d
theorem eqV_one {n m : NdD} (h : Nd1 n m) : ∀ d, EqV d (oneV n) (oneV m)
 | 0 => trivial
 | d + 1 => ⟨h d, trivial⟩
theorem eqV_nil : ∀ d, EqV d nilList nilList
 | 0 => trivial
 | d + 1 => trivial
theorem nd1_mk (k : Int) (t n : Nm) (p b b2 e e2 : AVal) (a a2 : Int) (hb : ∃ f n r, b = .list f n r) (hb2 : ∃ f n r, b2 = .list f n r) (he : ∃ f n r, e = .list f n r) (he2 : ∃ f n r, e2 = .list f n r) (h1 : ∀ d, EqV d b b2) (h2 : ∀ d, EqV d e e2) : Nd1 (mkNd k t n p b e a) (mkNd k t n p b2 e2 a2) := fun d => by
 obtain ⟨_, _, _, rfl⟩ := hb
 obtain ⟨_, _, _, rfl⟩ := hb2
 obtain ⟨_, _, _, rfl⟩ := he
 obtain ⟨_, _, _, rfl⟩ := he2
 exact ⟨rfl, rfl, rfl, ⟨rfl, rfl, rfl⟩, h1 d, h2 d⟩
theorem nd1_leaf (k : Int) (t n : Nm) (p : AVal) (a a2 : Int) : Nd1 (mkNd k t n p nilList nilList a) (mkNd k t n p nilList nilList a2) := nd1_mk k t n p _ _ _ _ a a2 ⟨_, _, _, rfl⟩ ⟨_, _, _, rfl⟩ ⟨_, _, _, rfl⟩ ⟨_, _, _, rfl⟩ eqV_nil eqV_nil
def SimS (s t : PsD) : Prop := (∃ l e, t.items = l ++ [e] ∧ l.map ik = s.items.map ik ∧ ik e = (2, sEnd)) ∧ t.size = s.size + 1 ∧ t.defs.length = s.defs.length
def SimW (w v : PcD) : Prop := SameW w.words v.words ∧ v.head = w.head
def Err2 {α : Type} (r : PRes α) : Prop := ∃ b, r.bad = some b ∧ (b.2 = 3 ∨ b.2 = 42)
theorem err2_then {α β : Type} {r : PRes α} {d : β} {f : α → PsD → PRes β} (h : Err2 r) : Err2 (r.andThen d f) := by
 obtain ⟨b, h1, h2⟩ := h
 refine ⟨b, ?_, h2⟩
 unfold PRes.andThen
 rw [h1]
def SimR {α : Type} (R : α → α → Prop) (r q : PRes α) : Prop := Err2 q ∨ (q.bad = none ∧ R r.v q.v ∧ SimS r.s q.s)
theorem sim_then {α β : Type} {R : α → α → Prop} {Q : PRes β → PRes β → Prop} {r q : PRes α} {d e : β} {f g : α → PsD → PRes β} (h : SimR R r q) (hq : ∀ q', Err2 q' → Q (r.andThen d f) q') (hr : r.bad = none)
 (hf : R r.v q.v → SimS r.s q.s → Q (f r.v r.s) (g q.v q.s)) : Q (r.andThen d f) (q.andThen e g) := by
 rcases h with h | ⟨h1, h2, h3⟩
 · exact hq _ (err2_then h)
 · rw [at_ok hr, at_ok h1]
   exact hf h2 h3
theorem sim_count {s t : PsD} (h : SimS s t) (a b : Int) (hb : (countP a s).bad = none) : SimR (fun _ _ => True) (countP a s) (countP b t) := by
 obtain ⟨h1, h2⟩ := h
 unfold countP at hb ⊢
 by_cases hc : s.size < 1024
 · by_cases hd : t.size < 1024
   · right
     rw [dT hc, dT hd]
     exact ⟨rfl, trivial, h1, by show t.size + 1 = s.size + 1 + 1; have := h2.1; omega, h2.2⟩
   · left
     rw [dF hd]
     exact ⟨_, rfl, .inl rfl⟩
 · rw [dF hc] at hb; simp [psBad] at hb
theorem sim_pipe {s t : PsD} (h : SimS s t) {w v : PcD} (hw : SimW w v) (n : Nat) (hb : (pipeP w n s).bad = none) : SimR (fun a b => b = a) (pipeP w n s) (pipeP v n t) := by
 obtain ⟨e1, e2⟩ := parR_wk (sameW_drop hw.1 n) w.at_ v.at_
 unfold pipeP at hb ⊢
 have e3 : (pipR v n).2.2 = (pipR w n).2.2 := e2
 have e4 : (pipR v n).1 = (pipR w n).1 := e1
 rw [e3, e4]
 cases hc : (pipR w n).2.2 == 0 with
 | true => exact .inr ⟨rfl, rfl, h⟩
 | false => rw [hc] at hb; simp [psBad] at hb
theorem sim_called {s t : PsD} (h : SimS s t) {w v : PcD} (hw : SimW w v) (hb : (calledP w s).bad = none) : SimR (fun a b => b = a) (calledP w s) (calledP v t) := by
 obtain ⟨e1, e2⟩ := sameW_get hw.1 1
 have e3 := sameW_len hw.1
 unfold calledP at hb ⊢
 rw [e1, e2, e3]
 cases hk : decide (1 < w.words.length) && (w.words.getD 1 wd0).kind == 5 with
 | false => rw [hk] at hb; simp [psBad] at hb
 | true =>
  rw [hk] at hb
  simp only [cond_true] at hb ⊢
  cases hn : nameB (w.words.getD 1 wd0).text with
  | false => rw [hn] at hb; simp [psBad] at hb
  | true => exact .inr ⟨rfl, rfl, h⟩
theorem wds_ik {x y : ItemD} (h : ik y = ik x) : wdsE y = wdsE x ∧ SameW (wdsL x) (wdsL y) := by
 have ht : y.text = x.text := congrArg Prod.snd h
 unfold wdsE wdsL
 rw [ht]
 refine ⟨rfl, ?_⟩
 cases (wordsE x.text).isSome with
 | true => rfl
 | false =>
  simp only [cond_false, SameW, List.map_map]
  rfl
theorem sim_words {s t : PsD} (h : SimS s t) {x y : ItemD} (hx : ik y = ik x) (hb : (wordsP x s).bad = none) : SimR SimW (wordsP x s) (wordsP y t) := by
 obtain ⟨e1, e2⟩ := wds_ik hx
 have e3 := sameW_len e2
 obtain ⟨e4, e5⟩ := sameW_get e2 0
 unfold wordsP at hb ⊢
 rw [e1, e3]
 cases he : wdsE x == 0 with
 | false => rw [he] at hb; simp [psBad] at hb
 | true =>
  rw [he] at hb
  simp only [cond_true] at hb ⊢
  cases hl : decide (0 < (wdsL x).length) with
  | false => rw [hl] at hb; simp [psBad] at hb
  | true =>
   refine .inr ⟨rfl, ⟨e2, ?_⟩, h⟩
   show headW (wdsL y) = headW (wdsL x)
   unfold headW
   rw [e4, e5]
theorem sim_single {s t : PsD} (h : SimS s t) {w v : PcD} (hw : SimW w v) (hb : (singleP w s).bad = none) : SimR Nd1 (singleP w s) (singleP v t) := by
 obtain ⟨k0, t0⟩ := sameW_get hw.1 0
 obtain ⟨k1, t1⟩ := sameW_get hw.1 1
 have hl := sameW_len hw.1
 unfold singleP at hb ⊢
 obtain ⟨h1, h2⟩ := at_none hb
 rw [h2] at hb
 refine sim_then (Q := SimR Nd1) (sim_count h _ v.at_ h1) (fun q hq => .inl hq) h1 (fun _ hs => ?_)
 revert hb hs
 generalize (countP w.at_ s).s = s
 generalize (countP v.at_ t).s = t
 intro hb hs
 rw [hw.2, k0, t0, k1, t1, hl]
 have pp : ∀ n (k : Int) (nm : Nm), ((pipeP w n s).andThen nd0 fun p s => psOk (mkNd k [] nm (pipeV p) nilList nilList w.at_) s).bad = none →
  SimR Nd1 ((pipeP w n s).andThen nd0 fun p s => psOk (mkNd k [] nm (pipeV p) nilList nilList w.at_) s) ((pipeP v n t).andThen nd0 fun p s => psOk (mkNd k [] nm (pipeV p) nilList nilList v.at_) s) := fun n k nm hb => by
  obtain ⟨g1, _⟩ := at_none hb
  refine sim_then (Q := SimR Nd1) (sim_pipe hs hw n g1) (fun q hq => .inl hq) g1 (fun hp hs2 => ?_)
  refine .inr ⟨rfl, ?_, hs2⟩
  show Nd1 (mkNd k [] nm (pipeV (pipeP w n s).v) nilList nilList w.at_) (mkNd k [] nm (pipeV (pipeP v n t).v) nilList nilList v.at_)
  rw [hp]; exact nd1_leaf _ _ _ _ _ _
 cases hT : w.head == sTemplate with
 | true =>
  rw [hT] at hb
  simp only [cond_true] at hb ⊢
  obtain ⟨g1, g2⟩ := at_none hb
  rw [g2] at hb
  refine sim_then (Q := SimR Nd1) (sim_called hs hw g1) (fun q hq => .inl hq) g1 (fun hn hs2 => ?_)
  have c1 : (calledP w s).s = s := called_it w s
  have c2 : (calledP v t).s = t := called_it v t
  rw [hn, c1, c2]
  rw [c1] at hb
  cases hl2 : decide (2 < w.words.length) with
  | true => rw [hl2] at hb; exact pp 2 6 _ hb
  | false => exact .inr ⟨rfl, nd1_leaf _ _ _ _ _ _, hs⟩
 | false =>
  rw [hT] at hb
  simp only [cond_false] at hb ⊢
  cases hv : (w.words.getD 0 wd0).kind == 3 && decide (1 < w.words.length) && (w.words.getD 1 wd0).text == [58, 61] && (w.words.getD 1 wd0).kind == 6 with
  | true =>
   rw [hv] at hb
   simp only [cond_true] at hb ⊢
   cases hn : nameB (w.words.getD 0 wd0).text.tail with
   | true => rw [hn] at hb; exact pp 2 7 _ hb
   | false => rw [hn] at hb; simp [psBad] at hb
  | false => rw [hv] at hb; exact pp 0 2 _ hb
theorem lastN_rel {l m : List NdD} (h : RelN l m) (hi : 0 < l.length) : Nd1 (lastN l) (lastN m) := fun d => by
 unfold lastN
 rw [relL_len (h d)]
 exact relL_get _ (h d) (by omega)
theorem sim_text {s t : PsD} (h : SimS s t) {x y : ItemD} (hx : ik y = ik x) {l m : List NdD} (ho : RelN l m) (hb : (textP l x s).bad = none) : SimR RelN (textP l x s) (textP m y t) := by
 have ht : y.text = x.text := congrArg Prod.snd hx
 have hl := relL_len (ho 0)
 unfold textP at hb ⊢
 rw [hl]
 by_cases h0 : 0 < l.length
 · have hn := lastN_rel ho h0
   rw [dT h0] at hb ⊢
   simp only [Bool.true_and] at hb ⊢
   rw [← (hn 0).1]
   cases hk : (lastN l).kind == 1 with
   | true =>
    refine .inr ⟨rfl, fun d => ?_, h⟩
    have g := hn d
    refine relL_set _ (ho d) ⟨rfl, ?_, g.2.2.1, g.2.2.2.1, g.2.2.2.2.1, g.2.2.2.2.2⟩
    show (lastN l).text ++ x.text = (lastN m).text ++ y.text
    rw [ht, g.2.1]
   | false =>
    rw [hk] at hb
    simp only [cond_false] at hb ⊢
    obtain ⟨g1, _⟩ := at_none hb
    refine sim_then (Q := SimR RelN) (sim_count h _ y.at_ g1) (fun q hq => .inl hq) g1 (fun _ hs => .inr ⟨rfl, fun d => ?_, hs⟩)
    rw [ht]
    exact relL_snoc (ho d) (nd1_leaf 1 x.text [] nilList x.at_ y.at_ d)
 · rw [dF h0] at hb ⊢
   simp only [Bool.false_and, cond_false] at hb ⊢
   obtain ⟨g1, _⟩ := at_none hb
   refine sim_then (Q := SimR RelN) (sim_count h _ y.at_ g1) (fun q hq => .inl hq) g1 (fun _ hs => .inr ⟨rfl, fun d => ?_, hs⟩)
   rw [ht]
   exact relL_snoc (ho d) (nd1_leaf 1 x.text [] nilList x.at_ y.at_ d)
end Go.Mu
namespace Go.Mu
open Go Go.Proofs
theorem defsR_loop (deep : Int) (out : List NdD) (s : PsD) : s.defs.length ≤ (loopR deep out s).s.defs.length := (defs_all _).1 _ _ _
theorem defsR_block (kind : Int) (w : PcD) (n : Nat) (deep : Int) (s : PsD) : s.defs.length ≤ (blockR kind w n deep s).s.defs.length := (defs_all _).2.1 _ _ _ _ _
theorem defsR_nodes (deep : Int) (s : PsD) : s.defs.length ≤ (nodesR deep s).s.defs.length := nodes_defs _ _ _
theorem define_two {w : PcD} {s : PsD} (h : (defineR w s).bad = none) : s.defs.length + 1 ≤ (defineR w s).s.defs.length := by
 rw [defineR_eq] at h ⊢
 obtain ⟨h1, h2⟩ := at_none h
 rw [h2] at h ⊢
 rw [called_it] at h ⊢
 revert h
 generalize (calledP w s).v = name
 intro h
 cases hl : w.words.length == 2 with
 | false => rw [hl] at h; simp [psBad] at h
 | true =>
  rw [hl] at h
  simp only [cond_true] at h ⊢
  cases ha : s.defs.any (fun d => d.name == name) with
  | true => rw [ha] at h; simp [psBad] at h
  | false =>
   rw [ha] at h
   simp only [cond_false] at h ⊢
   obtain ⟨_, h3⟩ := at_none h
   rw [h3]
   have hd := defsR_nodes 1 { s with defs := s.defs ++ [mkDf name nilList], ver := s.ver + 1 }
   have hd2 : s.defs.length + 1 ≤ (nodesR 1 { s with defs := s.defs ++ [mkDf name nilList], ver := s.ver + 1 }).s.defs.length := by
    refine Nat.le_trans ?_ hd
    show _ ≤ (s.defs ++ [mkDf name nilList]).length
    rw [List.length_append]; exact Nat.le_refl _
   refine defs_bif ?_ hd2
   show _ ≤ (List.set _ _ _).length
   rw [List.length_set]; exact hd2
theorem end_words (e : ItemD) (s : PsD) (h : ik e = (2, sEnd)) : (wordsP e s).bad = none ∧ (wordsP e s).v.head = sEnd ∧ (wordsP e s).v.words.length = 1 ∧ (e.kind == 1) = false := by
 have hk : e.kind = 2 := congrArg Prod.fst h
 have ht : e.text = sEnd := congrArg Prod.snd h
 have e1 : wdsE e = 0 := by unfold wdsE; rw [ht]; rfl
 have e2 : wdsL e = [⟨1, sEnd, e.at_.toNat + 0⟩] := by unfold wdsL; rw [ht]; rfl
 refine ⟨?_, ?_, ?_, by rw [hk]; rfl⟩
 · unfold wordsP; rw [e1, e2]; rfl
 · unfold wordsP; rw [e1, e2]; rfl
 · unfold wordsP; rw [e1, e2]; rfl
def LRes (r q : LoopR) : Prop := Err2 q ∨ (q.bad = none ∧ RelN r.v.1 q.v.1 ∧ ∃ v, q.v.2 = some v ∧ match r.v.2 with
 | some w => SimW w v ∧ SimS r.s q.s
 | none => v.head = sEnd ∧ q.s.items = [] ∧ q.s.defs.length = r.s.defs.length)
theorem loop_end {deep : Int} (hd : 0 ≤ deep) {out : List NdD} {t : PsD} {e : ItemD} (ht : t.items = [e]) (h : ik e = (2, sEnd)) : (loopR (deep + 1) out t).bad = none ∧ (loopR (deep + 1) out t).v.1 = out ∧ ∃ v, (loopR (deep + 1) out t).v.2 = some v ∧ v.head = sEnd ∧ (loopR (deep + 1) out t).s.items = [] ∧ (loopR (deep + 1) out t).s.defs = t.defs := by
 obtain ⟨h1, h2, h3, h4⟩ := end_words e { t with items := [] } h
 rw [loopR_cons ht]
 unfold pieceR
 rw [h4]
 simp only [cond_false]
 rw [at_ok h1, words_it]
 simp only [h2, h3, dT (show deep + 1 > 0 by omega), beq_self_eq_true, Bool.true_or, Bool.or_true, Bool.and_self, cond_true]
 exact ⟨rfl, rfl, _, rfl, h2, rfl, rfl⟩
theorem sim_nodes {deep : Int} (hd : 0 < deep) {s t : PsD} (hb : (nodesR deep s).bad = none) (h : (loopR deep [] s).bad = none → LRes (loopR deep [] s) (loopR (deep + 1) [] t)) :
 SimR (fun a b => RelN a.1 b.1 ∧ SimW a.2 b.2) (nodesR deep s) (nodesR (deep + 1) t) := by
 obtain ⟨h1, h2⟩ := at_none hb
 have hl := h h1
 unfold nodesR at hb ⊢
 rw [h2] at hb ⊢
 rcases hl with hl | ⟨g1, g2, v, g3, g4⟩
 · exact .inl (err2_then hl)
 · rw [at_ok g1]
   cases hw : (loopR deep [] s).v.2 with
   | none =>
    exfalso
    unfold endP at hb
    rw [hw, dF (show ¬ deep = 0 by omega)] at hb
    simp [psBad] at hb
   | some w =>
    rw [hw] at g4
    right
    unfold endP
    rw [hw, g3]
    exact ⟨rfl, ⟨g2, g4.1⟩, g4.2⟩
theorem sim_all : ∀ (n : Nat),
 (∀ (deep : Int) s t out out2, s.items.length ≤ n → 0 ≤ deep → SimS s t → RelN out out2 → (loopR deep out s).bad = none → (loopR deep out s).s.defs.length ≤ 1 → 1 ≤ s.defs.length → LRes (loopR deep out s) (loopR (deep + 1) out2 t)) ∧
 (∀ kind w v k (deep : Int) s t, s.items.length ≤ n → 0 ≤ deep → SimS s t → SimW w v → (blockR kind w k deep s).bad = none → (blockR kind w k deep s).s.defs.length ≤ 1 → 1 ≤ s.defs.length → SimR Nd1 (blockR kind w k deep s) (blockR kind v k (deep + 1) t)) := by
 intro n
 induction n with
 | zero =>
  have hL : ∀ (deep : Int) s t out out2, s.items.length ≤ 0 → 0 ≤ deep → SimS s t → RelN out out2 → (loopR deep out s).bad = none → (loopR deep out s).s.defs.length ≤ 1 → 1 ≤ s.defs.length → LRes (loopR deep out s) (loopR (deep + 1) out2 t) := by
   intro deep s t out out2 hn hd hs ho hb _ _
   have e0 : s.items = [] := List.eq_nil_of_length_eq_zero (by omega)
   obtain ⟨⟨l, e, h1, h2, h3⟩, _, hdf0⟩ := hs
   rw [e0] at h2
   have hl : l = [] := by simpa using h2
   subst hl
   obtain ⟨g1, g2, v, g3, g4, g5, g6⟩ := loop_end hd (out := out2) h1 h3
   rw [loopR_nil e0]
   exact .inr ⟨g1, by rw [g2]; exact ho, v, g3, g4, g5, by rw [g6]; exact hdf0⟩
  refine ⟨hL, fun kind w v k deep s t hn hd hs hw hb hdf hd1 => ?_⟩
  exfalso
  have e0 : s.items = [] := List.eq_nil_of_length_eq_zero (by omega)
  rw [blockR_eq] at hb
  obtain ⟨_, h2⟩ := at_none hb
  rw [h2] at hb
  obtain ⟨_, h3⟩ := at_none hb
  rw [h3, pipe_it] at hb
  cases h16 : decide (deep < 16) with
  | false => rw [h16] at hb; simp [psBad] at hb
  | true =>
   rw [h16] at hb
   simp only [cond_true] at hb
   obtain ⟨h4, _⟩ := at_none hb
   unfold nodesR at h4
   rw [loopR_nil (by rw [count_it]; exact e0)] at h4
   unfold endP psOk PRes.andThen at h4
   simp only [dF (show ¬ deep + 1 = 0 by omega)] at h4
   simp [psBad] at h4
 | succ n ih =>
  obtain ⟨ihL, ihB⟩ := ih
  have hL : ∀ (deep : Int) s t out out2, s.items.length ≤ n + 1 → 0 ≤ deep → SimS s t → RelN out out2 → (loopR deep out s).bad = none → (loopR deep out s).s.defs.length ≤ 1 → 1 ≤ s.defs.length → LRes (loopR deep out s) (loopR (deep + 1) out2 t) := by
   intro deep s t out out2 hn hd hs ho hb hdf hd1
   obtain ⟨⟨l, e, h1, h2, h3⟩, hsz⟩ := hs
   have hdf0 := hsz.2
   cases hit : s.items with
   | nil =>
    rw [hit] at h2
    have hl : l = [] := by simpa using h2
    subst hl
    obtain ⟨g1, g2, v, g3, g4, g5, g6⟩ := loop_end hd (out := out2) h1 h3
    rw [loopR_nil hit]
    exact .inr ⟨g1, by rw [g2]; exact ho, v, g3, g4, g5, by rw [g6]; exact hdf0⟩
   | cons x r =>
    rw [hit] at h2 hn
    simp only [List.length_cons] at hn
    cases l with
    | nil => simp at h2
    | cons y l =>
     simp only [List.map_cons, List.cons.injEq] at h2
     obtain ⟨hxy, h2⟩ := h2
     have hs1 : SimS { s with items := r } { t with items := l ++ [e] } := ⟨⟨l, e, rfl, h2, h3⟩, hsz⟩
     have hd1' : 1 ≤ ({ s with items := r } : PsD).defs.length := hd1
     rw [loopR_cons hit] at hb hdf ⊢
     rw [loopR_cons (show t.items = y :: (l ++ [e]) from h1)]
     have hle : ({ s with items := r } : PsD).items.length ≤ n := by show r.length ≤ n; omega
     revert hle
     revert hd1'
     revert hs1
     revert hdf
     revert hb
     generalize ({ s with items := r } : PsD) = s1
     generalize ({ t with items := l ++ [e] } : PsD) = t1
     intro hb hdf hs1 hd1' hle
     have hkk : y.kind = x.kind := congrArg Prod.fst hxy
     unfold pieceR at hb hdf ⊢
     rw [hkk]
     cases hk : x.kind == 1 with
     | true =>
      rw [hk] at hb hdf
      simp only [cond_true] at hb hdf ⊢
      obtain ⟨g1, g2⟩ := at_none hb
      rw [g2] at hb hdf
      refine sim_then (Q := LRes) (sim_text hs1 hxy ho g1) (fun q hq => .inl hq) g1 (fun ho2 hs2 => ?_)
      exact ihL deep _ _ _ _ (Nat.le_trans (text_it _ _ _) hle) hd hs2 ho2 hb hdf (Nat.le_trans hd1' (defs_text _ _ _))
     | false =>
      rw [hk] at hb hdf
      simp only [cond_false] at hb hdf ⊢
      obtain ⟨g1, g2⟩ := at_none hb
      rw [g2] at hb hdf
      refine sim_then (Q := LRes) (sim_words hs1 hxy g1) (fun q hq => .inl hq) g1 (fun hw hs2 => ?_)
      have c1 : (wordsP x s1).s = s1 := words_it _ _
      have c2 : (wordsP y t1).s = t1 := words_it _ _
      rw [c1] at hb hdf ⊢
      rw [c2]
      revert hw
      revert hdf
      revert hb
      generalize (wordsP x s1).v = w
      generalize (wordsP y t1).v = v
      intro hb hdf hw
      have hwl := sameW_len hw.1
      have hwh := hw.2
      rw [hwh, hwl]
      cases he : w.head == sEnd || w.head == sElse with
      | true =>
       rw [he] at hb hdf
       simp only [cond_true] at hb hdf ⊢
       cases h0 : decide (deep > 0) && (w.head == sElse || w.words.length == 1) with
       | false => rw [h0] at hb; simp [psBad] at hb
       | true =>
        rw [Bool.and_eq_true] at h0
        rw [dT (show deep + 1 > 0 by omega), h0.2]
        exact .inr ⟨rfl, ho, v, rfl, hw, hs1⟩
      | false =>
       rw [he] at hb hdf
       simp only [cond_false] at hb hdf ⊢
       cases hde : w.head == sDefine with
       | true =>
        exfalso
        rw [hde] at hb hdf
        simp only [cond_true] at hb hdf
        cases h0 : decide (deep = 0) with
        | false => rw [h0] at hb; simp [psBad] at hb
        | true =>
         rw [h0] at hb hdf
         simp only [cond_true] at hb hdf
         obtain ⟨k1, k2⟩ := at_none hb
         rw [k2] at hdf
         have := define_two k1
         have := defsR_loop deep out (defineR w s1).s
         omega
       | false =>
        rw [hde] at hb hdf
        simp only [cond_false] at hb hdf ⊢
        cases hkd : decide (kindN w.head ≥ 0) with
        | true =>
         rw [hkd] at hb hdf
         simp only [cond_true] at hb hdf ⊢
         obtain ⟨k1, k2⟩ := at_none hb
         rw [k2] at hb hdf
         have hm := defsR_loop deep (out ++ [(blockR (3 + kindN w.head) w 1 deep s1).v]) (blockR (3 + kindN w.head) w 1 deep s1).s
         refine sim_then (Q := LRes) (ihB _ w v 1 deep s1 t1 hle hd hs1 hw k1 (Nat.le_trans hm hdf) hd1') (fun q hq => .inl hq) k1 (fun hn2 hs3 => ?_)
         exact ihL deep _ _ _ _ (Nat.le_trans (blockR_it _ _ _ _ _) hle) hd hs3 (fun d => relL_snoc (ho d) (hn2 d)) hb hdf (Nat.le_trans hd1' (defsR_block _ _ _ _ _))
        | false =>
         rw [hkd] at hb hdf
         simp only [cond_false] at hb hdf ⊢
         obtain ⟨k1, k2⟩ := at_none hb
         rw [k2] at hb hdf
         refine sim_then (Q := LRes) (sim_single hs1 hw k1) (fun q hq => .inl hq) k1 (fun hn2 hs3 => ?_)
         exact ihL deep _ _ _ _ (Nat.le_trans (single_it _ _) hle) hd hs3 (fun d => relL_snoc (ho d) (hn2 d)) hb hdf (Nat.le_trans hd1' (defs_single _ _))
  refine ⟨hL, fun kind w v k deep s t hn hd hs hw hb hdf hd1 => ?_⟩
  rw [blockR_eq] at hb hdf ⊢
  rw [blockR_eq]
  obtain ⟨h1, h2⟩ := at_none hb
  rw [h2] at hb hdf
  refine sim_then (Q := SimR Nd1) (sim_count hs w.at_ v.at_ h1) (fun q hq => .inl hq) h1 (fun _ hs1 => ?_)
  have hn1 : (countP w.at_ s).s.items.length ≤ n + 1 := by rw [count_it]; exact hn
  have hd2 : 1 ≤ (countP w.at_ s).s.defs.length := Nat.le_trans hd1 (defs_count _ _)
  revert hd2
  revert hn1
  revert hs1
  revert hdf
  revert hb
  generalize (countP w.at_ s).s = s1
  generalize (countP v.at_ t).s = t1
  intro hb hdf hs1 hn1 hd2
  obtain ⟨h3, h4⟩ := at_none hb
  rw [h4] at hb hdf
  refine sim_then (Q := SimR Nd1) (sim_pipe hs1 hw k h3) (fun q hq => .inl hq) h3 (fun hp _ => ?_)
  have c1 : (pipeP w k s1).s = s1 := pipe_it _ _ _
  have c2 : (pipeP v k t1).s = t1 := pipe_it _ _ _
  rw [c1] at hb hdf ⊢
  rw [c2, hp]
  revert hdf
  revert hb
  generalize (pipeP w k s1).v = p
  intro hb hdf
  cases h16 : decide (deep < 16) with
  | false => rw [h16] at hb; simp [psBad] at hb
  | true =>
  rw [h16] at hb hdf
  simp only [cond_true] at hb hdf ⊢
  by_cases h17 : deep + 1 < 16
  case neg =>
   rw [dF h17]
   exact .inl ⟨_, rfl, .inr rfl⟩
  rw [dT h17]
  simp only [cond_true]
  obtain ⟨h5, h6⟩ := at_none hb
  rw [h6] at hb hdf
  have hle2 := nodesR_it (deep + 1) s1
  have hlt2 := nodesR_lt h5
  have hdn := defsR_nodes (deep + 1) s1
  have hdE : (nodesR (deep + 1) s1).s.defs.length ≤ 1 := by
   refine Nat.le_trans ?_ hdf
   unfold elseR
   exact defs_bif (defs_bif (defs_bif (defs_then (defsR_block _ _ _ _ _) (Nat.le_refl _)) (Nat.le_refl _)) (Nat.le_refl _)) (defs_bif (defs_then (defsR_nodes _ _) (defs_bif (Nat.le_refl _) (Nat.le_refl _))) (defs_bif (Nat.le_refl _) (Nat.le_refl _)))
  have hlp : (loopR (deep + 1) [] s1).s.defs.length ≤ 1 := by
   obtain ⟨_, k2⟩ := at_none h5
   have : (nodesR (deep + 1) s1).s = (loopR (deep + 1) [] s1).s := by
    unfold nodesR; rw [k2, end_it]
   rw [this] at hdE; exact hdE
  have hsn := sim_nodes (deep := deep + 1) (by omega) (t := t1) h5 (fun hb1 => hL (deep + 1) s1 t1 [] [] hn1 (by omega) hs1 (fun d => trivial) hb1 hlp hd2)
  refine sim_then (Q := SimR Nd1) hsn (fun q hq => .inl hq) h5 (fun hre hs2 => ?_)
  revert hs2
  revert hre
  revert hdE
  revert hdn
  revert hlt2
  revert hle2
  revert hdf
  revert hb
  generalize (nodesR (deep + 1) s1).v = be
  generalize (nodesR (deep + 1) s1).s = s2
  generalize (nodesR (deep + 1 + 1) t1).v = be'
  generalize (nodesR (deep + 1 + 1) t1).s = t2
  intro hb hdf hle2 hlt2 hdn hdE hre hs2
  obtain ⟨hr1, hr2⟩ := hre
  obtain ⟨k1, t1'⟩ := sameW_get hr2.1 1
  have hbl := sameW_len hr2.1
  unfold elseR at hb hdf ⊢
  rw [hr2.2, hbl, k1, t1']
  have fin : ∀ (els els2 : AVal) (s3 t3 : PsD), (∃ f n r, els = .list f n r) → (∃ f n r, els2 = .list f n r) → (∀ d, EqV d els els2) → SimS s3 t3 → SimR Nd1 (psOk (mkNd kind [] [] (pipeV p) (bodyV be.1) els w.at_) s3) (psOk (mkNd kind [] [] (pipeV p) (bodyV be'.1) els2 v.at_) t3) := fun els els2 s3 t3 f1 f2 f3 f4 =>
   .inr ⟨rfl, nd1_mk _ _ _ _ _ _ _ _ _ _ ⟨_, _, _, rfl⟩ ⟨_, _, _, rfl⟩ f1 f2 (eqV_body hr1) f3, f4⟩
  cases he : be.2.head == sElse && decide (1 < be.2.words.length) with
  | true =>
   rw [he] at hb hdf
   simp only [cond_true] at hb hdf ⊢
   cases hi : (be.2.words.getD 1 wd0).kind == 1 && (be.2.words.getD 1 wd0).text == sIf with
   | false => rw [hi] at hb; simp [psBad] at hb
   | true =>
    rw [hi] at hb hdf
    simp only [cond_true, dT h17] at hb hdf ⊢
    have hh : be.2.head ≠ [] := by
     rw [Bool.and_eq_true, beq_iff_eq] at he; rw [he.1]; decide
    have hlt2 := hlt2 hh
    by_cases h18 : deep + 1 + 1 < 16
    case neg =>
     rw [dF h18]
     exact .inl ⟨_, rfl, .inr rfl⟩
    rw [dT h18]
    simp only [cond_true]
    obtain ⟨j1, j2⟩ := at_none hb
    rw [j2] at hdf
    refine sim_then (Q := SimR Nd1) (ihB 3 be.2 be'.2 2 (deep + 1) s2 t2 (by omega) (by omega) hs2 hr2 j1 hdf (Nat.le_trans hd2 hdn)) (fun q hq => .inl hq) j1 (fun hn2 hs3 => ?_)
    exact fin _ _ _ _ ⟨_, _, _, rfl⟩ ⟨_, _, _, rfl⟩ (eqV_one hn2) hs3
  | false =>
   rw [he] at hb hdf
   simp only [cond_false] at hb hdf ⊢
   cases he2 : be.2.head == sElse with
   | true =>
    rw [he2] at hb hdf
    simp only [cond_true] at hb hdf ⊢
    obtain ⟨j1, j2⟩ := at_none hb
    rw [j2] at hb hdf
    have hlp2 : (loopR (deep + 1) [] s2).s.defs.length ≤ 1 := by
     obtain ⟨_, k2⟩ := at_none j1
     have e1 : (nodesR (deep + 1) s2).s = (loopR (deep + 1) [] s2).s := by
      unfold nodesR; rw [k2, end_it]
     rw [← e1]
     refine Nat.le_trans ?_ hdf
     exact defs_bif (Nat.le_refl _) (Nat.le_refl _)
    have hsn2 := sim_nodes (deep := deep + 1) (by omega) (t := t2) j1 (fun hb1 => hL (deep + 1) s2 t2 [] [] (by omega) (by omega) hs2 (fun d => trivial) hb1 hlp2 (Nat.le_trans hd2 hdn))
    refine sim_then (Q := SimR Nd1) hsn2 (fun q hq => .inl hq) j1 (fun hre2 hs3 => ?_)
    revert hs3
    revert hre2
    revert hb
    generalize (nodesR (deep + 1) s2).v = ee
    generalize (nodesR (deep + 1) s2).s = s3
    generalize (nodesR (deep + 1 + 1) t2).v = ee'
    generalize (nodesR (deep + 1 + 1) t2).s = t3
    intro hb hre2 hs3
    rw [hre2.2.2]
    cases hen : ee.2.head == sEnd with
    | false => rw [hen] at hb; simp [psBad] at hb
    | true => exact fin _ _ _ _ ⟨_, _, _, rfl⟩ ⟨_, _, _, rfl⟩ (eqV_body hre2.1) hs3
   | false =>
    rw [he2] at hb hdf
    simp only [cond_false] at hb hdf ⊢
    cases hen : be.2.head == sEnd with
    | false => rw [hen] at hb; simp [psBad] at hb
    | true => exact fin _ _ _ _ ⟨_, _, _, rfl⟩ ⟨_, _, _, rfl⟩ eqV_nil hs2
end Go.Mu
namespace Go.Mu
open Go Go.Proofs
theorem index_cons (x : UInt8) (t p : Oc) : Lib.index (x :: t) p = if p.isPrefixOf (x :: t) then 0 else if Lib.index t p == -1 then -1 else Lib.index t p + 1 := rfl
def pcs (x : SpH) : List (Int × Oc) := (rowsO x.O).map fun r => (intOf (r.getD 0 .undef), strOf (r.getD 1 .undef))
def finP (P : List (Int × Oc)) (t : Oc) : List (Int × Oc) := bif t == [] then P else P ++ [(1, t)]
abbrev kt (i : ItemD) : Int × Oc := (i.kind, i.text)
theorem pcs_flush (x : SpH) : pcs (flushM x) = finP (pcs x) (bytesOf x.rows) := by
 unfold flushM pcs finP flN
 simp only [rowsO]
 cases bytesOf x.rows == []
 · simp only [cond_false, List.map_append]
   rfl
 · rfl
theorem items_pcs (s : Oc) : (itemsOf s).map kt = finP (pcs (relX (itY s))) (bytesOf (itY s).rows ++ putL s (itY s).tr (itR s).2.1 s.length) := by
 have h : (itemsOf s).map kt = pcs (flushM (itZ s)) := by unfold itemsOf pcs; rw [List.map_map]; rfl
 rw [h, pcs_flush, putM_t]
 rfl
def rvU (u : Oc) : Oc := trimL (bif [45].isPrefixOf u then u.drop 1 else u)
def rmU (u : Oc) : Bool := [47, 42].isPrefixOf (rvU u)
def rnU (u : Oc) : Int := Lib.index ((rvU u).drop 2) [42, 47]
def fromU (u : Oc) : Nat := bif rmU u then (((u.length - (rvU u).length + 2 : Nat) : Int) + rnU u + 2).toNat else 0
def toU (u : Oc) : Int := win (u.drop (fromU u)) false false (fromU u)
def badU (u : Oc) : Bool := (rmU u && !decide (rnU u ≥ 0)) || !decide (toU u ≥ 0)
def inU (u : Oc) : Oc := u.take (toU u).toNat
theorem rvU_suf (u : Oc) : rvU u <:+ u := by
 unfold rvU
 refine List.IsSuffix.trans (List.dropWhile_suffix (p := blk)) ?_
 cases [45].isPrefixOf u
 · exact List.suffix_refl _
 · exact List.drop_suffix _ _
theorem rvU_len (u : Oc) : (rvU u).length ≤ u.length := (rvU_suf u).length_le
theorem rmT_rel (s : Oc) (at_ : Nat) : rmT s at_ = rvU (s.drop (at_ + 2)) := by
 rfl
theorem suf_drop {v u : Oc} (h : v <:+ u) : u.drop (u.length - v.length) = v := by
 obtain ⟨t, rfl⟩ := h
 rw [List.length_append, Nat.add_sub_cancel, List.drop_left]
theorem win_shift (k : Nat) : ∀ (t : Oc) (q e : Bool) (i : Nat), win t q e (i + k) = if win t q e i < 0 then -1 else win t q e i + k
 | [], q, e, i => rfl
 | c :: t, q, e, i => by
  have ih := fun q e => win_shift k t q e (i + 1)
  have e1 : i + k + 1 = i + 1 + k := by omega
  rw [win, win, e1]
  simp only [ih]
  cases e with
  | true => rfl
  | false =>
   simp only [cond_false]
   cases q && c == 92 with
   | true => rfl
   | false =>
    simp only [cond_false]
    cases c == 34 with
    | true => rfl
    | false =>
     simp only [cond_false]
     cases !q && [125, 125].isPrefixOf (c :: t) with
     | true =>
      simp only [cond_true]
      rw [if_neg (by omega)]
      omega
     | false => rfl
theorem ac_rel (s : Oc) (at_ : Nat) (h : at_ + 2 ≤ s.length) : rmIs s at_ = rmU (s.drop (at_ + 2)) ∧ acBad s at_ = badU (s.drop (at_ + 2)) ∧
 (badU (s.drop (at_ + 2)) = false → acTo s at_ = (at_ : Int) + 2 + toU (s.drop (at_ + 2)) ∧ acIn s at_ = inU (s.drop (at_ + 2))) := by
 have hT := rmT_rel s at_
 have hu : (s.drop (at_ + 2)).length = s.length - (at_ + 2) := List.length_drop
 have e1 : rmIs s at_ = rmU (s.drop (at_ + 2)) := by unfold rmIs rmU; rw [hT]
 have hv := rvU_len (s.drop (at_ + 2))
 have eF : rmF s at_ = at_ + 2 + ((s.drop (at_ + 2)).length - (rvU (s.drop (at_ + 2))).length + 2) := by unfold rmF; rw [hT]; omega
 have eN : rmN s at_ = rnU (s.drop (at_ + 2)) := by
  unfold rmN rnU
  rw [eF]
  congr 1
  have e2 : s.drop (at_ + 2 + ((s.drop (at_ + 2)).length - (rvU (s.drop (at_ + 2))).length + 2)) = ((s.drop (at_ + 2)).drop ((s.drop (at_ + 2)).length - (rvU (s.drop (at_ + 2))).length)).drop 2 := by
   rw [List.drop_drop, List.drop_drop]
  rw [e2, suf_drop (rvU_suf _)]
 have hge := Lib.index_ge ((rvU (s.drop (at_ + 2))).drop 2) [42, 47]
 have eA : (rmU (s.drop (at_ + 2)) && !decide (rnU (s.drop (at_ + 2)) ≥ 0)) = false → acFrom s at_ = at_ + 2 + fromU (s.drop (at_ + 2)) := fun hb => by
  unfold acFrom fromU
  rw [e1]
  cases hr : rmU (s.drop (at_ + 2)) with
  | false => rfl
  | true =>
   rw [hr] at hb
   have hn : rnU (s.drop (at_ + 2)) ≥ 0 := by simpa using hb
   simp only [cond_true]
   rw [eF, eN]
   omega
 have eT : (rmU (s.drop (at_ + 2)) && !decide (rnU (s.drop (at_ + 2)) ≥ 0)) = false → acTo s at_ = if toU (s.drop (at_ + 2)) < 0 then -1 else toU (s.drop (at_ + 2)) + (at_ + 2 : Nat) := fun hb => by
  unfold acTo toU
  rw [eA hb]
  have e3 : s.drop (at_ + 2 + fromU (s.drop (at_ + 2))) = (s.drop (at_ + 2)).drop (fromU (s.drop (at_ + 2))) := by rw [List.drop_drop]
  rw [e3, show at_ + 2 + fromU (s.drop (at_ + 2)) = fromU (s.drop (at_ + 2)) + (at_ + 2) by omega]
  exact win_shift (at_ + 2) _ _ _ _
 have eB : acBad s at_ = badU (s.drop (at_ + 2)) := by
  unfold acBad badU
  rw [e1, eN]
  cases hb : (rmU (s.drop (at_ + 2)) && !decide (rnU (s.drop (at_ + 2)) ≥ 0)) with
  | true => rfl
  | false =>
   rw [eT hb]
   simp only [Bool.false_or]
   congr 1
   by_cases h0 : toU (s.drop (at_ + 2)) < 0
   · rw [if_pos h0, dF (by omega), dF (by omega)]
   · rw [if_neg h0, dT (by omega), dT (by omega)]
 refine ⟨e1, eB, fun hb => ?_⟩
 unfold badU at hb
 rw [Bool.or_eq_false_iff] at hb
 have h0 : toU (s.drop (at_ + 2)) ≥ 0 := by simpa using hb.2
 have eTo : acTo s at_ = (at_ : Int) + 2 + toU (s.drop (at_ + 2)) := by
  rw [eT hb.1, if_neg (by omega)]; omega
 refine ⟨eTo, ?_⟩
 unfold acIn inU
 rw [eTo, List.drop_take]
 congr 1
 omega
structure KS where
 P : List (Int × Oc)
 t : Oc
 tr : Bool
def ks0 : KS := ⟨[], [], false⟩
def ksX (x : SpH) : KS := ⟨pcs (relX x), bytesOf x.rows, x.tr⟩
def segK (tr : Bool) (seg : Oc) : Oc := bif tr then trimL seg else seg
def putK (st : KS) (seg : Oc) : KS := ⟨st.P, st.t ++ segK st.tr seg, st.tr && segK st.tr seg == []⟩
def actK (st : KS) (u : Oc) : KS :=
 bif rmU u then ⟨st.P, bif trimsA (inU u) then trimR st.t else st.t, trimsZ (trimsT (inU u))⟩
 else ⟨finP st.P (bif trimsA (inU u) then trimR st.t else st.t) ++ [(2, trimL (trimR (trimsU (trimsT (inU u)))))], [], trimsZ (trimsT (inU u))⟩
def itK : Nat → Oc → KS → Option (KS × Oc)
 | 0, r, st => some (st, r)
 | m + 1, r, st => bif decide (Lib.index r [123, 123] < 0) then some (st, r) else
  bif badU (r.drop ((Lib.index r [123, 123]).toNat + 2)) then none else
   itK m ((r.drop ((Lib.index r [123, 123]).toNat + 2)).drop ((toU (r.drop ((Lib.index r [123, 123]).toNat + 2))).toNat + 2))
    (actK (putK st (r.take (Lib.index r [123, 123]).toNat)) (r.drop ((Lib.index r [123, 123]).toNat + 2)))
theorem ks_act {x : SpH} (hO : CanO x.o x.O) {n : Nat} (h : n + 2 ≤ x.s.length) (hb : badU (x.s.drop (n + 2)) = false) : pcs (actionM x n) = (actK ⟨pcs x, bytesOf x.rows, x.tr⟩ (x.s.drop (n + 2))).P ∧ bytesOf (actionM x n).rows = (actK ⟨pcs x, bytesOf x.rows, x.tr⟩ (x.s.drop (n + 2))).t ∧ (actionM x n).tr = (actK ⟨pcs x, bytesOf x.rows, x.tr⟩ (x.s.drop (n + 2))).tr := by
 obtain ⟨r1, r2, r3⟩ := ac_rel x.s n h
 obtain ⟨r4, r5⟩ := r3 hb
 have e2 : pcs (actionM x n) = pcs (acM x n) := rfl
 have e3 : bytesOf (actionM x n).rows = bytesOf (acM x n).rows := rfl
 have e4 : (actionM x n).tr = trimsZ (trimsT (acIn x.s n)) := rfl
 have hy : pcs (bif trimsA (acIn x.s n) then cutM x else x) = pcs x ∧ bytesOf (bif trimsA (acIn x.s n) then cutM x else x).rows = (bif trimsA (acIn x.s n) then trimR (bytesOf x.rows) else bytesOf x.rows) := by
  cases trimsA (acIn x.s n)
  · exact ⟨rfl, rfl⟩
  · exact ⟨rfl, cutM_t x⟩
 rw [e2, e3, e4]
 unfold acM actK
 rw [r1, r5]
 rw [r5] at hy
 revert hy
 generalize (bif trimsA (inU (x.s.drop (n + 2))) then cutM x else x) = y
 intro hy
 cases rmU (x.s.drop (n + 2)) with
 | true => exact ⟨hy.1, hy.2, rfl⟩
 | false =>
  simp only [cond_false]
  refine ⟨?_, by trivial, by trivial⟩
  have e5 : ∀ (tx : Oc), pcs (pushM (flushM y) [.int .i64 2, .str tx, .int .i64 n]) = finP (pcs y) (bytesOf y.rows) ++ [(2, tx)] := fun tx => by
   rw [← pcs_flush]
   unfold pcs pushM
   simp only [rowsO, List.map_append]
   rfl
  rw [e5, hy.1, hy.2]
theorem it_rel : ∀ (m : Nat) (x : SpH) (f : Nat), Inv x f → itK m (x.s.drop f) (ksX x) = (match (itM m x f).2.2 with
 | some _ => none
 | none => some (ksX (itM m x f).1, x.s.drop (itM m x f).2.1))
 | 0, x, f, h => rfl
 | m + 1, x, f, h => by
  obtain ⟨h1, h2, h3, h4, h5, h6⟩ := h
  rw [itK]
  by_cases hn : itAt x.s f < 0
  · have e : itM (m + 1) x f = (x, f, none) := by rw [itM, dT hn]; rfl
    have hn' : Lib.index (x.s.drop f) [123, 123] < 0 := hn
    rw [e, dT hn']
    rfl
  · have hr := index_room (x.s.drop f) [123, 123] (by have : ¬ Lib.index (x.s.drop f) [123, 123] < 0 := hn; omega)
    have hd : (x.s.drop f).length = x.s.length - f := by simp
    simp only [List.length_cons, List.length_nil] at hr
    obtain ⟨n, hnn⟩ : ∃ n : Nat, itAt x.s f = n := ⟨(itAt x.s f).toNat, by omega⟩
    have hi2 : Lib.index (x.s.drop f) [123, 123] = n := hnn
    have en : ((f : Int) + itAt x.s f).toNat = f + n := by omega
    rw [hi2, dF (show ¬ (n : Int) < 0 by omega), Int.toNat_natCast]
    simp only [cond_false]
    have hrx : bytesOf (relX x).rows = bytesOf x.rows := rfl
    have c1 : Can (putM (relX x) f (f + n)) := putM_can (x := relX x) h1 _ _
    have c2 : CanO (putM (relX x) f (f + n)).o (putM (relX x) f (f + n)).O := h2.1
    have c3 : (bytesOf (putM (relX x) f (f + n)).rows).length ≤ f + n := by
     rw [putM_t, List.length_append, hrx]
     have := putL_len (relX x).s (relX x).tr f (f + n)
     have h7 : (((relX x).s.take (f + n)).drop f).length ≤ n := by simp; omega
     omega
    have c4 : (rowsO (putM (relX x) f (f + n)).O).length ≤ f := h6
    have hu : (x.s.drop f).drop (n + 2) = x.s.drop (f + n + 2) := by rw [List.drop_drop, Nat.add_assoc]
    have hseg : (x.s.take (f + n)).drop f = (x.s.drop f).take n := by rw [List.drop_take]; congr 1; omega
    obtain ⟨r1, r2, r3⟩ := ac_rel x.s (f + n) (by omega)
    rw [hu]
    cases hb : acBad x.s (f + n) with
    | true =>
     have e : itM (m + 1) x f = (putM (relX x) f (f + n), f, some (f + n)) := by rw [itM, dF hn, en, hb]; rfl
     rw [e, ← r2, hb]
     rfl
    | false =>
     obtain ⟨f1, f2, f3, f4⟩ := acFrom_le x.s (f + n) hb (by omega)
     have e : itM (m + 1) x f = itM m (actionM (putM (relX x) f (f + n)) (f + n)) (acTo x.s (f + n) + 2).toNat := by rw [itM, dF hn, en, hb]; rfl
     have hbu : badU (x.s.drop (f + n + 2)) = false := by rw [← r2]; exact hb
     obtain ⟨r4, r5⟩ := r3 hbu
     rw [e, hbu]
     simp only [cond_false]
     obtain ⟨a1, a2, a3, a4⟩ := acM_all c1 c2 (f + n)
     have b2 : CanO (actionM (putM (relX x) f (f + n)) (f + n)).o (actionM (putM (relX x) f (f + n)) (f + n)).O := a2
     have w1 := win_room (x.s.drop (acFrom x.s (f + n))) false false (acFrom x.s (f + n))
     have w2 : (x.s.drop (acFrom x.s (f + n))).length = x.s.length - acFrom x.s (f + n) := by simp
     have w3 : win (x.s.drop (acFrom x.s (f + n))) false false (acFrom x.s (f + n)) = acTo x.s (f + n) := rfl
     have inv : Inv (actionM (putM (relX x) f (f + n)) (f + n)) (acTo x.s (f + n) + 2).toNat := by
      refine ⟨a1, canO_can b2, ?_, h4, ?_, ?_⟩
      · show _ ≤ x.s.length
        omega
      · have : (bytesOf (actionM (putM (relX x) f (f + n)) (f + n)).rows).length ≤ f + n := Nat.le_trans a3 c3
        omega
      · rw [canO_rel b2]
        have : (rowsO (actionM (putM (relX x) f (f + n)) (f + n)).O).length ≤ f + 2 := Nat.le_trans a4 (by omega)
        omega
     have ih := it_rel m _ _ inv
     have k1 : ksX (actionM (putM (relX x) f (f + n)) (f + n)) = actK (putK (ksX x) ((x.s.drop f).take n)) (x.s.drop (f + n + 2)) := by
      obtain ⟨g1, g2, g3⟩ := ks_act (x := putM (relX x) f (f + n)) c2 (n := f + n) (by show f + n + 2 ≤ x.s.length; omega) hbu
      have kp : (⟨pcs (putM (relX x) f (f + n)), bytesOf (putM (relX x) f (f + n)).rows, (putM (relX x) f (f + n)).tr⟩ : KS) = putK (ksX x) ((x.s.drop f).take n) := by
       have p1 : pcs (putM (relX x) f (f + n)) = pcs (relX x) := rfl
       have p3 : (putM (relX x) f (f + n)).tr = (x.tr && putL x.s x.tr f (f + n) == []) := rfl
       have p4 : putL x.s x.tr f (f + n) = segK x.tr ((x.s.drop f).take n) := by unfold putL segK; rw [hseg]
       have p2 : bytesOf (putM (relX x) f (f + n)).rows = bytesOf x.rows ++ putL x.s x.tr f (f + n) := putM_t (relX x) _ _
       rw [p1, p2, p3, p4]
       rfl
      rw [kp] at g1 g2 g3
      have gs : (putM (relX x) f (f + n)).s = x.s := rfl
      rw [gs] at g1 g2 g3
      unfold ksX
      rw [canO_rel b2, g1, g2, g3]
      rfl
     have k2 : (actionM (putM (relX x) f (f + n)) (f + n)).s = x.s := rfl
     have k3 : (x.s.drop (f + n + 2)).drop ((toU (x.s.drop (f + n + 2))).toNat + 2) = x.s.drop (acTo x.s (f + n) + 2).toNat := by
      rw [List.drop_drop, r4]
      congr 1
      have : toU (x.s.drop (f + n + 2)) ≥ 0 := by omega
      omega
     rw [k1, k2] at ih
     rw [k3]
     exact ih
theorem items_K (s : Oc) (hs : s.length ≤ 16384) : (itBad s = true → itK (s.length + 1) s ks0 = none) ∧ (∀ st r, itK (s.length + 1) s ks0 = some (st, r) → itBad s = false ∧ (itemsOf s).map kt = finP st.P (putK st r).t) ∧ (itBad s = false → ∃ st r, itK (s.length + 1) s ks0 = some (st, r)) := by
 have h := it_rel (s.length + 1) (itX0 s) 0 (inv0 s hs)
 have e0 : (itX0 s).s.drop 0 = s := rfl
 have e1 : ksX (itX0 s) = ks0 := rfl
 rw [e0, e1] at h
 have hk := itM_keep (s.length + 1) (itX0 s) 0
 unfold itBad
 cases hb : (itR s).2.2 with
 | some p =>
  have hb' : (itM (s.length + 1) (itX0 s) 0).2.2 = some p := hb
  rw [hb'] at h
  exact ⟨fun _ => h, fun st r hk => by rw [h] at hk; simp at hk, fun h => by simp at h⟩
 | none =>
  have hb' : (itM (s.length + 1) (itX0 s) 0).2.2 = none := hb
  rw [hb'] at h
  refine ⟨fun h => by simp at h, fun st r hkk => ⟨rfl, ?_⟩, fun _ => ⟨_, _, h⟩⟩
  rw [h] at hkk
  simp only [sJ, Prod.mk.injEq] at hkk
  obtain ⟨rfl, rfl⟩ := hkk
  rw [items_pcs]
  have ey : itY s = (itM (s.length + 1) (itX0 s) 0).1 := hk.symm
  rw [ey]
  have er : (itR s) = itM (s.length + 1) (itX0 s) 0 := rfl
  rw [er]
  unfold putL putK segK ksX
  rw [List.take_length]
end Go.Mu
namespace Go.Mu
open Go Go.Proofs
theorem pre_app {p t w : Oc} (h : p.isPrefixOf t = true) : p.isPrefixOf (t ++ w) = true := by
 rw [List.isPrefixOf_iff_prefix] at h ⊢
 exact h.trans (List.prefix_append _ _)
theorem index_app (a b : UInt8) (w : Oc) : ∀ (t : Oc), Lib.index t [a, b] ≥ 0 → Lib.index (t ++ w) [a, b] = Lib.index t [a, b]
 | [], h => by simp [Lib.index] at h
 | c :: t, h => by
  rw [List.cons_append, index_cons]
  rw [index_cons] at h ⊢
  by_cases hp : [a, b].isPrefixOf (c :: t) = true
  · have : [a, b].isPrefixOf (c :: (t ++ w)) = true := pre_app (w := w) hp
    rw [if_pos hp, if_pos this]
  · rw [if_neg hp] at h ⊢
    have hi : Lib.index t [a, b] ≥ 0 := by
     have := Lib.index_ge t [a, b]
     split at h
     · omega
     · rename_i h2
       have h3 : ¬ Lib.index t [a, b] = -1 := by simpa using h2
       omega
    have ih := index_app a b w t hi
    have hn : ¬ [a, b].isPrefixOf (c :: (t ++ w)) = true := by
     cases t with
     | nil => simp [Lib.index] at hi
     | cons d t => simpa [List.isPrefixOf] using hp
    rw [if_neg hn, ih]
theorem win_app (w : Oc) : ∀ (t : Oc) (q e : Bool) (i : Nat), win t q e i ≥ 0 → win (t ++ w) q e i = win t q e i
 | [], q, e, i, h => by simp [win] at h
 | c :: t, q, e, i, h => by
  have ih := fun q e h => win_app w t q e (i + 1) h
  rw [List.cons_append, win]
  rw [win] at h ⊢
  cases e with
  | true => exact ih _ _ h
  | false =>
   simp only [cond_false] at h ⊢
   cases h1 : q && c == 92 with
   | true => rw [h1] at h; exact ih _ _ h
   | false =>
    rw [h1] at h
    simp only [cond_false] at h ⊢
    cases h2 : c == 34 with
    | true => rw [h2] at h; exact ih _ _ h
    | false =>
     rw [h2] at h
     simp only [cond_false] at h ⊢
     cases h3 : !q && [125, 125].isPrefixOf (c :: t) with
     | true =>
      rw [Bool.and_eq_true] at h3
      have : [125, 125].isPrefixOf (c :: (t ++ w)) = true := pre_app (w := w) h3.2
      rw [h3.1, this]
      rfl
     | false =>
      rw [h3] at h
      simp only [cond_false] at h
      have hi := ih _ _ h
      cases t with
      | nil => simp [win] at h
      | cons d t =>
       have : [125, 125].isPrefixOf (c :: (d :: t ++ w)) = [125, 125].isPrefixOf (c :: d :: t) := rfl
       rw [this, h3]
       exact hi
theorem win_hit : ∀ (t : Oc) (q e : Bool) (i : Nat), win t q e i ≥ 0 → (125 : UInt8) ∈ t
 | [], q, e, i, h => by simp [win] at h
 | c :: t, q, e, i, h => by
  have ih := fun q e h => List.mem_cons_of_mem c (win_hit t q e (i + 1) h)
  rw [win] at h
  cases e with
  | true => exact ih _ _ h
  | false =>
   simp only [cond_false] at h
   cases h1 : q && c == 92 with
   | true => rw [h1] at h; exact ih _ _ h
   | false =>
    rw [h1] at h
    simp only [cond_false] at h
    cases h2 : c == 34 with
    | true => rw [h2] at h; exact ih _ _ h
    | false =>
     rw [h2] at h
     simp only [cond_false] at h
     cases h3 : !q && [125, 125].isPrefixOf (c :: t) with
     | true =>
      rw [Bool.and_eq_true] at h3
      have := h3.2
      simp only [List.isPrefixOf, Bool.and_eq_true, beq_iff_eq] at this
      rw [← this.1]
      exact List.mem_cons_self ..
     | false => rw [h3] at h; exact ih _ _ h
theorem trimL_app (w : Oc) : ∀ {t : Oc}, (125 : UInt8) ∈ t → trimL (t ++ w) = trimL t ++ w ∧ (125 : UInt8) ∈ trimL t
 | [], h => by cases h
 | c :: t, h => by
  unfold trimL
  rw [List.cons_append, List.dropWhile_cons, List.dropWhile_cons]
  cases hb : blk c with
  | true =>
   have hm : (125 : UInt8) ∈ t := by
    rcases List.mem_cons.1 h with h | h
    · rw [← h] at hb; cases hb
    · exact h
   simp only [if_true]
   exact trimL_app w hm
  | false => exact ⟨rfl, h⟩
theorem rvU_app (w : Oc) {u : Oc} (h : (125 : UInt8) ∈ u) : rvU (u ++ w) = rvU u ++ w ∧ (125 : UInt8) ∈ rvU u := by
 unfold rvU
 cases u with
 | nil => cases h
 | cons c t =>
  have e : [45].isPrefixOf (c :: t ++ w) = [45].isPrefixOf (c :: t) := rfl
  rw [e]
  cases hp : [45].isPrefixOf (c :: t) with
  | true =>
   have hc : c = 45 := by
    simp only [List.isPrefixOf, Bool.and_true, beq_iff_eq] at hp
    exact hp.symm
   have hm : (125 : UInt8) ∈ t := by
    rcases List.mem_cons.1 h with h | h
    · rw [hc] at h; cases h
    · exact h
   show trimL (t ++ w) = trimL t ++ w ∧ (125 : UInt8) ∈ trimL t
   exact trimL_app w hm
  | false =>
   show trimL (c :: t ++ w) = trimL (c :: t) ++ w ∧ (125 : UInt8) ∈ trimL (c :: t)
   exact trimL_app w h
theorem rm_app (w : Oc) : ∀ {v : Oc}, (125 : UInt8) ∈ v → [47, 42].isPrefixOf (v ++ w) = [47, 42].isPrefixOf v
 | [], h => by cases h
 | [c], h => by
  have : (125 : UInt8) = c := by simpa using h
  subst this
  rfl
 | c :: d :: v, h => rfl
theorem bad_to {u : Oc} (h : badU u = false) : 0 ≤ toU u := by
 unfold badU at h
 rw [Bool.or_eq_false_iff] at h
 have h2 := h.2
 rw [Bool.not_eq_false'] at h2
 exact of_decide_eq_true h2
theorem bad_rn {u : Oc} (h : badU u = false) (hr : rmU u = true) : 0 ≤ rnU u := by
 unfold badU at h
 rw [Bool.or_eq_false_iff, hr, Bool.true_and] at h
 have h2 := h.1
 rw [Bool.not_eq_false'] at h2
 exact of_decide_eq_true h2
theorem from_le {u : Oc} (h : 0 ≤ toU u) : fromU u ≤ u.length := by
 rcases Nat.lt_or_ge u.length (fromU u) with hlt | hge
 · exfalso
   have e : toU u = -1 := by
    unfold toU
    rw [List.drop_eq_nil_of_le (Nat.le_of_lt hlt)]
    rfl
   omega
 · exact hge
theorem to_in {u : Oc} (h : 0 ≤ toU u) : (125 : UInt8) ∈ u := List.mem_of_mem_drop (win_hit _ _ _ _ h)
theorem to_room {u : Oc} (h : 0 ≤ toU u) : (toU u).toNat + 2 ≤ u.length := by
 have hle := from_le h
 have hd : (u.drop (fromU u)).length = u.length - fromU u := List.length_drop
 have hroom : toU u = -1 ∨ toU u + 2 ≤ (fromU u : Int) + (u.drop (fromU u)).length := win_room (u.drop (fromU u)) false false (fromU u)
 rcases hroom with h1 | h1
 · omega
 · omega
theorem rmU_app (w : Oc) {u : Oc} (h : (125 : UInt8) ∈ u) : rmU (u ++ w) = rmU u := by
 obtain ⟨v1, v2⟩ := rvU_app w h
 unfold rmU
 rw [v1]; exact rm_app w v2
theorem rnU_app (w : Oc) {u : Oc} (h : (125 : UInt8) ∈ u) (hr : rmU u = true) (hn : 0 ≤ rnU u) : rnU (u ++ w) = rnU u := by
 obtain ⟨v1, v2⟩ := rvU_app w h
 have hl : 2 ≤ (rvU u).length := pre_len (p := [47, 42]) (s := rvU u) hr
 unfold rnU at hn ⊢
 rw [v1, List.drop_append_of_le_length hl]
 exact index_app _ _ w _ hn
theorem fromU_app (w : Oc) {u : Oc} (h : (125 : UInt8) ∈ u) (hn : rmU u = true → 0 ≤ rnU u) : fromU (u ++ w) = fromU u := by
 obtain ⟨v1, v2⟩ := rvU_app w h
 have hvl := rvU_len u
 unfold fromU
 rw [rmU_app w h]
 cases hr : rmU u with
 | false => rfl
 | true =>
  simp only [cond_true]
  have e : (u ++ w).length - (rvU u ++ w).length = u.length - (rvU u).length := by
   rw [List.length_append, List.length_append]; omega
  rw [rnU_app w h hr (hn hr), v1, e]
theorem toU_app (w : Oc) {u : Oc} (h0 : 0 ≤ toU u) (hn : rmU u = true → 0 ≤ rnU u) : toU (u ++ w) = toU u := by
 have hle := from_le h0
 have e := fromU_app w (to_in h0) hn
 unfold toU at h0 ⊢
 rw [e, List.drop_append_of_le_length hle]
 exact win_app w _ _ _ _ h0
theorem badU_app (w : Oc) {u : Oc} (h : badU u = false) : badU (u ++ w) = false := by
 have h0 := bad_to h
 have hn := fun hr => bad_rn h hr
 have e1 := rmU_app w (to_in h0)
 have e2 := toU_app w h0 hn
 unfold badU
 rw [e1, e2, decide_eq_true h0]
 cases hr : rmU u with
 | false => rfl
 | true =>
  rw [rnU_app w (to_in h0) hr (hn hr), decide_eq_true (hn hr)]
  rfl
theorem inU_app (w : Oc) {u : Oc} (h : badU u = false) : inU (u ++ w) = inU u := by
 have h0 := bad_to h
 have hr := to_room h0
 unfold inU
 rw [toU_app w h0 (fun hr => bad_rn h hr), List.take_append_of_le_length (by omega)]
theorem u_app (w : Oc) {u : Oc} (h : badU u = false) : badU (u ++ w) = false ∧ toU (u ++ w) = toU u ∧ rmU (u ++ w) = rmU u ∧ inU (u ++ w) = inU u ∧ (toU u).toNat + 2 ≤ u.length ∧ 0 ≤ toU u :=
 ⟨badU_app w h, toU_app w (bad_to h) (fun hr => bad_rn h hr), rmU_app w (to_in (bad_to h)), inU_app w h, to_room (bad_to h), bad_to h⟩
theorem actK_app (w : Oc) {u : Oc} (h : badU u = false) (st : KS) : actK st (u ++ w) = actK st u := by
 obtain ⟨h1, h2, h3, h4, h5⟩ := u_app w h
 unfold actK
 rw [h3, h4]
theorem itK_app (w : Oc) : ∀ (m : Nat) (r : Oc) (st st2 : KS) (r2 : Oc), r.length < m → itK m r st = some (st2, r2) → Lib.index r2 [123, 123] < 0 ∧ (∃ p, r = p ++ r2) ∧ ∀ k, ∃ j, j ≤ m ∧ itK (m + k) (r ++ w) st = itK (m + k - j) (r2 ++ w) st2
 | 0, r, st, st2, r2, hl, h => by omega
 | m + 1, r, st, st2, r2, hl, h => by
  rw [itK] at h
  by_cases hn : Lib.index r [123, 123] < 0
  · rw [dT hn] at h
    simp only [cond_true, sJ, Prod.mk.injEq] at h
    obtain ⟨rfl, rfl⟩ := h
    exact ⟨hn, ⟨[], rfl⟩, fun k => ⟨0, Nat.zero_le _, rfl⟩⟩
  · rw [dF hn] at h
    simp only [cond_false] at h
    have hge : Lib.index r [123, 123] ≥ 0 := by omega
    have hroom := index_room r [123, 123] hge
    simp only [List.length_cons, List.length_nil] at hroom
    have hia := index_app 123 123 w r hge
    obtain ⟨n, hnn⟩ : ∃ n : Nat, Lib.index r [123, 123] = n := ⟨(Lib.index r [123, 123]).toNat, by omega⟩
    rw [hnn, Int.toNat_natCast] at h
    rw [hnn] at hroom hia
    have hnr : n + 2 ≤ r.length := by omega
    cases hb : badU (r.drop (n + 2)) with
    | true => rw [hb] at h; simp at h
    | false =>
     rw [hb] at h
     simp only [cond_false] at h
     obtain ⟨u1, u2, u3, u4, u5, u6⟩ := u_app w hb
     have hul : (r.drop (n + 2)).length = r.length - (n + 2) := List.length_drop
     have hlen : ((r.drop (n + 2)).drop ((toU (r.drop (n + 2))).toNat + 2)).length < m := by
      rw [List.length_drop, hul]; omega
     obtain ⟨g1, ⟨p, g2⟩, g3⟩ := itK_app w m _ _ st2 r2 hlen h
     refine ⟨g1, ⟨r.take (n + 2) ++ (r.drop (n + 2)).take ((toU (r.drop (n + 2))).toNat + 2) ++ p, ?_⟩, fun k => ?_⟩
     · rw [List.append_assoc, ← g2, List.append_assoc, List.take_append_drop, List.take_append_drop]
     · obtain ⟨j, j1, j2⟩ := g3 k
       refine ⟨j + 1, by omega, ?_⟩
       have em : m + 1 + k = m + k + 1 := by omega
       rw [em, itK, hia, dF (show ¬ (n : Int) < 0 by omega), Int.toNat_natCast]
       simp only [cond_false]
       have ed : (r ++ w).drop (n + 2) = r.drop (n + 2) ++ w := List.drop_append_of_le_length hnr
       have et : (r ++ w).take n = r.take n := List.take_append_of_le_length (by omega)
       rw [ed, et, u1, u2, actK_app w hb]
       simp only [cond_false]
       rw [List.drop_append_of_le_length u5, j2]
       congr 1
       omega
def preK (Q : List (Int × Oc)) (st : KS) : KS := ⟨Q ++ st.P, st.t, st.tr⟩
theorem finP_pre (Q P : List (Int × Oc)) (t : Oc) : finP (Q ++ P) t = Q ++ finP P t := by
 unfold finP
 cases t == [] with
 | true => rfl
 | false => exact List.append_assoc _ _ _
theorem actK_pre (Q : List (Int × Oc)) (st : KS) (u : Oc) : actK (preK Q st) u = preK Q (actK st u) := by
 unfold actK preK
 cases rmU u with
 | true => rfl
 | false =>
  simp only [cond_false, finP_pre, List.append_assoc]
theorem itK_pre (Q : List (Int × Oc)) : ∀ (m : Nat) (r : Oc) (st : KS), itK m r (preK Q st) = (itK m r st).map (fun x => (preK Q x.1, x.2))
 | 0, r, st => rfl
 | m + 1, r, st => by
  rw [itK, itK]
  cases decide (Lib.index r [123, 123] < 0) with
  | true => rfl
  | false =>
   simp only [cond_false]
   cases badU (r.drop ((Lib.index r [123, 123]).toNat + 2)) with
   | true => rfl
   | false =>
    simp only [cond_false]
    have e : putK (preK Q st) (r.take (Lib.index r [123, 123]).toNat) = preK Q (putK st (r.take (Lib.index r [123, 123]).toNat)) := rfl
    rw [e, actK_pre]
    exact itK_pre Q m _ _
def wPre : Oc := [123, 123, 105, 102, 32, 46, 125, 125]
def wSuf : Oc := [123, 123, 101, 110, 100, 125, 125]
def wIf : Oc := [105, 102, 32, 46]
theorem pre_step (m : Nat) (X : Oc) : itK (m + 1) (wPre ++ X) ks0 = itK m X (preK [(2, wIf)] ks0) := by
 rw [itK]
 have hi : Lib.index (wPre ++ X) [123, 123] = 0 := rfl
 have hu : (wPre ++ X).drop ((0 : Int).toNat + 2) = 105 :: 102 :: 32 :: 46 :: 125 :: 125 :: X := rfl
 have hr : rmU (105 :: 102 :: 32 :: 46 :: 125 :: 125 :: X) = false := rfl
 have hf : fromU (105 :: 102 :: 32 :: 46 :: 125 :: 125 :: X) = 0 := by unfold fromU; rw [hr]; rfl
 have ht : toU (105 :: 102 :: 32 :: 46 :: 125 :: 125 :: X) = 4 := by unfold toU; rw [hf]; rfl
 have hb : badU (105 :: 102 :: 32 :: 46 :: 125 :: 125 :: X) = false := by unfold badU; rw [hr, ht]; rfl
 have hin : inU (105 :: 102 :: 32 :: 46 :: 125 :: 125 :: X) = wIf := by unfold inU; rw [ht]; rfl
 rw [hi, dF (show ¬ (0 : Int) < 0 by omega)]
 simp only [cond_false]
 rw [hu, hb, ht]
 simp only [cond_false]
 have ea : actK (putK ks0 ((wPre ++ X).take (0 : Int).toNat)) (105 :: 102 :: 32 :: 46 :: 125 :: 125 :: X) = preK [(2, wIf)] ks0 := by
  unfold actK
  rw [hr, hin]
  rfl
 rw [ea]
 rfl
theorem index_end (c : Oc) : ∀ (r : Oc), Lib.index r [123, 123] < 0 → r.getLast? ≠ some 123 → Lib.index (r ++ 123 :: 123 :: c) [123, 123] = r.length
 | [], _, _ => rfl
 | [x], h, hl => by
  have hx : x ≠ 123 := fun e => hl (by rw [e]; rfl)
  have hp : ¬ [123, 123].isPrefixOf (x :: 123 :: 123 :: c) = true := by simp [List.isPrefixOf, Ne.symm hx]
  show Lib.index (x :: 123 :: 123 :: c) [123, 123] = 1
  rw [index_cons, if_neg hp]
  have : Lib.index (123 :: 123 :: c) [123, 123] = 0 := rfl
  rw [this]
  rfl
 | x :: y :: r, h, hl => by
  rw [index_cons] at h
  by_cases hp : [123, 123].isPrefixOf (x :: y :: r) = true
  · rw [if_pos hp] at h; omega
  · rw [if_neg hp] at h
    have hr : Lib.index (y :: r) [123, 123] < 0 := by
     have := Lib.index_ge (y :: r) [123, 123]
     split at h
     · rename_i h2
       have : Lib.index (y :: r) [123, 123] = -1 := by simpa using h2
       omega
     · omega
    have hp2 : ¬ [123, 123].isPrefixOf (x :: (y :: r ++ 123 :: 123 :: c)) = true := by simpa [List.isPrefixOf] using hp
    have ih := index_end c (y :: r) hr (by simpa [List.getLast?_cons_cons] using hl)
    rw [List.cons_append, index_cons, if_neg hp2, ih]
    have : ¬ ((((y :: r).length : Nat) : Int) == -1) = true := by
     simp only [beq_iff_eq]; omega
    rw [if_neg this]
    simp only [List.length_cons]
    omega
theorem suf_step (m : Nat) (r : Oc) (st : KS) (h : Lib.index r [123, 123] < 0) (hl : r.getLast? ≠ some 123) : itK (m + 2) (r ++ wSuf) st = some (⟨finP st.P (putK st r).t ++ [(2, sEnd)], [], false⟩, []) := by
 have hi : Lib.index (r ++ wSuf) [123, 123] = r.length := index_end [101, 110, 100, 125, 125] r h hl
 rw [itK, hi, dF (show ¬ (r.length : Int) < 0 by omega), Int.toNat_natCast]
 simp only [cond_false]
 have hu : (r ++ wSuf).drop (r.length + 2) = [101, 110, 100, 125, 125] := by
  rw [← List.drop_drop, List.drop_left]
  rfl
 have hk : (r ++ wSuf).take r.length = r := List.take_left
 rw [hu, hk]
 have hb : badU [101, 110, 100, 125, 125] = false := by decide +kernel
 have ht : toU [101, 110, 100, 125, 125] = 3 := by decide +kernel
 have ea : actK (putK st r) [101, 110, 100, 125, 125] = ⟨finP st.P (putK st r).t ++ [(2, sEnd)], [], false⟩ := by
  have h1 : rmU [101, 110, 100, 125, 125] = false := by decide +kernel
  have h2 : inU [101, 110, 100, 125, 125] = sEnd := by decide +kernel
  unfold actK
  rw [h1, h2]
  rfl
 rw [hb, ht, ea]
 simp only [cond_false]
 rw [itK]
 rfl
theorem wrap_items (s : Oc) (hs : (wPre ++ (s ++ wSuf)).length ≤ 16384) (hb : itBad s = false) (hl : s.getLast? ≠ some 123) : itBad (wPre ++ (s ++ wSuf)) = false ∧ (itemsOf (wPre ++ (s ++ wSuf))).map kt = (2, wIf) :: ((itemsOf s).map kt ++ [(2, sEnd)]) := by
 have hlen : (wPre ++ (s ++ wSuf)).length = s.length + 15 := by simp [wPre, wSuf]
 obtain ⟨_, k2, k3⟩ := items_K s (by omega)
 obtain ⟨st, r, hk⟩ := k3 hb
 obtain ⟨_, hit⟩ := k2 st r hk
 obtain ⟨g1, ⟨p, g2⟩, g3⟩ := itK_app wSuf (s.length + 1) s ks0 st r (Nat.lt_succ_self _) hk
 obtain ⟨_, t2, _⟩ := items_K (wPre ++ (s ++ wSuf)) hs
 have hrl : r.getLast? ≠ some 123 := by
  intro h
  apply hl
  rw [g2, List.getLast?_append, h]
  rfl
 obtain ⟨j, j1, j2⟩ := g3 14
 obtain ⟨i, hi⟩ : ∃ i, s.length + 1 + 14 - j = i + 2 := ⟨s.length + 1 + 14 - j - 2, by omega⟩
 have key : itK ((wPre ++ (s ++ wSuf)).length + 1) (wPre ++ (s ++ wSuf)) ks0 = some (preK [(2, wIf)] ⟨finP st.P (putK st r).t ++ [(2, sEnd)], [], false⟩, []) := by
  rw [hlen, pre_step, itK_pre, show s.length + 15 = s.length + 1 + 14 by omega, j2, hi, suf_step i r st g1 hrl]
  rfl
 obtain ⟨z1, z2⟩ := t2 _ _ key
 refine ⟨z1, ?_⟩
 rw [z2, hit]
 rfl
end Go.Mu
namespace Go.Mu
open Go Go.Proofs
theorem top_none : ∀ (n : Nat) (out : List NdD) (s : PsD), s.items.length ≤ n → (loopR 0 out s).bad = none → (loopR 0 out s).v.2 = none := by
 intro n
 induction n with
 | zero =>
  intro out s hn hb
  rw [loopR_nil (List.eq_nil_of_length_eq_zero (by omega))]
  rfl
 | succ n ih =>
  intro out s hn hb
  cases hit : s.items with
  | nil => rw [loopR_nil hit]; rfl
  | cons x r =>
   rw [hit] at hn
   simp only [List.length_cons] at hn
   rw [loopR_cons hit] at hb ⊢
   have hle : ({ s with items := r } : PsD).items.length ≤ n := by show r.length ≤ n; omega
   revert hle
   revert hb
   generalize ({ s with items := r } : PsD) = s1
   intro hb hle
   unfold pieceR at hb ⊢
   cases hk : x.kind == 1 with
   | true =>
    rw [hk] at hb
    simp only [cond_true] at hb ⊢
    obtain ⟨g1, g2⟩ := at_none hb
    rw [g2] at hb ⊢
    exact ih _ _ (Nat.le_trans (text_it _ _ _) hle) hb
   | false =>
    rw [hk] at hb
    simp only [cond_false] at hb ⊢
    obtain ⟨g1, g2⟩ := at_none hb
    rw [g2, words_it] at hb ⊢
    revert hb
    generalize (wordsP x s1).v = w
    intro hb
    cases he : w.head == sEnd || w.head == sElse with
    | true => rw [he] at hb; simp [psBad] at hb
    | false =>
     rw [he] at hb
     simp only [cond_false] at hb ⊢
     cases hde : w.head == sDefine with
     | true =>
      rw [hde] at hb
      simp only [cond_true, decide_true] at hb ⊢
      obtain ⟨k1, k2⟩ := at_none hb
      rw [k2] at hb ⊢
      exact ih _ _ (Nat.le_trans (defineR_it _ _) hle) hb
     | false =>
      rw [hde] at hb
      simp only [cond_false] at hb ⊢
      cases hkd : decide (kindN w.head ≥ 0) with
      | true =>
       rw [hkd] at hb
       simp only [cond_true] at hb ⊢
       obtain ⟨k1, k2⟩ := at_none hb
       rw [k2] at hb ⊢
       exact ih _ _ (Nat.le_trans (blockR_it _ _ _ _ _) hle) hb
      | false =>
       rw [hkd] at hb
       simp only [cond_false] at hb ⊢
       obtain ⟨k1, k2⟩ := at_none hb
       rw [k2] at hb ⊢
       exact ih _ _ (Nat.le_trans (single_it _ _) hle) hb
theorem ok_then {α β : Type} (v : α) (s : PsD) (d : β) (f : α → PsD → PRes β) : (psOk v s).andThen d f = f v s := rfl
theorem if_words (e : ItemD) (s : PsD) (h : ik e = (2, wIf)) : (wordsP e s).bad = none ∧ (wordsP e s).v.head = sIf ∧ (wordsP e s).v.words.drop 1 = [⟨2, [46], e.at_.toNat + 3⟩] ∧ (e.kind == 1) = false := by
 have hk : e.kind = 2 := congrArg Prod.fst h
 have ht : e.text = wIf := congrArg Prod.snd h
 have e1 : wdsE e = 0 := by unfold wdsE; rw [ht]; rfl
 have e2 : wdsL e = [⟨1, sIf, e.at_.toNat + 0⟩, ⟨2, [46], e.at_.toNat + 3⟩] := by unfold wdsL; rw [ht]; rfl
 refine ⟨?_, ?_, ?_, by rw [hk]; rfl⟩
 · unfold wordsP; rw [e1, e2]; rfl
 · unfold wordsP; rw [e1, e2]; rfl
 · unfold wordsP; rw [e1, e2]; rfl
theorem err2_parsE {T : Oc} (hT : T.length ≤ 16384) (hb : itBad T = false) (h : Err2 (parsR T)) : parsE T = 3 ∨ parsE T = 42 := by
 obtain ⟨b, h1, h2⟩ := h
 unfold parsE
 rw [dF (show ¬ 16384 < T.length by omega), hb, h1]
 exact h2
def wS (rest : List ItemD) (n : Nat) (z : Int) : PsD := ⟨rest, [mkDf [] nilList], n, z, 0⟩
abbrev wrapT (s : Oc) : Oc := wPre ++ (s ++ wSuf)
theorem wrap_pars (s : Oc) (hs : (wrapT s).length ≤ 16384) (he : parsE s = 0) (hd : (parsD s).length = 1) (hl : s.getLast? ≠ some 123) :
 (parsE (wrapT s) = 3 ∨ parsE (wrapT s) = 42) ∨ (parsE (wrapT s) = 0 ∧ ∃ nm l nm2 n l2, parsD s = [mkDf nm (bodyV l)] ∧ parsD (wrapT s) = [mkDf nm2 (bodyV [n])] ∧ n.body = bodyV l2 ∧ RelN l l2) := by
 have hlen : (wrapT s).length = s.length + 15 := by
  have : wPre.length = 8 := rfl
  have : wSuf.length = 7 := rfl
  rw [List.length_append, List.length_append]; omega
 have hs0 : ¬ 16384 < s.length := by omega
 have hT0 : ¬ 16384 < (wrapT s).length := by omega
 have hb : itBad s = false := by
  cases hb : itBad s with
  | false => rfl
  | true => unfold parsE at he; rw [dF hs0, hb] at he; simp at he
 have hbad : (parsR s).bad = none := by
  cases hr : (parsR s).bad with
  | none => rfl
  | some b =>
   exfalso
   unfold parsD at hd
   rw [dF hs0, hb, hr] at hd
   cases hd
 have hD : parsD s = parsDefs s := by unfold parsD; rw [dF hs0, hb, hbad]; rfl
 obtain ⟨tb, ti⟩ := wrap_items s hs hb hl
 have hp : parsR s = (loopR 0 [] (ps1 s)).andThen ([], pc0) (endP 0) := rfl
 rw [hp] at hbad
 obtain ⟨h1, h2⟩ := at_none hbad
 have hnone := top_none _ [] (ps1 s) (Nat.le_refl _) h1
 have hps : parsR s = psOk ((loopR 0 [] (ps1 s)).v.1, pc0) (loopR 0 [] (ps1 s)).s := by
  rw [hp, h2]; unfold endP; rw [hnone]; rfl
 have hD2 : parsDefs s = (loopR 0 [] (ps1 s)).s.defs.set 0 (mkDf ((loopR 0 [] (ps1 s)).s.defs.getD 0 df0).name (bodyV (loopR 0 [] (ps1 s)).v.1)) := by
  unfold parsDefs; rw [hps]; rfl
 have hd1 : (loopR 0 [] (ps1 s)).s.defs.length = 1 := by
  rw [hD, hD2, List.length_set] at hd; exact hd
 obtain ⟨i0, rest, hi⟩ : ∃ i0 rest, itemsOf (wrapT s) = i0 :: rest := by
  cases h : itemsOf (wrapT s) with
  | nil => rw [h] at ti; cases ti
  | cons a b => exact ⟨_, _, rfl⟩
 rw [hi, List.map_cons, List.cons.injEq] at ti
 obtain ⟨ti0, tir⟩ := ti
 obtain ⟨l, e, hle, hl1, hl2⟩ : ∃ l e, rest = l ++ [e] ∧ l.map ik = (itemsOf s).map ik ∧ ik e = (2, sEnd) := by
  obtain ⟨l1, l2, g1, g2, g3⟩ := List.map_eq_append_iff.1 tir
  obtain ⟨e, l3, g4, g5, g6⟩ := List.map_eq_cons_iff.1 g3
  have : l3 = [] := by simpa using g6
  subst this
  exact ⟨l1, e, by rw [g1, g4], g2, g5⟩
 have hpT : parsR (wrapT s) = (loopR 0 [] (ps1 (wrapT s))).andThen ([], pc0) (endP 0) := rfl
 rw [loopR_cons (show (ps1 (wrapT s)).items = i0 :: rest from hi)] at hpT
 have hpT : parsR (wrapT s) = (pieceR 0 [] i0 (wS rest (wrapT s).length 0)).andThen ([], pc0) (endP 0) := hpT
 obtain ⟨w1, w2, w3, w4⟩ := if_words i0 (wS rest (wrapT s).length 0) ti0
 unfold pieceR at hpT
 rw [w4] at hpT
 simp only [cond_false] at hpT
 rw [at_ok w1, words_it] at hpT
 revert hpT
 revert w2
 revert w3
 generalize (wordsP i0 (wS rest (wrapT s).length 0)).v = w
 intro w3 w2 hpT
 have hk0 : kindN sIf = 0 := rfl
 rw [w2, show (sIf == sEnd || sIf == sElse) = false from rfl, show (sIf == sDefine) = false from rfl, hk0] at hpT
 simp only [cond_false, show decide ((0 : Int) ≥ 0) = true from rfl, cond_true] at hpT
 have hpipe : (pipR w 1).2.2 = 0 := by unfold pipR; rw [w3]; rfl
 have hc1 : (countP w.at_ (wS rest (wrapT s).length 0)).bad = none := rfl
 have hc2 : (countP w.at_ (wS rest (wrapT s).length 0)).s = wS rest (wrapT s).length 1 := rfl
 have hpp : ∀ t, (pipeP w 1 t).bad = none := fun t => by unfold pipeP; rw [hpipe]; rfl
 have e1 : ∀ t, (pipeP w 1 t).v = (pipR w 1).1 := fun t => by unfold pipeP; rw [hpipe]; rfl
 have hblk : blockR (3 + 0) w 1 0 (wS rest (wrapT s).length 0) = (nodesR (0 + 1) (wS rest (wrapT s).length 1)).andThen nd0 (elseR (3 + 0) w (pipR w 1).1 0) := by
  rw [blockR_eq, at_ok hc1, hc2, at_ok (hpp _), pipe_it, e1]
  rfl
 rw [hblk] at hpT
 have hsim : SimS (ps1 s) (wS rest (wrapT s).length 1) := ⟨⟨l, e, hle, hl1, hl2⟩, rfl, rfl⟩
 have hL := (sim_all _).1 0 (ps1 s) (wS rest (wrapT s).length 1) [] [] (Nat.le_refl _) (Int.le_refl 0) hsim (fun d => trivial) h1 (by omega) (Nat.le_refl 1)
 have hnod0 : nodesR (0 + 1) (wS rest (wrapT s).length 1) = (loopR (0 + 1) [] (wS rest (wrapT s).length 1)).andThen ([], pc0) (endP (0 + 1)) := rfl
 rw [hnod0] at hpT
 revert hpT
 revert hL
 generalize loopR (0 + 1) [] (wS rest (wrapT s).length 1) = qq
 intro hL hpT
 rcases hL with hL | ⟨g1, g2, v, g3, g4⟩
 · left
   refine err2_parsE hs tb ?_
   rw [hpT]
   exact err2_then (err2_then (err2_then (err2_then hL)))
 · right
   rw [hnone] at g4
   obtain ⟨g4, g5, g6⟩ := g4
   have hnod : qq.andThen ([], pc0) (endP (0 + 1)) = psOk (qq.v.1, v) qq.s := by
    rw [at_ok g1]
    unfold endP
    rw [g3]
   rw [hnod] at hpT
   revert hpT
   revert g6
   revert g5
   revert g2
   generalize qq.v.1 = l2
   generalize qq.s = q
   intro g2 g5 g6 hpT
   have hels : elseR (3 + 0) w (pipR w 1).1 0 (l2, v) q = psOk (mkNd (3 + 0) [] [] (pipeV (pipR w 1).1) (bodyV l2) nilList w.at_) q := by
    unfold elseR
    simp only [g4]
    rfl
   have h3 : (psOk (l2, v) q).andThen nd0 (elseR (3 + 0) w (pipR w 1).1 0) = psOk (mkNd (3 + 0) [] [] (pipeV (pipR w 1).1) (bodyV l2) nilList w.at_) q := hels
   rw [h3] at hpT
   revert hpT
   generalize hn : mkNd (3 + 0) [] [] (pipeV (pipR w 1).1) (bodyV l2) nilList w.at_ = n
   intro hpT
   have hnb : n.body = bodyV l2 := by rw [← hn]; rfl
   have hpT2 : parsR (wrapT s) = psOk ([n], pc0) q := by
    rw [hpT, ok_then, loopR_nil g5, ok_then]
    rfl
   have hb2 : (parsR (wrapT s)).bad = none := by rw [hpT2]; rfl
   have hD3 : parsD (wrapT s) = parsDefs (wrapT s) := by
    unfold parsD; rw [dF hT0, tb, hb2]; simp only [cond_false, Option.isSome_none]
   have hD4 : parsDefs (wrapT s) = q.defs.set 0 (mkDf (q.defs.getD 0 df0).name (bodyV [n])) := by
    unfold parsDefs; rw [hpT2]; simp only [psOk]
   have one : ∀ (D : List DfD) (x : DfD), D.length = 1 → D.set 0 x = [x] := fun D x h => by
    cases D with
    | nil => cases h
    | cons a D =>
     have : D = [] := by simpa using h
     subst this
     rfl
   refine ⟨?_, ((loopR 0 [] (ps1 s)).s.defs.getD 0 df0).name, (loopR 0 [] (ps1 s)).v.1, (q.defs.getD 0 df0).name, n, l2, ?_, ?_, hnb, g2⟩
   · unfold parsE; rw [dF hT0, tb, hb2]; simp only [cond_false, Option.isSome_none]
   · rw [hD, hD2]; exact one _ _ hd1
   · rw [hD3, hD4]; exact one _ _ (g6.trans hd1)
end Go.Mu
namespace Go.Mu
open Go Go.Proofs
def decArg (r : Vs) : ArgD := ⟨intOf (r.getD 0 .undef), strOf (r.getD 1 .undef), fullOf (r.getD 2 .undef), decL decS (r.getD 2 .undef), intOf (r.getD 3 .undef), strOf (r.getD 4 .undef)⟩
theorem decArg_enc (a : ArgD) : decArg (encArg a) = a := by
 cases a
 simp only [decArg, encArg, List.getD_cons_zero, List.getD_cons_succ, intOf, strOf, fullOf]
 rw [decL_encL (g := decS) (f := encS) (fun s => rfl)]
def okArg (a : ArgD) : Prop := a.path.length ≤ 1099511627776 ∧ (∀ s ∈ a.path, s.length ≤ 1099511627776) ∧ a.name.length ≤ 1099511627776 ∧ a.text.length ≤ 1099511627776
end Go.Mu
namespace Go.Mu
open Go Go.Proofs
def decCall (r : Vs) : CallD := ⟨strOf (r.getD 0 .undef), fullOf (r.getD 1 .undef), decL decArg (r.getD 1 .undef)⟩
def okCall (c : CallD) : Prop := c.args.length ≤ 1099511627776 ∧ (∀ a ∈ c.args, okArg a) ∧ c.name.length ≤ 1099511627776
theorem decCall_enc (c : CallD) : decCall (encCall c) = c := by
 cases c
 simp only [decCall, encCall, List.getD_cons_zero, List.getD_cons_succ, strOf, fullOf]
 rw [decL_encL (g := decArg) (f := encArg) decArg_enc]
theorem getD_ok {α : Type} {p : α → Prop} {l : List α} {d : α} (h : ∀ a ∈ l, p a) {i : Nat} (hi : i < l.length) : p (l.getD i d) := by
 refine h _ ?_
 rw [gQ, List.getElem?_eq_getElem hi]
 exact List.getElem_mem hi
end Go.Mu
namespace Go.Mu
open Go Go.Proofs
def okPipe (l : List CallD) : Prop := l.length ≤ 1099511627776 ∧ ∀ c ∈ l, okCall c
theorem decPipe_enc (full : Bool) (l : List CallD) : decL decCall (encPipe full l) = l := decL_encL decCall_enc l
end Go.Mu
namespace Go.Mu
open Go Go.Proofs
def all2 {α : Type} (f : α → α → Bool) : List α → List α → Bool
 | [], [] => true
 | x :: xs, y :: ys => f x y && all2 f xs ys
 | _, _ => false
theorem all2_len {α : Type} {f : α → α → Bool} : ∀ (a b : List α), a.length ≠ b.length → all2 f a b = false
 | [], [], h => absurd rfl h
 | [], _ :: _, _ => rfl
 | _ :: _, [], _ => rfl
 | x :: xs, y :: ys, h => by
  simp only [all2, all2_len xs ys (by simpa using h), Bool.and_false]
theorem all2_any {α : Type} {f : α → α → Bool} (d : α) : ∀ (a b : List α), a.length = b.length → (List.range a.length).any (fun i => !f (a.getD i d) (b.getD i d)) = !all2 f a b
 | [], [], _ => rfl
 | [], _ :: _, h => by simp at h
 | _ :: _, [], h => by simp at h
 | x :: xs, y :: ys, h => by
  have ih := all2_any (f := f) d xs ys (by simpa using h)
  rw [List.length_cons, List.range_succ_eq_map, List.any_cons, List.any_map]
  have e : ((fun i => !f ((x :: xs).getD i d) ((y :: ys).getD i d)) ∘ Nat.succ) = fun i => !f (xs.getD i d) (ys.getD i d) := by
   funext i; simp [gQ]
  rw [e, ih]
  simp [all2]
theorem all2_refl {α : Type} {f : α → α → Bool} : ∀ a : List α, (∀ x ∈ a, f x x = true) → all2 f a a = true
 | [], _ => rfl
 | x :: xs, h => by
  simp only [all2, h x (by simp), all2_refl xs (fun y hy => h y (by simp [hy])), Bool.and_self]
abbrev eqS (a b : Oc) : Bool := a == b
theorem len_ne {α : Type} (a b : List α) : ((a.length : Int) != b.length) = !decide (a.length = b.length) := by
 by_cases h : a.length = b.length
 · rw [decide_eq_true h, h]; simp
 · rw [decide_eq_false h]
   have : ((a.length : Int) == b.length) = false := beq_false_of_ne (by omega)
   simp [bne, this]
def argEq (a b : ArgD) : Bool := a.kind == b.kind && a.name == b.name && a.int == b.int && a.text == b.text && all2 eqS a.path b.path
theorem argEq_refl (a : ArgD) : argEq a a = true := by
 unfold argEq
 simp only [beq_self_eq_true, Bool.true_and]
 exact all2_refl _ (fun s _ => by simp)
def callEq (c d : CallD) : Bool := c.name == d.name && all2 argEq c.args d.args
theorem callEq_refl (c : CallD) : callEq c c = true := by
 unfold callEq
 simp only [beq_self_eq_true, Bool.true_and]
 exact all2_refl _ (fun a _ => argEq_refl a)
def pipeEq (a b : List CallD) : Bool := all2 callEq a b
theorem pipeEq_refl (a : List CallD) : pipeEq a a = true := all2_refl _ (fun c _ => callEq_refl c)
noncomputable def sameTold : FSp := fun xs H k => match xs, H with
 | [x, y], [] => cond (tst (x = encPipe (fullOf x) (decL decCall x) ∧ y = encPipe (fullOf y) (decL decCall y) ∧ okPipe (decL decCall x) ∧ okPipe (decL decCall y))) (k (.ret (.bool (pipeEq (decL decCall x) (decL decCall y))) [])) none
 | _, _ => none
end Go.Mu
namespace Go.Mu
open Go Go.Proofs
noncomputable def layW : Lay := Lay.nil
theorem layW_ok : layW.OK Tryz.prog := Lay.nil_ok
noncomputable def sp15 : LSp := fun vs bs H k => match vs, bs with
 | [x, y, .int .i64 i, .int .i64 j, .ptr (.tmp 7) 0, .ptr (.tmp 8) 0, .int .i64 z], [c, d] => cond (tst (c = encArg (decArg c) ∧ d = encArg (decArg d) ∧ z = 0 ∧ (decArg c).path.length = (decArg d).path.length ∧ (decArg c).path.length ≤ 1099511627776))
  (cond (!all2 eqS (decArg c).path (decArg d).path) (k .ret [x, y, .bool false, .int .i64 i, .int .i64 j] [] H) (k (.exit 4) [x, y, .undef, .int .i64 i, .int .i64 j] [] H)) none
 | _, _ => none
noncomputable def sp9 : LSp := fun vs bs H k => match vs with
 | [x, y, .int .i64 i, .int .i64 z] => cond (tst (x = encPipe (fullOf x) (decL decCall x) ∧ y = encPipe (fullOf y) (decL decCall y) ∧ okPipe (decL decCall x) ∧ okPipe (decL decCall y) ∧ 0 ≤ i ∧ i < (decL decCall x).length ∧ i < (decL decCall y).length ∧ z = 0 ∧ ((decL decCall x).getD i.toNat callD0).args.length = ((decL decCall y).getD i.toNat callD0).args.length ∧ bs = []))
  (cond (!all2 argEq ((decL decCall x).getD i.toNat callD0).args ((decL decCall y).getD i.toNat callD0).args) (k .ret [x, y, .bool false, .int .i64 i] [] H) (k (.exit 2) [x, y, .undef, .int .i64 i] [] H)) none
 | _ => none
noncomputable def sp4 : LSp := fun vs bs H k => match vs with
 | [x, y, .int .i64 z] => cond (tst (x = encPipe (fullOf x) (decL decCall x) ∧ y = encPipe (fullOf y) (decL decCall y) ∧ okPipe (decL decCall x) ∧ okPipe (decL decCall y) ∧ z = 0 ∧ (decL decCall x).length = (decL decCall y).length ∧ bs = []))
  (cond (!all2 callEq (decL decCall x) (decL decCall y)) (k .ret [.bool false] [] H) (k (.exit 0) [.undef] [] H)) none
 | _ => none
noncomputable def spFH : FH := .of [(4, loopSpec 126 [0,1,5] [] [4] [] sp4), (9, loopSpec 126 [0,1,5,6] [] [0,1,4,5] [] sp9), (15, loopSpec 126 [0,1,5,6,7,8,9] [7,8] [0,1,4,5,6] [] sp15)]
noncomputable abbrev sp15Turn := lturn Tryz.prog layW spFH 14 15 [0,1,5,6,7,8,9] [7,8] [0,1,4,5,6] []
noncomputable abbrev sp9Turn := lturn Tryz.prog layW spFH 14 9 [0,1,5,6] [] [0,1,4,5] []
noncomputable abbrev sp4Turn := lturn Tryz.prog layW spFH 14 4 [0,1,5] [] [4] []
abbrev sp15St (x y : AVal) (i j : Int) (a b : ArgD) (m : Int) (H : Heap) (D : Dfs) : St := stL 126 [0,1,5,6,7,8,9] [x, y, .int .i64 i, .int .i64 j, .ptr (.tmp 7) 0, .ptr (.tmp 8) 0, .int .i64 m] [7,8] [encArg a, encArg b] H D
theorem sp15_step0 (x y : AVal) (i j : Int) (a b : ArgD) (m : Nat) (H : Heap) (D : Dfs) (k : Kont) : sp15Turn (sp15St x y i j a b m H D) k =
 cond (decide ((m : Int) < a.path.length)) (cond (decide ((m : Int) < a.path.length)) (cond (decide ((m : Int) < b.path.length)) (cond (!(a.path.getD (m : Int).toNat [] == b.path.getD (m : Int).toNat []))
  (k .ret (stL 126 [0,1,4,5,6] [x, y, .bool false, .int .i64 i, .int .i64 j] [] [] H D)) (k .normal (sp15St x y i j a b (IntKind.i64.wrap ((m : Int) + 1)) H D))) none) none)
  (k (.exit 4) (stL 126 [0,1,4,5,6] [x, y, .undef, .int .i64 i, .int .i64 j] [] [] H D)) := by kernel_rfl
theorem sp15_ok : SpOK sp15Turn 126 [0,1,5,6,7,8,9] [7,8] [0,1,4,5,6] [] sp15 := by
 intro vs bs H k out ho
 unfold sp15 at ho
 split at ho
 case h_2 => simp at ho
 rename_i x y i j z c d
 rw [Bool.cond_eq_ite] at ho
 split at ho
 case isFalse => simp at ho
 rename_i hc
 obtain ⟨hx, hy, rfl, hab, hn⟩ := of_tst hc
 generalize decArg c = a at hx hab hn ho
 generalize decArg d = b at hy hab ho
 subst hx hy
 have hrun := fun D k => search_any (turn := sp15Turn) (S := fun m => sp15St x y i j a b (m : Nat) H D) (hit := fun m => !eqS (a.path.getD m []) (b.path.getD m [])) (n := a.path.length) (e0 := .exit 4) (e1 := .ret) (R0 := stL 126 [0,1,4,5,6] [x, y, .undef, .int .i64 i, .int .i64 j] [] [] H D) (R1 := stL 126 [0,1,4,5,6] [x, y, .bool false, .int .i64 i, .int .i64 j] [] [] H D)
  (fun m k hi => by rw [sp15_step0, decide_eq_true (show (m : Int) < a.path.length by omega), decide_eq_true (show (m : Int) < b.path.length by omega), wrap_add1 (by omega), Int.toNat_natCast]; rfl)
  (fun k => by rw [sp15_step0, decide_eq_false (by omega)]; rfl) (by simp) (by simp) k
 rw [all2_any [] a.path b.path hab] at hrun
 cases ha : !all2 eqS a.path b.path with
 | true =>
  rw [ha] at ho
  exact ⟨_, _, _, _, _, _, .refl _, ⟨_, fun D k => (hrun D k).trans (by rw [ha]; rfl)⟩, .refl _, ho⟩
 | false =>
  rw [ha] at ho
  exact ⟨_, _, _, _, _, _, .refl _, ⟨_, fun D k => (hrun D k).trans (by rw [ha]; rfl)⟩, .refl _, ho⟩
abbrev sp9Re (fa fb : Bool) (a b : List CallD) (i : Int) (H : Heap) (D : Dfs) : St := stL 126 [0,1,4,5] [encPipe fa a, encPipe fb b, .bool false, .int .i64 i] [] [] H D
abbrev sp9St (fa fb : Bool) (a b : List CallD) (i j : Int) (H : Heap) (D : Dfs) : St := stL 126 [0,1,5,6] [encPipe fa a, encPipe fb b, .int .i64 i, .int .i64 j] [] [] H D
theorem sp9_step0 (fa fb : Bool) (a b : List CallD) (i j : Nat) (H : Heap) (D : Dfs) (k : Kont) : sp9Turn (sp9St fa fb a b i j H D) k =
 cond (decide ((i : Int) < a.length)) (cond (decide ((j : Int) < (a.getD (i : Int).toNat callD0).args.length)) (cond (decide ((i : Int) < a.length)) (cond (decide ((j : Int) < (a.getD (i : Int).toNat callD0).args.length)) (cond (decide ((i : Int) < b.length)) (cond (decide ((j : Int) < (b.getD (i : Int).toNat callD0).args.length))
  (cond (cond (cond (cond (cond (((a.getD (i : Int).toNat callD0).args.getD (j : Int).toNat argD0).kind != ((b.getD (i : Int).toNat callD0).args.getD (j : Int).toNat argD0).kind) true (!(((a.getD (i : Int).toNat callD0).args.getD (j : Int).toNat argD0).name == ((b.getD (i : Int).toNat callD0).args.getD (j : Int).toNat argD0).name))) true (((a.getD (i : Int).toNat callD0).args.getD (j : Int).toNat argD0).int != ((b.getD (i : Int).toNat callD0).args.getD (j : Int).toNat argD0).int)) true (!(((a.getD (i : Int).toNat callD0).args.getD (j : Int).toNat argD0).text == ((b.getD (i : Int).toNat callD0).args.getD (j : Int).toNat argD0).text))) true ((((a.getD (i : Int).toNat callD0).args.getD (j : Int).toNat argD0).path.length : Int) != ((b.getD (i : Int).toNat callD0).args.getD (j : Int).toNat argD0).path.length)) (k .ret (sp9Re fa fb a b i H D))
   (cond (tst (encArg ((a.getD (i : Int).toNat callD0).args.getD (j : Int).toNat argD0) = encArg (decArg (encArg ((a.getD (i : Int).toNat callD0).args.getD (j : Int).toNat argD0))) ∧ encArg ((b.getD (i : Int).toNat callD0).args.getD (j : Int).toNat argD0) = encArg (decArg (encArg ((b.getD (i : Int).toNat callD0).args.getD (j : Int).toNat argD0))) ∧ (0 : Int) = 0 ∧ (decArg (encArg ((a.getD (i : Int).toNat callD0).args.getD (j : Int).toNat argD0))).path.length = (decArg (encArg ((b.getD (i : Int).toNat callD0).args.getD (j : Int).toNat argD0))).path.length ∧ (decArg (encArg ((a.getD (i : Int).toNat callD0).args.getD (j : Int).toNat argD0))).path.length ≤ 1099511627776))
    (cond (!all2 eqS (decArg (encArg ((a.getD (i : Int).toNat callD0).args.getD (j : Int).toNat argD0))).path (decArg (encArg ((b.getD (i : Int).toNat callD0).args.getD (j : Int).toNat argD0))).path) (k .ret (sp9Re fa fb a b i H D)) (k .normal (sp9St fa fb a b i (IntKind.i64.wrap ((j : Int) + 1)) H D))) none)) none) none) none) none)
  (k (.exit 2) (stL 126 [0,1,4,5] [encPipe fa a, encPipe fb b, .undef, .int .i64 i] [] [] H D))) none := by kernel_rfl
theorem sp9_step (fa fb : Bool) (a b : List CallD) (i j : Nat) (H : Heap) (D : Dfs) (k : Kont) (ha : okPipe a) (hb : okPipe b) (hi : i < a.length) (hib : i < b.length) (hab : (a.getD i callD0).args.length = (b.getD i callD0).args.length) (hj : j < (a.getD i callD0).args.length) :
 sp9Turn (sp9St fa fb a b i j H D) k = cond (!argEq ((a.getD i callD0).args.getD j argD0) ((b.getD i callD0).args.getD j argD0)) (k .ret (sp9Re fa fb a b i H D)) (k .normal (sp9St fa fb a b i ((j + 1 : Nat) : Int) H D)) := by
 have oc : okCall (a.getD i callD0) := getD_ok ha.2 hi
 have oa : okArg ((a.getD i callD0).args.getD j argD0) := getD_ok oc.2.1 hj
 have hal := oc.1
 rw [sp9_step0, decide_eq_true (show (i : Int) < a.length by omega), Int.toNat_natCast, Int.toNat_natCast, decide_eq_true (show (j : Int) < ((a.getD i callD0).args.length : Int) by omega), decide_eq_true (show (i : Int) < b.length by omega), decide_eq_true (show (j : Int) < ((b.getD i callD0).args.length : Int) by omega), wrap_add1 (by omega), decArg_enc, decArg_enc, len_ne]
 generalize (a.getD i callD0).args.getD j argD0 = x at oa ⊢
 generalize (b.getD i callD0).args.getD j argD0 = y
 unfold argEq
 rw [show (x.kind != y.kind) = (!(x.kind == y.kind)) from rfl, show (x.int != y.int) = (!(x.int == y.int)) from rfl]
 by_cases hp : x.path.length = y.path.length
 · rw [decide_eq_true hp, tst_true ⟨rfl, rfl, rfl, hp, oa.1⟩]
   simp only [cond_true]
   generalize (x.kind == y.kind) = b1
   generalize (x.name == y.name) = b2
   generalize (x.int == y.int) = b3
   generalize (x.text == y.text) = b4
   generalize all2 eqS x.path y.path = b5
   cases b1 <;> cases b2 <;> cases b3 <;> cases b4 <;> cases b5 <;> rfl
 · rw [decide_eq_false hp, all2_len _ _ hp]
   simp only [cond_true]
   generalize (x.kind == y.kind) = b1
   generalize (x.name == y.name) = b2
   generalize (x.int == y.int) = b3
   generalize (x.text == y.text) = b4
   cases b1 <;> cases b2 <;> cases b3 <;> cases b4 <;> rfl
theorem sp9_ok : SpOK sp9Turn 126 [0,1,5,6] [] [0,1,4,5] [] sp9 := by
 intro vs bs H k out ho
 unfold sp9 at ho
 split at ho
 case h_2 => simp at ho
 rename_i x y i z
 rw [Bool.cond_eq_ite] at ho
 split at ho
 case isFalse => simp at ho
 rename_i hc
 obtain ⟨hx, hy, oka, okb, hi0, hi1, hi2, rfl, hab, rfl⟩ := of_tst hc
 generalize fullOf x = fa at hx
 generalize fullOf y = fb at hy
 generalize decL decCall x = a at hx oka hi1 hab ho
 generalize decL decCall y = b at hy okb hi2 hab ho
 subst hx hy
 obtain ⟨i, rfl⟩ : ∃ n : Nat, i = n := ⟨i.toNat, by omega⟩
 rw [Int.toNat_natCast] at hab ho
 have hrun := fun D k => search_any (turn := sp9Turn) (S := fun j => sp9St fa fb a b i (j : Nat) H D) (hit := fun j => !argEq ((a.getD i callD0).args.getD j argD0) ((b.getD i callD0).args.getD j argD0)) (n := (a.getD i callD0).args.length) (e0 := .exit 2) (e1 := .ret)
  (R0 := stL 126 [0,1,4,5] [encPipe fa a, encPipe fb b, .undef, .int .i64 i] [] [] H D) (R1 := sp9Re fa fb a b i H D)
  (fun j k hj => sp9_step fa fb a b i j H D k oka okb (by omega) (by omega) hab hj)
  (fun k => by rw [sp9_step0, decide_eq_true hi1, Int.toNat_natCast, decide_eq_false (by omega)]; rfl) (by simp) (by simp) k
 rw [all2_any argD0 _ _ hab] at hrun
 cases ha : !all2 argEq (a.getD i callD0).args (b.getD i callD0).args with
 | true =>
  rw [ha] at ho
  exact ⟨_, _, _, _, _, _, .refl _, ⟨_, fun D k => (hrun D k).trans (by rw [ha]; rfl)⟩, .refl _, ho⟩
 | false =>
  rw [ha] at ho
  exact ⟨_, _, _, _, _, _, .refl _, ⟨_, fun D k => (hrun D k).trans (by rw [ha]; rfl)⟩, .refl _, ho⟩
abbrev sp4St (fa fb : Bool) (a b : List CallD) (i : Int) (H : Heap) (D : Dfs) : St := stL 126 [0,1,5] [encPipe fa a, encPipe fb b, .int .i64 i] [] [] H D
theorem sp4_step0 (fa fb : Bool) (a b : List CallD) (i : Nat) (H : Heap) (D : Dfs) (k : Kont) : sp4Turn (sp4St fa fb a b i H D) k =
 cond (decide ((i : Int) < a.length)) (cond (decide ((i : Int) < a.length)) (cond (decide ((i : Int) < b.length))
  (cond (decide ((i : Int) < a.length) || !!!((a.getD (i : Int).toNat callD0).name == (b.getD (i : Int).toNat callD0).name)) (cond (decide ((i : Int) < b.length) || !!!((a.getD (i : Int).toNat callD0).name == (b.getD (i : Int).toNat callD0).name))
   (cond (cond (!((a.getD (i : Int).toNat callD0).name == (b.getD (i : Int).toNat callD0).name)) true (((a.getD (i : Int).toNat callD0).args.length : Int) != (b.getD (i : Int).toNat callD0).args.length)) (k .ret (stL 126 [4] [.bool false] [] [] H D))
    (cond (tst (encPipe fa a = encPipe (fullOf (encPipe fa a)) (decL decCall (encPipe fa a)) ∧ encPipe fb b = encPipe (fullOf (encPipe fb b)) (decL decCall (encPipe fb b)) ∧ okPipe (decL decCall (encPipe fa a)) ∧ okPipe (decL decCall (encPipe fb b)) ∧ 0 ≤ (i : Int) ∧ (i : Int) < (decL decCall (encPipe fa a)).length ∧ (i : Int) < (decL decCall (encPipe fb b)).length ∧ (0 : Int) = 0 ∧ ((decL decCall (encPipe fa a)).getD (i : Int).toNat callD0).args.length = ((decL decCall (encPipe fb b)).getD (i : Int).toNat callD0).args.length ∧ ([] : List Vs) = []))
     (cond (!all2 argEq ((decL decCall (encPipe fa a)).getD (i : Int).toNat callD0).args ((decL decCall (encPipe fb b)).getD (i : Int).toNat callD0).args) (k .ret (stL 126 [4] [.bool false] [] [] H D))
      (k .normal (sp4St fa fb a b (IntKind.i64.wrap ((i : Int) + 1)) H D))) none)) none) none) none) none)
  (k (.exit 0) (stL 126 [4] [.undef] [] [] H D)) := by kernel_rfl
theorem sp4_step (fa fb : Bool) (a b : List CallD) (i : Nat) (H : Heap) (D : Dfs) (k : Kont) (ha : okPipe a) (hb : okPipe b) (hi : i < a.length) (hib : i < b.length) :
 sp4Turn (sp4St fa fb a b i H D) k = cond (!callEq (a.getD i callD0) (b.getD i callD0)) (k .ret (stL 126 [4] [.bool false] [] [] H D)) (k .normal (sp4St fa fb a b ((i + 1 : Nat) : Int) H D)) := by
 have hal := ha.1
 rw [sp4_step0, decide_eq_true (show (i : Int) < a.length by omega), decide_eq_true (show (i : Int) < b.length by omega), wrap_add1 (by omega), len_ne, decPipe_enc, decPipe_enc, Int.toNat_natCast]
 unfold callEq
 by_cases hp : (a.getD i callD0).args.length = (b.getD i callD0).args.length
 · rw [decide_eq_true hp, tst_true ⟨rfl, rfl, ha, hb, by omega, by omega, by omega, rfl, hp, rfl⟩]
   generalize ((a.getD i callD0).name == (b.getD i callD0).name) = b1
   generalize all2 argEq (a.getD i callD0).args (b.getD i callD0).args = b2
   cases b1 <;> cases b2 <;> rfl
 · rw [decide_eq_false hp, all2_len _ _ hp]
   generalize ((a.getD i callD0).name == (b.getD i callD0).name) = b1
   cases b1 <;> rfl
theorem sp4_ok : SpOK sp4Turn 126 [0,1,5] [] [4] [] sp4 := by
 intro vs bs H k out ho
 unfold sp4 at ho
 split at ho
 case h_2 => simp at ho
 rename_i x y z
 rw [Bool.cond_eq_ite] at ho
 split at ho
 case isFalse => simp at ho
 rename_i hc
 obtain ⟨hx, hy, oka, okb, rfl, hab, rfl⟩ := of_tst hc
 generalize fullOf x = fa at hx
 generalize fullOf y = fb at hy
 generalize decL decCall x = a at hx oka hab ho
 generalize decL decCall y = b at hy okb hab ho
 subst hx hy
 have hrun := fun D k => search_any (turn := sp4Turn) (S := fun i => sp4St fa fb a b (i : Nat) H D) (hit := fun i => !callEq (a.getD i callD0) (b.getD i callD0)) (n := a.length) (e0 := .exit 0) (e1 := .ret)
  (R0 := stL 126 [4] [.undef] [] [] H D) (R1 := stL 126 [4] [.bool false] [] [] H D)
  (fun i k hi => sp4_step fa fb a b i H D k oka okb hi (by omega))
  (fun k => by rw [sp4_step0, decide_eq_false (by omega)]; rfl) (by simp) (by simp) k
 rw [all2_any callD0 _ _ hab] at hrun
 cases ha : !all2 callEq a b with
 | true =>
  rw [ha] at ho
  exact ⟨_, _, _, _, _, _, .refl _, ⟨_, fun D k => (hrun D k).trans (by rw [ha]; rfl)⟩, .refl _, ho⟩
 | false =>
  rw [ha] at ho
  exact ⟨_, _, _, _, _, _, .refl _, ⟨_, fun D k => (hrun D k).trans (by rw [ha]; rfl)⟩, .refl _, ho⟩
abbrev spF : Nat := 14
theorem sp_loops : LOk Tryz.prog spFH (codeOf Tryz.prog spF) := by
 have f15 : spFH.loops (firstRegion (loopAt 15 (codeOf Tryz.prog spF))) = some (loopSpec 126 [0,1,5,6,7,8,9] [7,8] [0,1,4,5,6] [] sp15) := by kernel_rfl
 have f9 : spFH.loops (firstRegion (loopAt 9 (codeOf Tryz.prog spF))) = some (loopSpec 126 [0,1,5,6] [] [0,1,4,5] [] sp9) := by kernel_rfl
 have f4 : spFH.loops (firstRegion (loopAt 4 (codeOf Tryz.prog spF))) = some (loopSpec 126 [0,1,5] [] [4] [] sp4) := by kernel_rfl
 have e15 : loopsIn (loopAt 15 (codeOf Tryz.prog spF)) = [] := by kernel_rfl
 have e9 : loopsIn (loopAt 9 (codeOf Tryz.prog spF)) = [loopAt 15 (codeOf Tryz.prog spF)] := by kernel_rfl
 have e4 : loopsIn (loopAt 4 (codeOf Tryz.prog spF)) = [loopAt 9 (codeOf Tryz.prog spF), loopAt 15 (codeOf Tryz.prog spF)] := by kernel_rfl
 have e : loopsIn (codeOf Tryz.prog spF) = [loopAt 4 (codeOf Tryz.prog spF), loopAt 9 (codeOf Tryz.prog spF), loopAt 15 (codeOf Tryz.prog spF)] := by kernel_rfl
 have t15 : LoopTold Tryz.prog (loopAt 15 (codeOf Tryz.prog spF)) (loopSpec 126 [0,1,5,6,7,8,9] [7,8] [0,1,4,5,6] [] sp15) := layW_ok.told (LOk.of _ (fun d hd => by rw [e15] at hd; cases hd)) sp15_ok
 have t9 : LoopTold Tryz.prog (loopAt 9 (codeOf Tryz.prog spF)) (loopSpec 126 [0,1,5,6] [] [0,1,4,5] [] sp9) := layW_ok.told (LOk.of _ (fun d hd sp hsp => by
  rw [e9, List.mem_singleton] at hd
  subst hd
  rw [f15, sJ] at hsp
  subst hsp; exact t15)) sp9_ok
 have t4 : LoopTold Tryz.prog (loopAt 4 (codeOf Tryz.prog spF)) (loopSpec 126 [0,1,5] [] [4] [] sp4) := layW_ok.told (LOk.of _ (fun d hd sp hsp => by
  rw [e4, List.mem_cons, List.mem_singleton] at hd
  rcases hd with rfl | rfl
  · rw [f9, sJ] at hsp
    subst hsp; exact t9
  · rw [f15, sJ] at hsp
    subst hsp; exact t15)) sp4_ok
 refine LOk.of _ (fun d hd sp hsp => ?_)
 rw [e, List.mem_cons, List.mem_cons, List.mem_singleton] at hd
 rcases hd with rfl | rfl | rfl
 · rw [f4, sJ] at hsp
   subst hsp; exact t4
 · rw [f9, sJ] at hsp
   subst hsp; exact t9
 · rw [f15, sJ] at hsp
   subst hsp; exact t15
noncomputable def layT : Lay := layW.addL spF spFH
theorem layT_ok : layT.OK Tryz.prog := layW_ok.addL sp_loops
theorem sp_fun (fa fb : Bool) (a b : List CallD) (k : Out → Ans) : iFun Tryz.prog (layT.hd Tryz.prog) layT.fhs 0 14 [encPipe fa a, encPipe fb b] [] k =
 cond ((a.length : Int) != b.length) (k (.ret (.bool false) []))
  (cond (tst (encPipe fa a = encPipe (fullOf (encPipe fa a)) (decL decCall (encPipe fa a)) ∧ encPipe fb b = encPipe (fullOf (encPipe fb b)) (decL decCall (encPipe fb b)) ∧ okPipe (decL decCall (encPipe fa a)) ∧ okPipe (decL decCall (encPipe fb b)) ∧ (0 : Int) = 0 ∧ (decL decCall (encPipe fa a)).length = (decL decCall (encPipe fb b)).length ∧ ([] : List Vs) = []))
   (cond (!all2 callEq (decL decCall (encPipe fa a)) (decL decCall (encPipe fb b))) (k (.ret (.bool false) [])) (k (.ret (.bool true) []))) none) := by kernel_rfl
theorem sp_call {a b : List CallD} (ha : okPipe a) (hb : okPipe b) (fa fb : Bool) (k : Out → Ans) : iFun Tryz.prog (layT.hd Tryz.prog) layT.fhs 0 14 [encPipe fa a, encPipe fb b] [] k = k (.ret (.bool (pipeEq a b)) []) := by
 rw [sp_fun, len_ne, decPipe_enc, decPipe_enc]
 unfold pipeEq
 by_cases h : a.length = b.length
 · rw [decide_eq_true h, tst_true ⟨rfl, rfl, ha, hb, rfl, h, rfl⟩]
   cases all2 callEq a b <;> rfl
 · rw [decide_eq_false h, all2_len a b h]; rfl
theorem spTold_ok (xs : Vs) (H : Heap) (k : Out → Ans) (out : Out) (ho : sameTold xs H k = some out) : ∃ o, CallOK Tryz.prog 14 xs H o ∧ k o = some out := by
 unfold sameTold at ho
 split at ho
 · rename_i x y
   rw [Bool.cond_eq_ite] at ho
   split at ho
   · rename_i hc
     obtain ⟨hx, hy, hn, hm⟩ := of_tst hc
     generalize fullOf x = fa at hx
     generalize fullOf y = fb at hy
     generalize decL decCall x = a at hx hn ho
     generalize decL decCall y = b at hy hm ho
     subst hx hy
     exact ⟨_, layT_ok.call (sp_call hn hm fa fb), ho⟩
   · simp at ho
 · simp at ho
end Go.Mu
namespace Go.Mu
open Go Go.Proofs
def PipeOk (x : AVal) : Prop := ∃ f l, Sub x (encPipe f l) ∧ okPipe l
def PipV : Nat → AVal → Prop
 | 0, _ => True
 | d + 1, x => ∀ n ∈ nodes x, PipeOk (.list n.pf n.pn n.pr) ∧ PipV d n.body ∧ PipV d n.els
noncomputable def spW : FSp := fun xs H k => match xs, H with
 | [x, y], [] => cond (tst (x = y ∧ PipeOk x)) (k (.ret (.bool true) [])) none
 | _, _ => none
noncomputable def smTold (W : AVal → AVal → Prop) : FSp := fun xs H k => match xs, H with
 | [x, y, .bool false], [] => cond (tst (W x y)) (k (.ret (.bool true) [])) none
 | _, _ => none
structure SmA where
 f : Bool
 l : List NdD
 g : Bool
 m : List NdD
noncomputable def laySm (W : AVal → AVal → Prop) : Lay := (Lay.nil.addF 14 spW).addF 8 (smTold W)
noncomputable def smSp (W : AVal → AVal → Prop) : LSp := mkL (fun vs _ H => SmA.mk (fullOf (vs.getD 0 .undef)) (nodes (vs.getD 0 .undef)) (fullOf (vs.getD 1 .undef)) (nodes (vs.getD 1 .undef))) (fun a => W (encNds a.f a.l) (encNds a.g a.m)) (fun a => [encNds a.f a.l, encNds a.g a.m, .bool false, .int .i64 0]) (fun _ => []) (fun _ => [])
 (fun a k => k (.exit 0) [.undef] [] [])
noncomputable def smFH (W : AVal → AVal → Prop) : FH := .of [(4, loopSpec 96 [0,1,2,7] [] [6] [] (smSp W))] { hoist := true }
theorem sm_step (W : AVal → AVal → Prop) (W' : AVal → AVal → Prop) (f g : Bool) (l m : List NdD) (i : Int) (D : Dfs) (k : Kont) : lturn Tryz.prog (laySm W) (smFH W') 8 4 [0,1,2,7] [] [6] [] (stL 96 [0,1,2,7] [encNds f l, encNds g m, .bool false, .int .i64 i] [] [] [] D) k = (
 let c0 : Bool := decide (i < (↑l.length : Int));
 let c1 : Bool := decide (0 ≤ i);
  bif c0 then bif c1 && c0 then bif c1 && decide (i < (↑m.length : Int)) then bif tst (AVal.list (l.getD i.toNat nd0).pf (l.getD i.toNat nd0).pn (l.getD i.toNat nd0).pr = AVal.list (m.getD i.toNat nd0).pf (m.getD i.toNat nd0).pn (m.getD i.toNat nd0).pr ∧ PipeOk (AVal.list (l.getD i.toNat nd0).pf (l.getD i.toNat nd0).pn (l.getD i.toNat nd0).pr)) then bif tst (W (AVal.list (l.getD i.toNat nd0).bf (l.getD i.toNat nd0).bn (l.getD i.toNat nd0).br) (AVal.list (m.getD i.toNat nd0).bf (m.getD i.toNat nd0).bn (m.getD i.toNat nd0).br)) then bif tst (W (AVal.list (l.getD i.toNat nd0).ef (l.getD i.toNat nd0).en (l.getD i.toNat nd0).er) (AVal.list (m.getD i.toNat nd0).ef (m.getD i.toNat nd0).en (m.getD i.toNat nd0).er)) then bif bif bif bif bif bif (l.getD i.toNat nd0).kind != (m.getD i.toNat nd0).kind then true else !(l.getD i.toNat nd0).text == (m.getD i.toNat nd0).text then true else !(l.getD i.toNat nd0).name == (m.getD i.toNat nd0).name then true else false then true else false then true else false then k AExit.ret (stL 96 [6] [AVal.bool false] [] [] [] D) else k AExit.normal (stL 96 [0, 1, 2, 7] [AVal.list f l.length fun i => encNd (l.getD i nd0), AVal.list g m.length fun i => encNd (m.getD i nd0), AVal.bool false, AVal.int .i64 (IntKind.i64.wrap (i + 1))] [] [] [] D) else none else none else none else none else none else k (AExit.exit 0) (stL 96 [6] [AVal.undef] [] [] [] D)) := by kernel_rfl
noncomputable def laySm1 (W : AVal → AVal → Prop) (W' : AVal → AVal → Prop) : Lay := (laySm W).addL 8 (smFH W')
theorem sm_fun (W : AVal → AVal → Prop) (W' : AVal → AVal → Prop) (f g : Bool) (l m : List NdD) (k : Out → Ans) : iFun Tryz.prog ((laySm1 W W').hd Tryz.prog) (laySm1 W W').fhs 0 8 [encNds f l, encNds g m, .bool false] [] k = (
 bif (↑l.length : Int) != (↑m.length : Int) then k (Out.ret (AVal.bool false) []) else bif tst (W' (encNds (fullOf (AVal.list f l.length fun i => encNd (l.getD i nd0))) (nodes (AVal.list f l.length fun i => encNd (l.getD i nd0)))) (encNds (fullOf (AVal.list g m.length fun i => encNd (m.getD i nd0))) (nodes (AVal.list g m.length fun i => encNd (m.getD i nd0)))) ∧ SubTL [AVal.list f l.length fun i => encNd (l.getD i nd0), AVal.list g m.length fun i => encNd (m.getD i nd0), AVal.bool false, AVal.int .i64 0] [encNds (fullOf (AVal.list f l.length fun i => encNd (l.getD i nd0))) (nodes (AVal.list f l.length fun i => encNd (l.getD i nd0))), encNds (fullOf (AVal.list g m.length fun i => encNd (m.getD i nd0))) (nodes (AVal.list g m.length fun i => encNd (m.getD i nd0))), AVal.bool false, AVal.int .i64 0] ∧ ([] : List Vs) = [] ∧ ([] : Heap) = []) then k (Out.ret (AVal.bool true) []) else none) := by kernel_rfl
end Go.Mu
namespace Go.Mu
open Go Go.Proofs
theorem spW_ok (xs : Vs) (H : Heap) (k : Out → Ans) (out : Out) (ho : spW xs H k = some out) : ∃ o, CallOK Tryz.prog 14 xs H o ∧ k o = some out := by
 unfold spW at ho
 split at ho
 case h_2 => simp at ho
 rename_i x y
 rw [Bool.cond_eq_ite] at ho
 split at ho
 case isFalse => simp at ho
 rename_i hc
 obtain ⟨rfl, f, l, h1, h2⟩ := of_tst hc
 have hd : decL decCall (encPipe f l) = l := decPipe_enc f l
 have h3 : sameTold [encPipe f l, encPipe f l] [] some = some (Out.ret (.bool true) []) := by
  show cond (tst (encPipe f l = encPipe (fullOf (encPipe f l)) (decL decCall (encPipe f l)) ∧ encPipe f l = encPipe (fullOf (encPipe f l)) (decL decCall (encPipe f l)) ∧ okPipe (decL decCall (encPipe f l)) ∧ okPipe (decL decCall (encPipe f l)))) (some (Out.ret (.bool (pipeEq (decL decCall (encPipe f l)) (decL decCall (encPipe f l)))) [])) none = some (Out.ret (.bool true) [])
  rw [hd, tst_true ⟨rfl, rfl, h2, h2⟩, pipeEq_refl]
  rfl
 obtain ⟨o, h4, h5⟩ := spTold_ok _ _ _ _ h3
 rw [sJ] at h5
 subst h5
 exact ⟨_, CallOK.subArgs h4 (.cons h1 (.cons h1 .nil)), ho⟩
def smW (d : Nat) (x y : AVal) : Prop := (wfV d x ∧ wfV d y) ∧ (PipV d x ∧ PipV d y) ∧ EqV d x y
theorem smW_up {d : Nat} {f g : Bool} {l m : List NdD} (h : smW (d + 1) (encNds f l) (encNds g m)) : l.length ≤ 1099511627776 ∧ m.length = l.length ∧ ∀ i, i < l.length → NdEqF (EqV d) (l.getD i nd0) (m.getD i nd0) ∧ PipeOk (.list (l.getD i nd0).pf (l.getD i nd0).pn (l.getD i nd0).pr) ∧ smW d (l.getD i nd0).body (m.getD i nd0).body ∧ smW d (l.getD i nd0).els (m.getD i nd0).els := by
 obtain ⟨⟨⟨_, h1, h2⟩, ⟨_, h3, h4⟩⟩, ⟨p1, p2⟩, h5⟩ := h
 have e1 : nodes (encNds f l) = l := nodes_enc f l
 have e2 : nodes (encNds g m) = m := nodes_enc g m
 have h5 : RelL (NdEqF (EqV d)) (nodes (encNds f l)) (nodes (encNds g m)) := h5
 have p1 : ∀ n ∈ nodes (encNds f l), PipeOk (.list n.pf n.pn n.pr) ∧ PipV d n.body ∧ PipV d n.els := p1
 have p2 : ∀ n ∈ nodes (encNds g m), PipeOk (.list n.pf n.pn n.pr) ∧ PipV d n.body ∧ PipV d n.els := p2
 rw [e1] at h2 p1 h5
 rw [e2] at h4 p2 h5
 have hl := relL_len h5
 refine ⟨h1, hl, fun i hi => ?_⟩
 have hE := relL_get i h5 hi
 obtain ⟨a1, a2⟩ := h2 _ (mem_getD hi)
 obtain ⟨b1, b2⟩ := h4 _ (mem_getD (show i < m.length by omega))
 obtain ⟨c0, c1, c2⟩ := p1 _ (mem_getD hi)
 obtain ⟨_, d1, d2⟩ := p2 _ (mem_getD (show i < m.length by omega))
 exact ⟨hE, c0, ⟨⟨a1, b1⟩, ⟨c1, d1⟩, hE.2.2.2.2.1⟩, ⟨⟨a2, b2⟩, ⟨c2, d2⟩, hE.2.2.2.2.2⟩⟩
noncomputable abbrev smTurn (d : Nat) := lturn Tryz.prog (laySm (smW d)) (smFH (smW (d + 1))) 8 4 [0,1,2,7] [] [6] []
theorem smSp_ok (d : Nat) : SpOK (smTurn d) 96 [0,1,2,7] [] [6] [] (smSp (smW (d + 1))) := mkL_ok fun a h => by
 obtain ⟨f, l, g, m⟩ := a
 replace h : smW (d + 1) (encNds f l) (encNds g m) := h
 obtain ⟨hl, hm, hi⟩ := smW_up h
 refine ⟨_, _, _, _, fun k => rfl, l.length + 1, fun D k => ?_⟩
 have hrun : ∀ (j i : Nat), i + j = l.length → rounds (smTurn d) (j + 1) (stL 96 [0,1,2,7] [encNds f l, encNds g m, .bool false, .int .i64 (i : Nat)] [] [] [] D) k = k (.exit 0) (stL 96 [6] [.undef] [] [] [] D) := by
  intro j
  induction j with
  | zero =>
   intro i he
   obtain rfl : i = l.length := by omega
   rw [rounds_succ']
   refine (sm_step _ _ f g l m _ D _).trans ?_
   simp only [dF (show ¬ ((l.length : Nat) : Int) < (l.length : Int) by omega), cond_false]
  | succ j ih =>
   intro i he
   have hil : i < l.length := by omega
   rw [rounds_succ']
   refine (sm_step _ _ f g l m _ D _).trans ?_
   obtain ⟨q1, q2, q3, q4⟩ := hi i hil
   rw [Int.toNat_natCast]
   have t0 : (AVal.list (l.getD i nd0).pf (l.getD i nd0).pn (l.getD i nd0).pr) = (AVal.list (m.getD i nd0).pf (m.getD i nd0).pn (m.getD i nd0).pr) := by
    obtain ⟨e1, e2, e3⟩ := q1.2.2.2.1
    rw [e1, e2, e3]
   have t1 := tst_true (⟨t0, q2⟩ : _ ∧ PipeOk (.list (l.getD i nd0).pf (l.getD i nd0).pn (l.getD i nd0).pr))
   have t2 : tst (smW d (.list (l.getD i nd0).bf (l.getD i nd0).bn (l.getD i nd0).br) (.list (m.getD i nd0).bf (m.getD i nd0).bn (m.getD i nd0).br)) = true := tst_true q3
   have t3 : tst (smW d (.list (l.getD i nd0).ef (l.getD i nd0).en (l.getD i nd0).er) (.list (m.getD i nd0).ef (m.getD i nd0).en (m.getD i nd0).er)) = true := tst_true q4
   obtain ⟨k1, k2, k3, _⟩ := q1
   have i1 : ((l.getD i nd0).kind != (m.getD i nd0).kind) = false := by rw [k1]; simp
   have i2 : (!(l.getD i nd0).text == (m.getD i nd0).text) = false := by rw [k2]; simp
   have i3 : (!(l.getD i nd0).name == (m.getD i nd0).name) = false := by rw [k3]; simp
   rw [dT (show (i : Int) < (l.length : Int) by omega), dT (show (0 : Int) ≤ (i : Int) by omega), dT (show (i : Int) < (m.length : Int) by omega), t1, t2, t3, i1, i2, i3]
   simp only [Bool.and_self, cond_true, cond_false, wrap_add1 (show i < 4611686018427387904 by omega)]
   exact ih (i + 1) (by omega)
 exact hrun l.length 0 (by omega)
noncomputable abbrev smT (d : Nat) : FSp := smTold (smW d)
theorem sub_smW {d : Nat} {x y : AVal} (h : smW (d + 1) x y) : smW (d + 1) (encNds (fullOf x) (nodes x)) (encNds (fullOf y) (nodes y)) ∧ Sub x (encNds (fullOf x) (nodes x)) ∧ Sub y (encNds (fullOf y) (nodes y)) := by
 obtain ⟨⟨⟨h1, h2, h3⟩, ⟨g1, g2, g3⟩⟩, ⟨p1, p2⟩, h5⟩ := h
 have e1 : nodes (encNds (fullOf x) (nodes x)) = nodes x := nodes_enc _ _
 have e2 : nodes (encNds (fullOf y) (nodes y)) = nodes y := nodes_enc _ _
 have hl1 : (nodes x).length = lenL x := lenL_decL (g := decNd) h1
 have hl2 : (nodes y).length = lenL y := lenL_decL (g := decNd) g1
 refine ⟨⟨⟨⟨wfL_encL wfNd_enc _, by show (nodes x).length ≤ _; rw [hl1]; exact h2, by rw [e1]; exact h3⟩, ⟨wfL_encL wfNd_enc _, by show (nodes y).length ≤ _; rw [hl2]; exact g2, by rw [e2]; exact g3⟩⟩, ⟨?_, ?_⟩, ?_⟩, sub_encL h1 wfNd_sub, sub_encL g1 wfNd_sub⟩
 · show ∀ n ∈ nodes (encNds (fullOf x) (nodes x)), PipeOk (.list n.pf n.pn n.pr) ∧ PipV d n.body ∧ PipV d n.els
   rw [e1]; exact p1
 · show ∀ n ∈ nodes (encNds (fullOf y) (nodes y)), PipeOk (.list n.pf n.pn n.pr) ∧ PipV d n.body ∧ PipV d n.els
   rw [e2]; exact p2
 · show RelL (NdEqF (EqV d)) (nodes (encNds (fullOf x) (nodes x))) (nodes (encNds (fullOf y) (nodes y)))
   rw [e1, e2]; exact h5
theorem smT_ok : ∀ (d : Nat) (xs : Vs) (H : Heap) (k : Out → Ans) (out : Out), smT d xs H k = some out → ∃ o, CallOK Tryz.prog 8 xs H o ∧ k o = some out
 | d, xs, H, k, out, ho => by
  unfold smT smTold at ho
  split at ho
  case h_2 => simp at ho
  rename_i x y
  rw [Bool.cond_eq_ite] at ho
  split at ho
  case isFalse => simp at ho
  rename_i hc
  have hW := of_tst hc
  cases d with
  | zero => exact hW.1.1.elim
  | succ d =>
   have hE : (laySm (smW d)).OK Tryz.prog := (Lay.nil_ok.addF spW_ok).addF (smT_ok d)
   have hE1 : (laySm1 (smW d) (smW (d + 1))).OK Tryz.prog := hE.loop1 (id := 4) (by kernel_rfl) (by kernel_rfl) (by kernel_rfl) (smSp_ok d)
   obtain ⟨w1, w2, w3⟩ := sub_smW hW
   refine ⟨_, CallOK.subArgs (hE1.call (o := .ret (.bool true) []) (fun k => ?_)) (.cons w2 (.cons w3 (.cons (.refl _) .nil))), ho⟩
   refine (sm_fun _ _ _ _ _ _ k).trans ?_
   have e1 : encNds (fullOf (encNds (fullOf x) (nodes x))) (nodes (encNds (fullOf x) (nodes x))) = encNds (fullOf x) (nodes x) := by rw [nodes_enc]; rfl
   have e2 : encNds (fullOf (encNds (fullOf y) (nodes y))) (nodes (encNds (fullOf y) (nodes y))) = encNds (fullOf y) (nodes y) := by rw [nodes_enc]; rfl
   have hl := (smW_up w1).2.1
   have hne : (((nodes x).length : Int) != ((nodes y).length : Int)) = false := by rw [hl]; simp
   rw [hne]
   simp only [cond_false]
   refine Eq.trans (congrArg (fun c => cond c _ none) (tst_true ⟨?_, ?_, by trivial, by trivial⟩)) (cond_true _ _)
   · show smW (d + 1) (encNds (fullOf (encNds (fullOf x) (nodes x))) (nodes (encNds (fullOf x) (nodes x)))) (encNds (fullOf (encNds (fullOf y) (nodes y))) (nodes (encNds (fullOf y) (nodes y))))
     rw [e1, e2]; exact w1
   · show SubTL _ [encNds (fullOf (encNds (fullOf x) (nodes x))) (nodes (encNds (fullOf x) (nodes x))), encNds (fullOf (encNds (fullOf y) (nodes y))) (nodes (encNds (fullOf y) (nodes y))), _, _]
     rw [e1, e2]; exact .refl _
end Go.Mu
namespace Go.Mu
open Go Go.Proofs
theorem len_sumW {α : Type} (f : α → Nat) : ∀ l : List α, l.length ≤ (l.map (fun a => f a + 1)).sum
 | [] => Nat.le_refl _
 | x :: l => by
  have := len_sumW f l
  simp only [List.map_cons, List.sum_cons, List.length_cons]; omega
theorem sumLW_len (l : List Oc) : l.length ≤ sumL l := by
 unfold sumL
 induction l with
 | nil => exact Nat.le_refl _
 | cons x l ih => simp only [List.map_cons, List.sum_cons, List.length_cons]; omega
theorem okPipeW_of {l : List CallD} (h : pW l ≤ 4194304) (hi : ∀ c ∈ l, CallW 1048576 c) : okPipe l := by
 have h1 := len_sumW cW l
 unfold pW at h
 refine ⟨by omega, fun c hc => ?_⟩
 have h2 := mem_sum (fun c => cW c + 1) l c hc
 have h4 := len_sumW aW c.args
 have h5 : (c.args.map (fun a => aW a + 1)).sum ≤ cW c := by unfold cW; omega
 obtain ⟨g1, g2⟩ := hi c hc
 refine ⟨by omega, fun a ha => ?_, by omega⟩
 have g3 := (g1 a ha).2.2
 unfold aW at g3
 have g4 := sumLW_len a.path
 refine ⟨by omega, fun s hs => ?_, by omega, by omega⟩
 have := mem_sum (fun s => s.length + 1) a.path s hs
 unfold sumL at g3
 omega
def PcW (w : PcD) : Prop := (∀ x ∈ w.words, WFW x) ∧ (w.words.map wtW).sum ≤ 16384
theorem pcW0 : PcW pc0 := ⟨fun x hx => (by cases hx), Nat.zero_le _⟩
theorem sum_drop_le (f : WdD → Nat) : ∀ (l : List WdD) (n : Nat), ((l.drop n).map f).sum ≤ (l.map f).sum
 | [], n => by simp
 | x :: l, 0 => Nat.le_refl _
 | x :: l, n + 1 => by
  have := sum_drop_le f l n
  simp only [List.drop_succ_cons, List.map_cons, List.sum_cons]; omega
theorem parR_okPipe {l : List WdD} (at_ : Int) (hw : ∀ x ∈ l, WFW x) (hs : (l.map wtW).sum ≤ 16384) (h : (parR l at_).2.2 = 0) : okPipe (parR l at_).1 := by
 unfold parR at h ⊢
 cases hE : l.isEmpty with
 | true => rw [hE] at h; cases h
 | false =>
  rw [hE, cond_false] at h
  rw [cond_false]
  cases hp : parM l.length l [] at_ with
  | mk o cs =>
   rw [hp] at h
   cases o with
   | some e => exact absurd h (parM_err _ _ _ _ _ _ hp)
   | none =>
    obtain ⟨c, q, e1, e2, e3, e4, e5, e6⟩ := par_wf 1048576 _ l [] at_ cs (fun e => by rw [e] at hE; cases hE) (Nat.le_refl _) (fun x hx => ⟨hw x hx, by
     have := mem_sum wtW l x hx
     have := wtW_text x
     omega⟩) hp
    rw [List.nil_append] at e1
    subst e1
    exact okPipeW_of (l := c :: q) (by omega) e5
theorem pipeOk_nil : PipeOk nilList := ⟨true, [], Sub.list (fun h => h) (fun i hi => by omega), by show 0 ≤ _; omega, fun c hc => by cases hc⟩
theorem pipeOk_enc {l : List CallD} (h : okPipe l) : PipeOk (pipeV l) := ⟨false, l, .refl _, h⟩
theorem pipeP_ok {w : PcD} (hw : PcW w) (n : Nat) (s : PsD) : PipeOk (pipeV (pipeP w n s).v) := by
 unfold pipeP
 cases hc : (pipR w n).2.2 == 0 with
 | true =>
  refine pipeOk_enc (parR_okPipe w.at_ (fun x hx => hw.1 x (List.mem_of_mem_drop hx)) (Nat.le_trans (sum_drop_le _ _ _) hw.2) (by simpa using hc))
 | false => exact pipeOk_enc ⟨by show 0 ≤ _; omega, fun c hc => by cases hc⟩
theorem wfV_suc : ∀ (d : Nat) (x : AVal), wfV d x → wfV (d + 1) x
 | 0, x, h => h.elim
 | d + 1, x, h => ⟨h.1, h.2.1, fun n hn => ⟨wfV_suc d _ (h.2.2 n hn).1, wfV_suc d _ (h.2.2 n hn).2⟩⟩
def WfE (x : AVal) : Prop := ∃ d, wfV d x
theorem wfV_add {x : AVal} {d : Nat} (h : wfV d x) : ∀ k, wfV (d + k) x
 | 0 => h
 | k + 1 => wfV_suc (d + k) x (wfV_add h k)
theorem wfV_le {x : AVal} {d e : Nat} (h : wfV d x) (hd : d ≤ e) : wfV e x := by
 obtain ⟨k, rfl⟩ := Nat.exists_eq_add_of_le hd
 exact wfV_add h k
def NdP (n : NdD) : Prop := (∀ d, PipeOk (.list n.pf n.pn n.pr) ∧ PipV d n.body ∧ PipV d n.els) ∧ WfE n.body ∧ WfE n.els
theorem wfE_all : ∀ (l : List NdD), (∀ n ∈ l, NdP n) → ∃ d, ∀ n ∈ l, wfV d n.body ∧ wfV d n.els
 | [], _ => ⟨0, fun n hn => by cases hn⟩
 | n :: l, h => by
  obtain ⟨d, hd⟩ := wfE_all l (fun m hm => h m (List.mem_cons_of_mem _ hm))
  obtain ⟨_, ⟨a, ha⟩, ⟨b, hb⟩⟩ := h n (List.mem_cons_self ..)
  refine ⟨d + a + b, fun m hm => ?_⟩
  rcases List.mem_cons.1 hm with rfl | hm
  · exact ⟨wfV_le ha (by omega), wfV_le hb (by omega)⟩
  · exact ⟨wfV_le (hd m hm).1 (by omega), wfV_le (hd m hm).2 (by omega)⟩
theorem wfE_list {l : List NdD} (h : ∀ n ∈ l, NdP n) (x : AVal) (hx : nodes x = l) (hw : wfL wfNd x = true) (hl : lenL x ≤ 1099511627776) : WfE x := by
 obtain ⟨d, hd⟩ := wfE_all l h
 exact ⟨d + 1, hw, hl, fun n hn => hd n (by rw [← hx]; exact hn)⟩
theorem wfE_nil : WfE nilList := ⟨1, rfl, by show 0 ≤ _; omega, fun n hn => by cases hn⟩
theorem wfE_body {l : List NdD} (h : ∀ n ∈ l, NdP n) (hl : l.length ≤ 1099511627776) : WfE (bodyV l) := wfE_list h (bodyV l) (nodes_enc false l) (wfL_encL wfNd_enc l) hl
theorem wfE_one {n : NdD} (h : NdP n) : WfE (oneV n) := wfE_list (l := [n]) (fun m hm => by rw [List.mem_singleton] at hm; rw [hm]; exact h) (oneV n) rfl (by
 show (List.range 1).all (fun i => wfNd ([encNd n].getD i [])) = true
 simp only [List.range_one, List.all_cons, List.all_nil, Bool.and_true]
 exact wfNd_enc n) (by show 1 ≤ _; omega)
theorem pipV_nil : ∀ d, PipV d nilList
 | 0 => trivial
 | d + 1 => fun n hn => by cases hn
theorem pipV_body {l : List NdD} (h : ∀ n ∈ l, NdP n) : ∀ d, PipV d (bodyV l)
 | 0 => trivial
 | d + 1 => fun n hn => by
  have e : nodes (bodyV l) = l := nodes_enc false l
  rw [e] at hn
  exact (h n hn).1 d
theorem pipV_one {n : NdD} (h : NdP n) : ∀ d, PipV d (oneV n)
 | 0 => trivial
 | d + 1 => fun m hm => by
  have e : nodes (oneV n) = [n] := rfl
  rw [e, List.mem_singleton] at hm
  rw [hm]; exact h.1 d
theorem ndP_mk {k : Int} {t n : Nm} {p b e : AVal} {a : Int} (hp : PipeOk p) (h1 : ∃ f n r, p = .list f n r) (h2 : ∃ f n r, b = .list f n r) (h3 : ∃ f n r, e = .list f n r) (hb : ∀ d, PipV d b) (he : ∀ d, PipV d e) (wb : WfE b) (we : WfE e) : NdP (mkNd k t n p b e a) := by
 obtain ⟨_, _, _, rfl⟩ := h1
 obtain ⟨_, _, _, rfl⟩ := h2
 obtain ⟨_, _, _, rfl⟩ := h3
 exact ⟨fun d => ⟨hp, hb d, he d⟩, wb, we⟩
theorem ndP_leaf {k : Int} {t n : Nm} {p : AVal} {a : Int} (hp : PipeOk p) (h1 : ∃ f n r, p = .list f n r) : NdP (mkNd k t n p nilList nilList a) := ndP_mk hp h1 ⟨_, _, _, rfl⟩ ⟨_, _, _, rfl⟩ pipV_nil pipV_nil wfE_nil wfE_nil
theorem ndP0 : NdP nd0 := ⟨fun d => ⟨pipeOk_nil, pipV_nil d, pipV_nil d⟩, wfE_nil, wfE_nil⟩
theorem v_then {α β : Type} {P : β → Prop} {r : PRes α} {d : β} {f : α → PsD → PRes β} (hd : P d) (hf : r.bad = none → P (f r.v r.s).v) : P (r.andThen d f).v := by
 unfold PRes.andThen
 cases e : r.bad with
 | some b => exact hd
 | none => exact hf e
theorem v_bif {β : Type} {P : β → Prop} {c : Bool} {a b : PRes β} (h1 : c = true → P a.v) (h2 : c = false → P b.v) : P (bif c then a else b).v := by
 cases c
 · exact h2 rfl
 · exact h1 rfl
theorem wds_pcW {x : ItemD} (hx : okIt x) (s : PsD) : PcW (wordsP x s).v := by
 unfold wordsP
 refine v_bif (fun _ => v_bif (fun _ => ?_) (fun _ => pcW0)) (fun _ => pcW0)
 show (∀ y ∈ wdsL x, WFW y) ∧ ((wdsL x).map wtW).sum ≤ 16384
 unfold wdsL
 cases (wordsE x.text).isSome with
 | true => exact ⟨fun y hy => (by cases hy), Nat.zero_le _⟩
 | false =>
  obtain ⟨h1, h2⟩ := wdsM_wf x.text.length x.text 0
  simp only [cond_false, List.map_map]
  refine ⟨fun y hy => ?_, ?_⟩
  · obtain ⟨z, hz, rfl⟩ := List.mem_map.1 hy
    exact h1 z hz
  · have e : (wtW ∘ atW x.at_) = wtW := rfl
    rw [e]
    have := hx.1
    exact Nat.le_trans h2 this
theorem ndP_single {w : PcD} (hw : PcW w) (s : PsD) : NdP (singleP w s).v := by
 unfold singleP
 refine v_then ndP0 (fun _ => ?_)
 generalize (countP w.at_ s).s = s
 have pp : ∀ (n : Nat) (s : PsD) (k : Int) (t : Nm), NdP ((pipeP w n s).andThen nd0 fun p s => psOk (mkNd k [] t (pipeV p) nilList nilList w.at_) s).v := fun n s k t =>
  v_then ndP0 (fun _ => ndP_leaf (pipeP_ok hw n s) ⟨_, _, _, rfl⟩)
 refine v_bif (fun _ => v_then ndP0 (fun _ => v_bif (fun _ => pp 2 _ 6 _) (fun _ => ndP_leaf pipeOk_nil ⟨_, _, _, rfl⟩))) (fun _ => v_bif (fun _ => v_bif (fun _ => pp 2 _ 7 _) (fun _ => ndP0)) (fun _ => pp 0 _ 2 _))
theorem ndP_text {out : List NdD} (ho : ∀ n ∈ out, NdP n) (x : ItemD) (s : PsD) : (∀ n ∈ (textP out x s).v, NdP n) ∧ (textP out x s).v.length ≤ out.length + 1 := by
 unfold textP
 refine v_bif (P := fun l : List NdD => (∀ n ∈ l, NdP n) ∧ l.length ≤ out.length + 1) (fun hc => ⟨fun n hn => ?_, ?_⟩) (fun _ => v_then (P := fun l : List NdD => (∀ n ∈ l, NdP n) ∧ l.length ≤ out.length + 1) ⟨fun n hn => (by cases hn), Nat.zero_le _⟩ (fun _ => ⟨fun n hn => ?_, ?_⟩))
 · rw [Bool.and_eq_true] at hc
   have h0 := of_decide_eq_true hc.1
   rcases List.mem_or_eq_of_mem_set hn with h | rfl
   · exact ho n h
   · have hl : lastN out ∈ out := mem_getD (by omega)
     have h2 := ho _ hl
     exact ⟨fun d => h2.1 d, h2.2⟩
 · show (out.set _ _).length ≤ _
   rw [List.length_set]; omega
 · rcases List.mem_append.1 hn with h | h
   · exact ho n h
   · rw [List.mem_singleton] at h
     rw [h]; exact ndP_leaf pipeOk_nil ⟨_, _, _, rfl⟩
 · show (out ++ [_]).length ≤ _
   rw [List.length_append]; exact Nat.le_refl _
def DfW (s : PsD) : Prop := ∀ d ∈ s.defs, WfE d.body
def Rs {α : Type} (P : α → Prop) (r : PRes α) : Prop := P r.v ∧ DfW r.s
theorem rs_then {α β : Type} {P : β → Prop} {r : PRes α} {d : β} {f : α → PsD → PRes β} (hs : DfW r.s) (hd : P d) (hf : r.bad = none → Rs P (f r.v r.s)) : Rs P (r.andThen d f) := by
 unfold PRes.andThen
 cases e : r.bad with
 | some b => exact ⟨hd, hs⟩
 | none => exact hf e
theorem rs_bif {β : Type} {P : β → Prop} {c : Bool} {a b : PRes β} (h1 : c = true → Rs P a) (h2 : c = false → Rs P b) : Rs P (bif c then a else b) := by
 cases c
 · exact h2 rfl
 · exact h1 rfl
theorem dfW_of {s t : PsD} (h : DfW s) (e : t.defs = s.defs) : DfW t := by
 unfold DfW
 rw [e]; exact h
theorem count_df (a : Int) (s : PsD) : (countP a s).s.defs = s.defs := by
 unfold countP; cases decide (s.size < 1024) <;> rfl
theorem text_df (out : List NdD) (x : ItemD) (s : PsD) : (textP out x s).s.defs = s.defs := by
 have hc := count_df x.at_ s
 unfold textP
 cases decide (0 < out.length) && (lastN out).kind == 1 with
 | true => rfl
 | false =>
  rw [cond_false]
  unfold PRes.andThen
  cases (countP x.at_ s).bad <;> exact hc
theorem then_df {α β : Type} {r : PRes α} {d : β} {f : α → PsD → PRes β} {D : List DfD} (h : r.s.defs = D) (hf : ∀ v s, s.defs = D → (f v s).s.defs = D) : (r.andThen d f).s.defs = D := by
 unfold PRes.andThen
 cases r.bad with
 | some b => exact h
 | none => exact hf _ _ h
theorem bif_df {β : Type} {c : Bool} {a b : PRes β} {D : List DfD} (h1 : a.s.defs = D) (h2 : b.s.defs = D) : (bif c then a else b).s.defs = D := by
 cases c
 · exact h2
 · exact h1
theorem single_df (w : PcD) (s : PsD) : (singleP w s).s.defs = s.defs := by
 unfold singleP
 refine then_df (count_df _ _) (fun _ s2 h => ?_)
 have pp : ∀ n (f : List CallD → NdD) (s3 : PsD), s3.defs = s.defs → ((pipeP w n s3).andThen nd0 fun p s => psOk (f p) s).s.defs = s.defs := fun n f s3 h => then_df (by rw [pipe_it]; exact h) (fun _ _ h => h)
 exact bif_df (then_df (by rw [called_it]; exact h) (fun _ s3 h3 => bif_df (pp 2 _ s3 h3) h3)) (bif_df (bif_df (pp 2 _ s2 h) h) (pp 0 _ s2 h))
abbrev LpV (v : List NdD × Option PcD) : Prop := (∀ m ∈ v.1, NdP m) ∧ (∀ w, v.2 = some w → PcW w) ∧ v.1.length ≤ 1099511627776
abbrev NdV (v : List NdD × PcD) : Prop := (∀ m ∈ v.1, NdP m) ∧ PcW v.2 ∧ v.1.length ≤ 1099511627776
abbrev LpH (n : Nat) : Prop := ∀ (deep : Int) out s, s.items.length ≤ n → out.length + s.items.length ≤ 1099511627776 → okS s → DfW s → (∀ m ∈ out, NdP m) → Rs LpV (loopR deep out s)
abbrev BkH (n : Nat) : Prop := ∀ kind w k (deep : Int) s, s.items.length ≤ n → okS s → DfW s → PcW w → Rs NdP (blockR kind w k deep s)
theorem nod_of {n : Nat} (hL : LpH n) (deep : Int) (s : PsD) (hn : s.items.length ≤ n) (hs : okS s) (hd : DfW s) : Rs NdV (nodesR deep s) := by
 obtain ⟨⟨h1, h2, h4⟩, h3⟩ := hL deep [] s hn (by have := hs.2.1; simp only [List.length_nil]; omega) hs hd (fun m hm => by cases hm)
 refine rs_then h3 ⟨fun m hm => (by cases hm), pcW0, Nat.zero_le _⟩ (fun _ => ?_)
 unfold endP
 cases hv : (loopR deep [] s).v.2 with
 | some w => exact ⟨⟨h1, h2 w hv, h4⟩, h3⟩
 | none => exact rs_bif (fun _ => ⟨⟨h1, pcW0, h4⟩, h3⟩) (fun _ => ⟨⟨h1, pcW0, h4⟩, h3⟩)
theorem blk_of {n : Nat} (hL : LpH n) (hb : ∀ kind w k (deep : Int) s, s.items.length + 1 ≤ n → okS s → DfW s → PcW w → Rs NdP (blockR kind w k deep s)) : BkH n := by
 intro kind w k deep s hn hs hd hw
 rw [blockR_eq]
 have hd1 : DfW (countP w.at_ s).s := dfW_of hd (count_df _ _)
 refine rs_then hd1 ndP0 (fun _ => ?_)
 have hs1 : okS (countP w.at_ s).s := (stp_count hs _).1
 have hn1 : (countP w.at_ s).s.items.length ≤ n := by rw [count_it]; exact hn
 revert hd1
 revert hn1
 revert hs1
 generalize (countP w.at_ s).s = s1
 intro hs1 hn1 hd1
 have hp := pipeP_ok hw k s1
 refine rs_then (by rw [pipe_it]; exact hd1) ndP0 (fun _ => ?_)
 rw [pipe_it]
 revert hp
 generalize (pipeP w k s1).v = p
 intro hp
 obtain ⟨q1, q2⟩ := nod_of hL (deep + 1) s1 hn1 hs1 hd1
 refine rs_bif (fun _ => rs_then q2 ndP0 (fun hnb => ?_)) (fun _ => ⟨ndP0, hd1⟩)
 have hlt := nodesR_lt hnb
 have hle := nodesR_it (deep + 1) s1
 have hs2 := (stp_nodesR hs1 (deep + 1)).1
 revert hs2
 revert hle
 revert hlt
 revert q2
 revert q1
 generalize (nodesR (deep + 1) s1).v = be
 generalize (nodesR (deep + 1) s1).s = s2
 intro q1 hd2 hlt hle hs2
 obtain ⟨q1, q2, q3⟩ := q1
 unfold elseR
 have fin : ∀ els s3, (∃ f n r, els = .list f n r) → (∀ d, PipV d els) → WfE els → DfW s3 → Rs NdP (psOk (mkNd kind [] [] (pipeV p) (bodyV be.1) els w.at_) s3) := fun els s3 h1 h2 h3 h4 => ⟨ndP_mk hp ⟨_, _, _, rfl⟩ ⟨_, _, _, rfl⟩ h1 (pipV_body q1) h2 (wfE_body q1 q3) h3, h4⟩
 refine rs_bif (fun he => ?_) (fun _ => rs_bif (fun _ => ?_) (fun _ => rs_bif (fun _ => fin _ _ ⟨_, _, _, rfl⟩ pipV_nil wfE_nil hd2) (fun _ => ⟨ndP0, hd2⟩)))
 · have hh : be.2.head ≠ [] := by
    rw [Bool.and_eq_true, beq_iff_eq] at he; rw [he.1]; decide
   have hlt := hlt hh
   refine rs_bif (fun _ => rs_bif (fun _ => ?_) (fun _ => ⟨ndP0, hd2⟩)) (fun _ => ⟨ndP0, hd2⟩)
   obtain ⟨u1, u2⟩ := hb 3 be.2 2 (deep + 1) s2 (by omega) hs2 hd2 q2
   exact rs_then u2 ndP0 (fun _ => fin _ _ ⟨_, _, _, rfl⟩ (pipV_one u1) (wfE_one u1) u2)
 · obtain ⟨⟨u1, _, u3⟩, u2⟩ := nod_of hL (deep + 1) s2 (by omega) hs2 hd2
   exact rs_then u2 ndP0 (fun _ => rs_bif (fun _ => fin _ _ ⟨_, _, _, rfl⟩ (pipV_body u1) (wfE_body u1 u3) u2) (fun _ => ⟨ndP0, u2⟩))
theorem def_of {n : Nat} (hL : LpH n) (w : PcD) (s : PsD) (hn : s.items.length ≤ n) (hs : okS s) (h1 : s.defs.length + s.items.length + 1 ≤ 65536) (hd : DfW s) : DfW (defineR w s).s := by
 rw [defineR_eq]
 refine (rs_then (P := fun _ => True) (by rw [called_it]; exact hd) trivial (fun _ => ?_)).2
 rw [called_it]
 generalize (calledP w s).v = name
 refine rs_bif (fun _ => rs_bif (fun _ => ⟨trivial, hd⟩) (fun _ => ?_)) (fun _ => ⟨trivial, hd⟩)
 obtain ⟨g1, g2, g3, g4, g5⟩ := hs
 have h0 : okS { s with defs := s.defs ++ [mkDf name nilList], ver := s.ver + 1 } := ⟨g1, g2, g3, g4, by show (s.defs ++ [mkDf name nilList]).length + s.items.length ≤ 65536; rw [List.length_append]; simp only [List.length_singleton]; omega⟩
 have hd0 : DfW { s with defs := s.defs ++ [mkDf name nilList], ver := s.ver + 1 } := fun d h => by
  rcases List.mem_append.1 h with h | h
  · exact hd d h
  · rw [List.mem_singleton] at h
    rw [h]; exact wfE_nil
 obtain ⟨⟨u1, _, u3⟩, u2⟩ := nod_of hL 1 { s with defs := s.defs ++ [mkDf name nilList], ver := s.ver + 1 } hn h0 hd0
 refine rs_then u2 trivial (fun _ => rs_bif (fun _ => ⟨trivial, fun d h => ?_⟩) (fun _ => ⟨trivial, u2⟩))
 rcases List.mem_or_eq_of_mem_set h with h | rfl
 · exact u2 d h
 · exact wfE_body u1 u3
theorem ndP_all : ∀ (n : Nat), LpH n ∧ BkH n := by
 intro n
 induction n with
 | zero =>
  have hL : LpH 0 := by
   intro deep out s hn hl hs hd ho
   rw [loopR_nil (List.eq_nil_of_length_eq_zero (by omega))]
   exact ⟨⟨ho, fun w h => (by cases h), by show out.length ≤ _; omega⟩, hd⟩
  exact ⟨hL, blk_of hL (fun _ _ _ _ _ h => by omega)⟩
 | succ n ih =>
  obtain ⟨ihL, ihB⟩ := ih
  have hL : LpH (n + 1) := by
   intro deep out s hn hl hs hd ho
   cases hit : s.items with
   | nil => rw [loopR_nil hit]; exact ⟨⟨ho, fun w h => (by cases h), by show out.length ≤ _; omega⟩, hd⟩
   | cons x r =>
    rw [hit] at hn hl
    simp only [List.length_cons] at hn hl
    rw [loopR_cons hit]
    obtain ⟨⟨hs1, _⟩, hx, hdl⟩ := okS_pop hs hit
    have hdl : ({ s with items := r } : PsD).defs.length + ({ s with items := r } : PsD).items.length + 1 ≤ 65536 := hdl
    have hle : ({ s with items := r } : PsD).items.length ≤ n := by show r.length ≤ n; omega
    have hl1 : out.length + 1 + ({ s with items := r } : PsD).items.length ≤ 1099511627776 := by show out.length + 1 + r.length ≤ _; omega
    have hd1 : DfW { s with items := r } := hd
    revert hd1
    revert hl1
    revert hle
    revert hdl
    revert hs1
    generalize ({ s with items := r } : PsD) = s1
    intro hs1 hdl hle hl1 hd1
    have bad : LpV (out, none) := ⟨ho, fun w h => (by cases h), by show out.length ≤ _; omega⟩
    have snoc : ∀ m, NdP m → ∀ k ∈ out ++ [m], NdP k := fun m hm k hk => by
     rcases List.mem_append.1 hk with h | h
     · exact ho k h
     · rw [List.mem_singleton] at h
       rw [h]; exact hm
    have sl : ∀ (m : NdD) (t : PsD), t.items.length ≤ s1.items.length → (out ++ [m]).length + t.items.length ≤ 1099511627776 := fun m t ht => by
     rw [List.length_append, List.length_singleton]; omega
    unfold pieceR
    obtain ⟨t1, t2⟩ := ndP_text ho x s1
    have t3 := text_it out x s1
    have t4 := dfW_of hd1 (text_df out x s1)
    refine rs_bif (fun _ => rs_then t4 bad (fun _ => ihL _ _ _ (Nat.le_trans t3 hle) (by omega) (stp_text hs1 _ _).1 t4 t1)) (fun _ => rs_then (by rw [words_it]; exact hd1) bad (fun _ => ?_))
    have hw := wds_pcW hx s1
    rw [words_it]
    revert hw
    generalize (wordsP x s1).v = w
    intro hw
    have d1 := def_of ihL w s1 hle hs1 hdl hd1
    have d2 := defineR_it w s1
    obtain ⟨b1, b2⟩ := ihB (3 + kindN w.head) w 1 deep s1 hle hs1 hd1 hw
    have b3 := blockR_it (3 + kindN w.head) w 1 deep s1
    have s3 := single_it w s1
    have s4 := dfW_of hd1 (single_df w s1)
    refine rs_bif (fun _ => rs_bif (fun _ => ⟨⟨ho, fun v h => ?_, bad.2.2⟩, hd1⟩) (fun _ => ⟨bad, hd1⟩)) (fun _ => rs_bif (fun _ => rs_bif (fun _ => rs_then d1 bad (fun _ => ?_)) (fun _ => ⟨bad, hd1⟩)) (fun _ => rs_bif (fun _ => rs_then b2 bad (fun _ => ?_)) (fun _ => rs_then s4 bad (fun _ => ?_))))
    · replace h : some w = some v := h
      rw [sJ] at h
      rw [← h]; exact hw
    · exact ihL _ _ _ (Nat.le_trans d2 hle) (by omega) (stp_defineR hs1 hdl w).1 d1 ho
    · exact ihL _ _ _ (Nat.le_trans b3 hle) (sl _ _ b3) (stp_blockR hs1 _ _ _ _).1 b2 (snoc _ b1)
    · exact ihL _ _ _ (Nat.le_trans s3 hle) (sl _ _ s3) (stp_single hs1 _).1 s4 (snoc _ (ndP_single hw s1))
  exact ⟨hL, blk_of hL (fun kind w k deep s h => ihB kind w k deep s (by omega))⟩
theorem pars_ndP (s : Oc) (hs : s.length ≤ 16384) (hb : itBad s = false) : Rs NdV (parsR s) :=
 nod_of (ndP_all _).1 0 (ps1 s) (Nat.le_refl _) (ps1_ok s hs hb) (fun d h => by
  have h : d ∈ [mkDf [] nilList] := h
  rw [List.mem_singleton] at h
  rw [h]; exact wfE_nil)
theorem pars_wf (s : Oc) : ∀ d ∈ parsD s, WfE d.body := by
 intro d hd
 unfold parsD at hd
 by_cases hs : 16384 < s.length
 · rw [dT hs] at hd; cases hd
 rw [dF hs, cond_false] at hd
 cases hb : itBad s with
 | true => rw [hb] at hd; cases hd
 | false =>
  rw [hb, cond_false] at hd
  cases hr : (parsR s).bad with
  | some b => rw [hr] at hd; cases hd
  | none =>
   rw [hr] at hd
   simp only [Option.isSome_none, cond_false] at hd
   obtain ⟨⟨h1, _, h3⟩, h2⟩ := pars_ndP s (by omega) hb
   unfold parsDefs at hd
   rcases List.mem_or_eq_of_mem_set hd with h | rfl
   · exact h2 d h
   · exact wfE_body h1 h3
end Go.Mu
namespace Go.Mu
open Go Go.Proofs
structure DfN where
 name : Oc
 f : Bool
 l : List NdD
def dn0 : DfN := ⟨[], true, []⟩
def encDn (d : DfN) : Vs := [.str d.name, encNds d.f d.l]
def toDn (d : DfD) : DfN := ⟨d.name, d.ff, nodes d.body⟩
def parsN (s : Oc) : List DfN := (parsD s).map toDn
noncomputable def parsNTold : FSp := mkFS [.s] (fun _ => true) (fun xs k => k (.ret (.tuple [encL false encDn dn0 (parsN (aS xs 0)), .int .i64 (parsA (aS xs 0)), .int .i64 (parsE (aS xs 0))]) []))
theorem parsNTold_ok : ∀ xs H k out, parsNTold xs H k = some out → ∃ o, CallOK Tryz.prog 6 xs H o ∧ k o = some out := mkFS_ok fun ys xs e h => by
 obtain ⟨s, rfl⟩ : ∃ s, xs = [.str s] := ⟨_, e⟩
 refine ⟨_, fun k => rfl, (pars_call s).sub (.refl _) ⟨Sub.tuple (.cons ?_ (.refl _)), rfl⟩⟩
 show Sub (.list false (parsD s).length _) (.list false (parsN s).length _)
 have hlen : (parsN s).length = (parsD s).length := List.length_map ..
 rw [hlen]
 refine Sub.list (fun h => h) (fun i hi => ?_)
 have hm : (parsD s).getD i df0 ∈ parsD s := by
  rw [gQ, List.getElem?_eq_getElem hi]
  exact List.getElem_mem _
 have hw : wfL wfNd ((parsD s).getD i df0).body = true := by
  obtain ⟨d, hd⟩ := pars_wf s _ hm
  cases d with
  | zero => exact hd.elim
  | succ d => exact hd.1
 have e : (parsN s).getD i dn0 = toDn ((parsD s).getD i df0) := by
  unfold parsN
  simp only [gQ, List.getElem?_map, List.getElem?_eq_getElem hi, Option.map_some, Option.getD_some]
 show SubL (encDf ((parsD s).getD i df0)) (encDn ((parsN s).getD i dn0))
 rw [e]
 generalize (parsD s).getD i df0 = d at hw
 exact .cons (.refl _) (.cons (sub_encL (x := d.body) hw wfNd_sub) .nil)
noncomputable def layW20 (d : Nat) : Lay := ((Lay.nil.addF 6 parsNTold).addF 8 (smT d)).addF 5 (mkFS [] (fun _ => true) (fun _ k => k (.ret (.bool true) [])))
theorem wr_fun (d : Nat) (s : Oc) (k : Out → Ans) : iFun Tryz.prog ((layW20 d).hd Tryz.prog) (layW20 d).fhs 0 3 [.str s] [] k = (
 let n0 : Int := (↑s.length : Int);
 let n1 : Int := IntKind.i64.wrap (n0 - 1);
 let n2 : Int := (↑(parsN s).length : Int);
 let c3 : Bool := bif parsE s != 0 then true else n2 != 1;
 let c4 : Bool := decide (n0 > 0);
 let l5 : Oc := 123 :: 123 :: 105 :: 102 :: 32 :: 46 :: 125 :: 125 :: (s ++ [123, 123, 101, 110, 100, 125, 125]);
 let n6 : Int := parsE l5;
 let n7 : Int := (↑(parsN l5).length : Int);
 let c8 : Bool := decide (0 < n7);
 let c9 : Bool := n7 == 1;
 let z0 := (parsN l5).getD 0 (DfN.mk [] true []);
 let n10 : Int := (↑z0.l.length : Int);
 let c11 : Bool := bif c9 then n10 == 1 else false;
 let c12 : Bool := !c11;
 let z1 := (parsN s).getD 0 (DfN.mk [] true []);
  bif decide (8 + s.length ≤ 4611686018427387904) then bif decide ((123 :: 123 :: 105 :: 102 :: 32 :: 46 :: 125 :: 125 :: s).length + 7 ≤ 4611686018427387904) then bif decide (0 ≤ n1) && decide (n1 < n0) || !(!c3 && c4) then bif bif c3 then true else bif c4 then (↑(s.getD n1.toNat 0).toNat : Int) == 123 else false then k (Out.ret (AVal.bool true) []) else bif n6 != 0 then k (Out.ret (AVal.bool (bif bif n6 == 42 then true else n6 == 3 then true else n6 == 5)) []) else bif c8 || !c9 then bif decide (0 < n2) || c12 then bif c8 || c12 then bif decide (0 < n10) || c12 then bif tst (smW d (AVal.list z1.f z1.l.length fun i => encNd (z1.l.getD i nd0)) (AVal.list (z0.l.getD 0 nd0).bf (z0.l.getD 0 nd0).bn (z0.l.getD 0 nd0).br)) then k (Out.ret (AVal.bool (bif c11 then true else false)) []) else none else none else none else none else none else none else none else none) := by kernel_rfl
end Go.Mu
namespace Go.Mu
open Go Go.Proofs
theorem layW20_ok (d : Nat) : (layW20 d).OK Tryz.prog := ((Lay.nil_ok.addF parsNTold_ok).addF (smT_ok d)).addF (mkFS_ok fun ys xs e h => ⟨_, fun k => rfl, by
 have e : xs = [] := e
 subst e
 exact ((Lay.nil_ok.addF parsTold_ok : layAl20.OK Tryz.prog)).call (fun k => al20_fun k)⟩)
theorem pipV_pars (s : Oc) (h : parsE s = 0) (hl : 0 < (parsD s).length) : ∀ d, PipV d ((parsD s).getD 0 df0).body := by
 unfold parsE at h
 unfold parsD at hl ⊢
 by_cases hs : 16384 < s.length
 · rw [dT hs] at hl; simp at hl
 rw [dF hs] at h hl ⊢
 simp only [cond_false] at h hl ⊢
 cases hb : itBad s with
 | true => rw [hb] at hl; simp at hl
 | false =>
  rw [hb] at h hl
  simp only [cond_false] at h hl ⊢
  cases hr : (parsR s).bad with
  | some b => rw [hr] at hl; simp at hl
  | none =>
   rw [hr] at hl
   simp only [Option.isSome_none, cond_false] at hl ⊢
   have hn := (pars_ndP s (by omega) hb).1.1
   unfold parsDefs at hl ⊢
   rw [List.length_set] at hl
   have e : ((parsR s).s.defs.set 0 (mkDf ((parsR s).s.defs.getD 0 df0).name (bodyV (parsR s).v.1))).getD 0 df0 = mkDf ((parsR s).s.defs.getD 0 df0).name (bodyV (parsR s).v.1) := by
    rw [gQ, List.getElem?_set_self hl]; rfl
   rw [e]
   exact pipV_body hn
theorem parsN_one {s : Oc} {nm : Nm} {l : List NdD} (h : parsD s = [mkDf nm (bodyV l)]) : parsN s = [⟨nm, false, l⟩] := by
 unfold parsN
 rw [h]
 show [toDn (mkDf nm (bodyV l))] = _
 unfold toDn
 have e : nodes (mkDf nm (bodyV l)).body = l := nodes_enc false l
 rw [e]
 rfl
theorem smW_wrap (s : Oc) {nm nm2 : Nm} {n : NdD} {l l2 : List NdD} (h1 : parsE s = 0) (h2 : parsE (wrapT s) = 0) (h3 : parsD s = [mkDf nm (bodyV l)]) (h4 : parsD (wrapT s) = [mkDf nm2 (bodyV [n])]) (h5 : n.body = bodyV l2) (h6 : RelN l l2) : ∃ d, smW d (bodyV l) n.body := by
 obtain ⟨i, w1⟩ : WfE (bodyV l) := pars_wf s (mkDf nm (bodyV l)) (by rw [h3]; exact List.mem_singleton_self _)
 obtain ⟨j, w2⟩ : WfE (bodyV [n]) := pars_wf (wrapT s) (mkDf nm2 (bodyV [n])) (by rw [h4]; exact List.mem_singleton_self _)
 have e : nodes (bodyV [n]) = [n] := nodes_enc false [n]
 obtain ⟨j, rfl⟩ : ∃ k, j = k + 1 := by
  cases j with
  | zero => exact w2.elim
  | succ k => exact ⟨k, rfl⟩
 have w3 : wfV j n.body := (w2.2.2 n (by rw [e]; exact List.mem_singleton_self _)).1
 have p1 : PipV (i + j) (bodyV l) := by
  have := pipV_pars s h1 (by rw [h3]; exact Nat.zero_lt_one) (i + j)
  rw [h3] at this
  exact this
 have p2 : PipV (i + j + 1) (bodyV [n]) := by
  have := pipV_pars (wrapT s) h2 (by rw [h4]; exact Nat.zero_lt_one) (i + j + 1)
  rw [h4] at this
  exact this
 have p3 : PipV (i + j) n.body := (p2 n (by rw [e]; exact List.mem_singleton_self _)).2.1
 refine ⟨i + j, ⟨wfV_le w1 (by omega), wfV_le w3 (by omega)⟩, ⟨p1, p3⟩, ?_⟩
 rw [h5]
 exact eqV_body h6 _
noncomputable def wrD (s : Oc) : Nat := Classical.epsilon (fun d => smW d (bodyV ((parsN s).getD 0 dn0).l) (((parsN (wrapT s)).getD 0 dn0).l.getD 0 nd0).body)
theorem last_of (s : Oc) (h : 0 < s.length) : s.getLast? = some (s.getD (s.length - 1) 0) := by
 rw [List.getLast?_eq_getElem?, gQ, List.getElem?_eq_getElem (show s.length - 1 < s.length by omega)]
 rfl
theorem wraps_true (s : Oc) (hs : s.length ≤ 1099511627776) : CallOK Tryz.prog 3 [.str s] [] (.ret (.bool true) []) := (layW20_ok (wrD s)).call (fun k => (wr_fun (wrD s) s k).trans (by
 have hT : (123 :: 123 :: 105 :: 102 :: 32 :: 46 :: 125 :: 125 :: (s ++ [123, 123, 101, 110, 100, 125, 125])) = wrapT s := rfl
 have hNl : (parsN s).length = (parsD s).length := List.length_map ..
 rw [hT]
 have b1 : 8 + s.length ≤ 4611686018427387904 := by omega
 have b2 : (123 :: 123 :: 105 :: 102 :: 32 :: 46 :: 125 :: 125 :: s).length + 7 ≤ 4611686018427387904 := by simp only [List.length_cons]; omega
 simp only [dT b1, dT b2, cond_true]
 by_cases hc : parsE s = 0 ∧ (parsD s).length = 1
 case neg =>
  have c3 : (bif parsE s != 0 then true else ((parsN s).length : Int) != 1) = true := by
   cases he : parsE s != 0 with
   | true => rfl
   | false =>
    have he2 : parsE s = 0 := by simpa using he
    have : ¬ (parsD s).length = 1 := fun h => hc ⟨he2, h⟩
    simp only [cond_false, bne_iff_ne]
    rw [hNl]; omega
  simp only [c3, Bool.not_true, Bool.false_and, Bool.not_false, Bool.or_true, cond_true]
 obtain ⟨h1, h2⟩ := hc
 have c3 : (bif parsE s != 0 then true else ((parsN s).length : Int) != 1) = false := by
  rw [h1, hNl, h2]; rfl
 have c5 : (decide (0 ≤ IntKind.i64.wrap ((s.length : Int) - 1)) && decide (IntKind.i64.wrap ((s.length : Int) - 1) < (s.length : Int)) || !(!false && decide ((s.length : Int) > 0))) = true := by
  by_cases h0 : 0 < s.length
  · rw [wrap_of (by omega) (by omega), dT (show (0 : Int) ≤ (s.length : Int) - 1 by omega), dT (show (s.length : Int) - 1 < (s.length : Int) by omega)]; rfl
  · rw [dF (show ¬ (s.length : Int) > 0 by omega)]
    simp
 simp only [c3, c5, cond_true, cond_false]
 by_cases hl : s.getLast? = some 123
 · have h0 : 0 < s.length := by
    cases s with
    | nil => cases hl
    | cons a b => simp
   have e1 : IntKind.i64.wrap ((s.length : Int) - 1) = ((s.length - 1 : Nat) : Int) := by rw [wrap_of (by omega) (by omega)]; omega
   rw [last_of s h0, sJ] at hl
   rw [e1, Int.toNat_natCast, hl, dT (show (s.length : Int) > 0 by omega)]
   rfl
 have c6 : (bif decide ((s.length : Int) > 0) then ((s.getD (IntKind.i64.wrap ((s.length : Int) - 1)).toNat 0).toNat : Int) == 123 else false) = false := by
  by_cases h0 : 0 < s.length
  · have e1 : IntKind.i64.wrap ((s.length : Int) - 1) = ((s.length - 1 : Nat) : Int) := by rw [wrap_of (by omega) (by omega)]; omega
    rw [last_of s h0, sJ] at hl
    rw [dT (show (s.length : Int) > 0 by omega), e1, Int.toNat_natCast]
    simp only [cond_true, beq_eq_false_iff_ne]
    intro h
    apply hl
    have h3 : (s.getD (s.length - 1) 0).toNat = 123 := by omega
    exact UInt8.toNat_inj.1 h3
  · rw [dF (show ¬ (s.length : Int) > 0 by omega)]; rfl
 simp only [c6, cond_false]
 by_cases hlen : (wrapT s).length ≤ 16384
 case neg =>
  have e5 : parsE (wrapT s) = 5 := by unfold parsE; rw [dT (show 16384 < (wrapT s).length by omega)]; rfl
  rw [e5]; rfl
 rcases wrap_pars s hlen h1 h2 hl with (h | h) | ⟨h3, nm, l, nm2, n, l2, g1, g2, g3, g4⟩
 · rw [h]; rfl
 · rw [h]; rfl
 · have hW : smW (wrD s) (bodyV ((parsN s).getD 0 dn0).l) (((parsN (wrapT s)).getD 0 dn0).l.getD 0 nd0).body := Classical.epsilon_spec (p := fun d => smW d (bodyV ((parsN s).getD 0 dn0).l) (((parsN (wrapT s)).getD 0 dn0).l.getD 0 nd0).body) (by
    rw [parsN_one g1, parsN_one g2]
    exact smW_wrap s h1 h3 g1 g2 g3 g4)
   generalize wrD s = d at hW ⊢
   rw [parsN_one g1, parsN_one g2] at hW
   rw [h3, parsN_one g1, parsN_one g2]
   refine Eq.trans ?_ (Eq.trans (congrArg (fun c => cond c (k (.ret (.bool true) [])) none) (tst_true hW)) (cond_true _ _))
   rfl))
end Go.Mu
namespace Go.Mu
open Go
variable {H : Type}
mutual
theorem size_bulk : ∀ d : DataW H, (tOf d).size ≤ Go.Proofs.YtjaekcceagbefaaGreatDoor.Rows.uptoBulk d
 | .lit (.bool _) => by simp [tOf, T.size, Go.Proofs.YtjaekcceagbefaaGreatDoor.Rows.uptoBulk]
 | .lit (.int _ _) => by simp [tOf, T.size, Go.Proofs.YtjaekcceagbefaaGreatDoor.Rows.uptoBulk]
 | .lit (.string _) => by simp [tOf, T.size, Go.Proofs.YtjaekcceagbefaaGreatDoor.Rows.uptoBulk]
 | .lit (.float _ _) => by simp [tOf, T.size, T.sizes, Go.Proofs.YtjaekcceagbefaaGreatDoor.Rows.uptoBulk]
 | .lit .nil => by simp [tOf, T.size, T.sizes, Go.Proofs.YtjaekcceagbefaaGreatDoor.Rows.uptoBulk]
 | .nil => by simp [tOf, T.size, T.sizes, Go.Proofs.YtjaekcceagbefaaGreatDoor.Rows.uptoBulk]
 | .ptr d => by simp [tOf, T.size, T.sizes, Go.Proofs.YtjaekcceagbefaaGreatDoor.Rows.uptoBulk]
 | .slice es sp => by
  have := size_bulks es
  simp only [tOf, T.size, Go.Proofs.YtjaekcceagbefaaGreatDoor.Rows.uptoBulk]
  omega
 | .agg ps => by
  have := size_bulks ps
  simp only [tOf, T.size, Go.Proofs.YtjaekcceagbefaaGreatDoor.Rows.uptoBulk]
  omega
 | .iface _ d => by simp [tOf, T.size, T.sizes, Go.Proofs.YtjaekcceagbefaaGreatDoor.Rows.uptoBulk]
 | .map _ => by simp [tOf, T.size, T.sizes, Go.Proofs.YtjaekcceagbefaaGreatDoor.Rows.uptoBulk]
 | .held _ => by simp [tOf, T.size, T.sizes, Go.Proofs.YtjaekcceagbefaaGreatDoor.Rows.uptoBulk]
theorem size_bulks : ∀ ds : List (DataW H), T.sizes (tOfs ds) ≤ Go.Proofs.YtjaekcceagbefaaGreatDoor.Rows.uptoBulkAll ds
 | [] => by simp [tOfs, T.sizes, Go.Proofs.YtjaekcceagbefaaGreatDoor.Rows.uptoBulkAll]
 | d :: ds => by
  have := size_bulk d
  have := size_bulks ds
  simp only [tOfs, T.sizes, Go.Proofs.YtjaekcceagbefaaGreatDoor.Rows.uptoBulkAll]
  omega
end
theorem small_size {ds : List (DataW H)} (h : Go.Proofs.YtjaekcceagbefaaGreatDoor.Rows.uptoSmall H ds = true) : T.sizes (tOfs ds) ≤ 1048576 := by
 unfold Go.Proofs.YtjaekcceagbefaaGreatDoor.Rows.uptoSmall at h
 have := size_bulks ds
 have := of_decide_eq_true h
 omega
end Go.Mu
namespace Go.Proofs
open Go.Shelf
def Tryz.uRen : Ren := {
 f := fun x => match x with
  | 260 => 90
  | n => n,
 t := fun x => match x with
  | 0 => 0
  | 3 => 3
  | 4 => 4
  | 5 => 5
  | 9 => 9
  | 21 => 21
  | 46 => 101
  | 119 => 147
  | 138 => 149
  | 139 => 150
  | n => n,
 g := fun x => match x with
  | 3 => 1
  | 4 => 2
  | n => n }
theorem Tryz.uRen_260 : Lays.n260 Tryz.prog Tryz.uRen := {
 mixed := by kernel_rfl
 f260 := Tryz.func90.trans (congrArg some (by kernel_rfl))
 t0 := Tryz.underlying0
 a0 := Tryz.isAgg0
 z0 := Tryz.sizeOf0
 v0 := Tryz.zeroValue0
 t3 := Tryz.underlying3
 a3 := Tryz.isAgg3
 z3 := Tryz.sizeOf3
 v3 := Tryz.zeroValue3
 t4 := Tryz.underlying4
 a4 := Tryz.isAgg4
 z4 := Tryz.sizeOf4
 v4 := Tryz.zeroValue4
 t5 := Tryz.underlying5
 a5 := Tryz.isAgg5
 z5 := Tryz.sizeOf5
 v5 := Tryz.zeroValue5
 t9 := Tryz.underlying9
 a9 := Tryz.isAgg9
 z9 := Tryz.sizeOf9
 v9 := Tryz.zeroValue9
 t21 := Tryz.underlying21
 a21 := Tryz.isAgg21
 z21 := Tryz.sizeOf21
 v21 := Tryz.zeroValue21
 t46 := Tryz.underlying101
 a46 := Tryz.isAgg101
 z46 := Tryz.sizeOf101
 v46 := Tryz.zeroValue101
 t119 := Tryz.underlying147
 a119 := Tryz.isAgg147
 z119 := Tryz.sizeOf147
 t138 := Tryz.underlying149
 a138 := Tryz.isAgg149
 z138 := Tryz.sizeOf149
 v138 := Tryz.zeroValue149
 t139 := Tryz.underlying150
 a139 := Tryz.isAgg150
 z139 := Tryz.sizeOf150
 v139 := Tryz.zeroValue150
 g3 := by kernel_rfl
 g4 := by kernel_rfl
}
theorem Tryz.u8Extra : U8Extra Tryz.prog Tryz.uRen where
 n3 := by kernel_rfl
 n4 := by kernel_rfl
 y3 := by kernel_rfl
 y4 := by kernel_rfl
 c5 := by kernel_rfl
 c119 := by kernel_rfl
 c138 := by kernel_rfl
end Go.Proofs
namespace Go.Mu
open Go Go.Proofs
theorem tabs_glob {W : World} {laid : List (String × DataW Unit)} (hl : laidMet Tryz.prog laid W) (h1 : ("unicode/utf8.first", Lib.firstData) ∈ laid) (h2 : ("unicode/utf8.acceptRanges", Lib.acceptData) ∈ laid) : ∀ g cells, gvals g = some cells → RepP W (oldB W) (.rptr cells) (.pointer (some ⟨g, 0, none⟩)) := by
 have hT : Lib.Utf8Tabs 1 2 W := utf8Tabs_of_reads Tryz.uRen_260 Tryz.u8Extra (Lib.laidMet.reads hl h1) (Lib.laidMet.reads hl h2)
 obtain ⟨t1, t2⟩ := hT
 have lt : ∀ {g j v}, W.cell? ⟨g, j, none⟩ = some v → oldB W g := fun {g j v} h => by
  show g < W.heap.size
  unfold World.cell? at h
  by_cases hlt : g < W.heap.size
  · exact hlt
  · have hle : W.heap.size ≤ (Addr.mk g j none).block := by show W.heap.size ≤ g; omega
    rw [Array.getElem?_eq_none hle] at h
    simp at h
 intro g cells hg
 unfold gvals at hg
 split at hg
 · rename_i e
   have e : g = 1 := by simpa using e
   subst e
   simp only [sJ] at hg
   subst hg
   refine .rptr _ _ 0 (fun j => .int .u8 (Lib.firstT j)) (lt (t1 0 (by omega))) (fun j hj => ?_) (fun j hj => ?_)
   · simp only [List.length_map, List.length_range] at hj
     rw [Nat.zero_add]
     exact ⟨t1 j hj, rfl⟩
   · simp only [List.length_map, List.length_range] at hj
     rw [gQ, List.getElem?_map, List.getElem?_range hj]
     exact .int _ _
 · split at hg
   · rename_i e
     have e : g = 2 := by simpa using e
     subst e
     simp only [sJ] at hg
     subst hg
     refine .rptr _ _ 0 (fun j => .int .u8 ((if j % 2 = 0 then Lib.accLo (j / 2) else Lib.accHi (j / 2) : Nat) : Int)) (lt (t2 0 (by omega)).1) (fun j hj => ?_) (fun j hj => ?_)
     · simp only [List.length_map, List.length_range] at hj
       rw [Nat.zero_add]
       refine ⟨?_, rfl⟩
       have h3 := t2 (j / 2) (by omega)
       by_cases hp : j % 2 = 0
       · rw [if_pos hp]
         have : 2 * (j / 2) = j := by omega
         rw [this] at h3
         exact h3.1
       · rw [if_neg hp]
         have : 2 * (j / 2) + 1 = j := by omega
         rw [this] at h3
         exact h3.2
     · simp only [List.length_map, List.length_range] at hj
       rw [gQ, List.getElem?_map, List.getElem?_range hj]
       simp only [Option.map_some, Option.getD_some]
       split <;> exact .int _ _
   · cases hg
end Go.Mu
