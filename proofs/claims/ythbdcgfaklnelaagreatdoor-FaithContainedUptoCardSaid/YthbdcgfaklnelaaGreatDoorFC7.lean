/-
  Lemmas on the given program (part 7).
-/
import Derived.Test.YthbdcgfaklnelaaGreatDoorFC6
import Derived.Test.YthbdcgfaklnelaaGreatDoorRows
import Derived.Lib.LaidU8
set_option linter.unusedVariables false
set_option linter.unusedSimpArgs false
set_option maxRecDepth 100000
namespace Go.Mu
open Go Go.Proofs
theorem itmSp_ok (d : Nat) : SpOK (itTn (KItD d) (RIt d) d) 48 [0,2,3,5,8] [5,8] [8] [8] (itmSp (KItD d) (RIt d)) := mkL_ok fun x h => by
 obtain ⟨s, a, e, l, kd⟩ := x
 obtain ⟨⟨hkd, hl, hs, h0, v, c, r, hk, hG, hkl, he, hc, hd⟩, hne⟩ := h
 simp only at hkd hl hs h0 hk hG hkl he hc hd hne
 subst he
 have hkd' : v.kind = 5 ∨ v.kind = 6 := by rw [hk]; exact hkd
 have hkl' : v.kind = 6 → v.keys.length = (vals v.list).length := by rw [hk]; exact hkl
 have hL : vals v.list ≠ [] := fun hh => by
  have h2 := (itE_of hs h0 hc hd hkd' hkl' (fun w hw => ⟨_, hG w hw⟩)).2.2 hh
  rw [h2] at hne; cases hne
 have hcn := cnt_of hs h0 hL hc hd hkd' hkl'
 obtain ⟨m, hm⟩ : ∃ m, m + 1 = (vals v.list).length := by
  have := List.length_pos_iff.2 hL
  exact ⟨(vals v.list).length - 1, by omega⟩
 rw [hk] at hcn
 have eR : RIt d ⟨s, a, [c], l, kd⟩ = ⟨m + 1, m, m, rwI d kd s a (m + 1), krI kd s a (m + 1), nxI kd s (posI kd s a m) + (([c] : Oc).length : Nat)⟩ := by
  unfold RIt
  simp only [hcn, ← hm, Nat.add_sub_cancel]
 rcases hkd with rfl | rfl
 · refine ⟨_, _, _, _, fun k => ?_, loop5 (KItD d) (RIt d) d hl hs h0 hL hc hd hk hG m hm⟩
   rw [eR]; rfl
 · refine ⟨_, _, _, _, fun k => ?_, loop6 (KItD d) (RIt d) d hl hs h0 hL hc hd hk (hkl rfl) hG m hm⟩
   rw [eR]; rfl
theorem layItm_ok (d : Nat) (hV : ∀ xs H k out, rvlTold (KV d) (VX d) EV xs H k = some out → ∃ o, CallOK Tryz.prog 102 xs H o ∧ k o = some out) : (layItm KS TS ES (KV d) (VX d) EV (KItD d) (RIt d)).OK Tryz.prog :=
 Lay.OK.loop1 (((Lay.nil_ok.addF tkTold_ok).addF rstTold_ok).addF hV) (id := 4) (by kernel_rfl) (by kernel_rfl) (by kernel_rfl) (itmSp_ok d)
theorem enc_pure (v : VaD) : (encVa v).all isPure = true := rfl
theorem rw_pure (d : Nat) (kd : Int) (s : Oc) (a : Int) (n : Nat) : (rwI d kd s a n).all (fun r => r.all isPure) = true := by
 rw [List.all_eq_true]
 intro x hx
 obtain ⟨i, _, rfl⟩ := List.mem_map.1 hx
 exact enc_pure _
theorem kr_pure (kd : Int) (s : Oc) (a : Int) (n : Nat) : (krI kd s a n).all (fun r => r.all isPure) = true := by
 rw [List.all_eq_true]
 intro x hx
 obtain ⟨i, _, rfl⟩ := List.mem_map.1 hx
 rfl
theorem rw_get (d : Nat) (kd : Int) (s : Oc) (a : Int) (n i : Nat) (h : i < n) : (rwI d kd s a n).getD (0 + i) [] = rowI (VV d) kd s a i := by
 unfold rwI
 rw [Nat.zero_add, List.getD_eq_getElem?_getD, List.getElem?_map, List.getElem?_range h]; rfl
theorem kr_get (kd : Int) (s : Oc) (a : Int) (n i : Nat) (h : i < n) : (krI kd s a n).getD (0 + i) [] = [.str (keyI kd s a i)] := by
 unfold krI
 rw [Nat.zero_add, List.getD_eq_getElem?_getD, List.getElem?_map, List.getElem?_range h]; rfl
theorem itm_ok (d : Nat) (hV : ∀ xs H k out, rvlTold (KV d) (VX d) EV xs H k = some out → ∃ o, CallOK Tryz.prog 102 xs H o ∧ k o = some out) (x : ItA) (h : KItE d x) :
 CallOK Tryz.prog 122 [.ptr (.hp 3) 0, .agg [.int .i64 x.kd, .int .i64 0, .str [], nilList, nilList], .str x.e, .int .i64 x.l] (heap4 x.s x.a) (.ret (.agg (encVa (itV (VV d) x.kd x.s x.e x.a))) (heap4 x.s (itE x.kd x.s x.e x.a))) := by
 have hK := h
 obtain ⟨s, a, e, l, kd⟩ := x
 obtain ⟨hkd, hl, hs, h0, v, c, r, hk, hG, hkl, he, hc, hd⟩ := h
 simp only at hkd hl hs h0 hk hG hkl he hc hd ⊢
 have hlt : a ≤ s.length := by
  have h2 := congrArg List.length hd
  rw [List.length_drop, List.length_append, List.length_cons] at h2
  omega
 have hel : e.length = 1 := by rw [he]; rfl
 have tk : tst ((0 ≤ a ∧ a ≤ (s.length : Int) ∧ s.length ≤ 1099511627776 ∧ e.length ≤ 100 ∧ noteless []) ∧ SubL [AVal.ptr (Oid.hp 3) 0, AVal.str e] [AVal.ptr (Oid.hp 3) 0, AVal.str e] ∧ heap4 s a = heap4 s a) = true := tst_true ⟨⟨h0, hlt, by omega, by omega, nl_nil⟩, .refl _, rfl⟩
 cases hb : hpP e (s.drop a.toNat) with
 | true =>
  have eV : itV (VV d) kd s e a = leafW kd 0 [] := by unfold itV; rw [if_pos hb]
  have eE : itE kd s e a = a + 1 := by unfold itE; rw [if_pos hb]
  rw [eV, eE]
  have key : CallOK Tryz.prog 122 [.ptr (.hp 3) 0, .agg [.int .i64 kd, .int .i64 0, .str [], nilList, nilList], .str e, .int .i64 l] (heap4 s a) (.ret (.agg (leafC kd 0 [])) (heap4 s (a + (e.length : Int)))) := by
   rcases hkd with hk | hk
   · subst hk
     refine (layItm_ok d hV).call (fun k => (items5_fun KS TS ES (KV d) (VX d) EV (KItD d) (RIt d) e s a l k).trans ?_)
     refine cF (show (!decide (l > 0)) = false by rw [dT (show l > 0 by omega)]; rfl) ?_
     refine cT tk ?_
     refine cU hb ?_
     rfl
   · subst hk
     refine (layItm_ok d hV).call (fun k => (items6_fun KS TS ES (KV d) (VX d) EV (KItD d) (RIt d) e s a l k).trans ?_)
     refine cF (show (!decide (l > 0)) = false by rw [dT (show l > 0 by omega)]; rfl) ?_
     refine cT tk ?_
     refine cU hb ?_
     rfl
  rw [hel] at key
  exact key.sub (.refl _) ⟨leafC_sub _ _ _, rfl⟩
 | false =>
  have hKD : KItD d ⟨s, a, e, l, kd⟩ := ⟨hK, hb⟩
  have nb : ¬ hpP e (s.drop a.toNat) = true := by rw [hb]; exact Bool.false_ne_true
  generalize hcn : cntI kd s e a = n
  have eV : itV (VV d) kd s e a = ⟨kd, 0, [], false, n, rowI (VV d) kd s a, decide (kd = 5), if kd = 6 then (List.range n).map (keyI kd s a) else []⟩ := by unfold itV; rw [if_neg nb, hcn]
  have eE : itE kd s e a = nxI kd s (posI kd s a (n - 1)) + 1 := by unfold itE; rw [if_neg nb, hcn]
  have eR : RIt d ⟨s, a, e, l, kd⟩ = ⟨n, n - 1, n - 1, rwI d kd s a n, krI kd s a n, nxI kd s (posI kd s a (n - 1)) + 1⟩ := by
   unfold RIt
   simp only [hcn, hel]
   rfl
  rw [eV, eE]
  rcases hkd with hk | hk
  · subst hk
    have key : CallOK Tryz.prog 122 [.ptr (.hp 3) 0, .agg [.int .i64 5, .int .i64 0, .str [], nilList, nilList], .str e, .int .i64 l] (heap4 s a) (.ret (.agg [.int .i64 5, .int .i64 0, .str [], .own 4 0 n (n - 1) false, nilList]) (heap4 s (nxI 5 s (posI 5 s a (n - 1)) + 1) ++ [.arr 5 (rwI d 5 s a n) (n - 1)])) := by
     refine (layItm_ok d hV).call (fun k => (items5_fun KS TS ES (KV d) (VX d) EV (KItD d) (RIt d) e s a l k).trans ?_)
     refine cF (show (!decide (l > 0)) = false by rw [dT (show l > 0 by omega)]; rfl) ?_
     refine cT tk ?_
     refine cF hb ?_
     refine cT (tst_true ⟨hKD, .refl _, rfl, rfl⟩) ?_
     show k (Out.ret (AVal.agg [_, _, _, .own 4 0 (RIt d ⟨s, a, e, l, 5⟩).n (RIt d ⟨s, a, e, l, 5⟩).v false, _]) (heap4 s (RIt d ⟨s, a, e, l, 5⟩).at_ ++ [.arr 5 (RIt d ⟨s, a, e, l, 5⟩).rows (RIt d ⟨s, a, e, l, 5⟩).v])) = _
     rw [eR]
     rfl
    have k2 := key.meltR (by show 4 ≤ 4; omega) (rw_pure d 5 s a n)
    have hz : fzV 4 (rwI d 5 s a n) (n - 1) 6 (.agg [.int .i64 5, .int .i64 0, .str [], .own 4 0 n (n - 1) false, nilList]) = .agg [.int .i64 5, .int .i64 0, .str [], .list false n (fun i => (rwI d 5 s a n).getD (0 + i) []), nilList] := by
     have hif : (if n - 1 = n - 1 ∧ 0 + n ≤ (rwI d 5 s a n).length then AVal.list false n (fun i => (rwI d 5 s a n).getD (0 + i) []) else .undef) = .list false n (fun i => (rwI d 5 s a n).getD (0 + i) []) := if_pos ⟨rfl, by rw [rw_len]; omega⟩
     rw [← hif]; rfl
    have k3 : CallOK Tryz.prog 122 [.ptr (.hp 3) 0, .agg [.int .i64 5, .int .i64 0, .str [], nilList, nilList], .str e, .int .i64 l] (heap4 s a) (.ret (.agg [.int .i64 5, .int .i64 0, .str [], .list false n (fun i => (rwI d 5 s a n).getD (0 + i) []), nilList]) (heap4 s (nxI 5 s (posI 5 s a (n - 1)) + 1))) := by
     rw [← hz]; exact k2
    refine k3.sub (.refl _) ⟨.agg (.cons (.refl _) (.cons (.refl _) (.cons (.refl _) (.cons (Sub.list (fun h => h) (fun i hi => ?_)) (.cons (Sub.list (fun h => rfl) (fun i hi => absurd hi (Nat.not_lt_zero _))) .nil))))), rfl⟩
    rw [rw_get d 5 s a n i hi]
    exact .refl _
  · subst hk
    have key : CallOK Tryz.prog 122 [.ptr (.hp 3) 0, .agg [.int .i64 6, .int .i64 0, .str [], nilList, nilList], .str e, .int .i64 l] (heap4 s a) (.ret (.agg [.int .i64 6, .int .i64 0, .str [], .own 5 0 n (n - 1) false, .own 4 0 n (n - 1) false]) ((heap4 s (nxI 6 s (posI 6 s a (n - 1)) + 1) ++ [.arr 1 (krI 6 s a n) (n - 1)]) ++ [.arr 5 (rwI d 6 s a n) (n - 1)])) := by
     refine (layItm_ok d hV).call (fun k => (items6_fun KS TS ES (KV d) (VX d) EV (KItD d) (RIt d) e s a l k).trans ?_)
     refine cF (show (!decide (l > 0)) = false by rw [dT (show l > 0 by omega)]; rfl) ?_
     refine cT tk ?_
     refine cF hb ?_
     refine cT (tst_true ⟨hKD, .refl _, rfl, rfl⟩) ?_
     show k (Out.ret (AVal.agg [_, _, _, .own 5 0 (RIt d ⟨s, a, e, l, 6⟩).n (RIt d ⟨s, a, e, l, 6⟩).v false, .own 4 0 (RIt d ⟨s, a, e, l, 6⟩).n (RIt d ⟨s, a, e, l, 6⟩).u false]) ((heap4 s (RIt d ⟨s, a, e, l, 6⟩).at_ ++ [.arr 1 (RIt d ⟨s, a, e, l, 6⟩).krows (RIt d ⟨s, a, e, l, 6⟩).u]) ++ [.arr 5 (RIt d ⟨s, a, e, l, 6⟩).rows (RIt d ⟨s, a, e, l, 6⟩).v])) = _
     rw [eR]
    have k2 := key.meltR (by show 4 ≤ 5; omega) (rw_pure d 6 s a n)
    have hz : fzV 5 (rwI d 6 s a n) (n - 1) 6 (.agg [.int .i64 6, .int .i64 0, .str [], .own 5 0 n (n - 1) false, .own 4 0 n (n - 1) false]) = .agg [.int .i64 6, .int .i64 0, .str [], .list false n (fun i => (rwI d 6 s a n).getD (0 + i) []), .own 4 0 n (n - 1) false] := by
     have hif : (if n - 1 = n - 1 ∧ 0 + n ≤ (rwI d 6 s a n).length then AVal.list false n (fun i => (rwI d 6 s a n).getD (0 + i) []) else .undef) = .list false n (fun i => (rwI d 6 s a n).getD (0 + i) []) := if_pos ⟨rfl, by rw [rw_len]; omega⟩
     rw [← hif]; rfl
    have hkr : (krI 6 s a n).map (fun r => r.map (fzV 5 (rwI d 6 s a n) (n - 1) 6)) = krI 6 s a n := by
     unfold krI
     rw [List.map_map]
     rfl
    have k3 : CallOK Tryz.prog 122 [.ptr (.hp 3) 0, .agg [.int .i64 6, .int .i64 0, .str [], nilList, nilList], .str e, .int .i64 l] (heap4 s a) (.ret (.agg [.int .i64 6, .int .i64 0, .str [], .list false n (fun i => (rwI d 6 s a n).getD (0 + i) []), .own 4 0 n (n - 1) false]) (heap4 s (nxI 6 s (posI 6 s a (n - 1)) + 1) ++ [.arr 1 (krI 6 s a n) (n - 1)])) := by
     rw [← hz]
     have : (heap4 s (nxI 6 s (posI 6 s a (n - 1)) + 1) ++ [.arr 1 (krI 6 s a n) (n - 1)]) = heap4 s (nxI 6 s (posI 6 s a (n - 1)) + 1) ++ [.arr 1 ((krI 6 s a n).map (fun r => r.map (fzV 5 (rwI d 6 s a n) (n - 1) 6))) (n - 1)] := by rw [hkr]
     rw [this]
     exact k2
    have k4 := k3.meltR (by show 4 ≤ 4; omega) (kr_pure 6 s a n)
    have hy : fzV 4 (krI 6 s a n) (n - 1) 6 (.agg [.int .i64 6, .int .i64 0, .str [], .list false n (fun i => (rwI d 6 s a n).getD (0 + i) []), .own 4 0 n (n - 1) false]) = .agg [.int .i64 6, .int .i64 0, .str [], .list false n (fun i => (rwI d 6 s a n).getD (0 + i) []), .list false n (fun i => (krI 6 s a n).getD (0 + i) [])] := by
     have hif : (if n - 1 = n - 1 ∧ 0 + n ≤ (krI 6 s a n).length then AVal.list false n (fun i => (krI 6 s a n).getD (0 + i) []) else .undef) = .list false n (fun i => (krI 6 s a n).getD (0 + i) []) := if_pos ⟨rfl, by rw [kr_len]; omega⟩
     rw [← hif]; rfl
    have k5 : CallOK Tryz.prog 122 [.ptr (.hp 3) 0, .agg [.int .i64 6, .int .i64 0, .str [], nilList, nilList], .str e, .int .i64 l] (heap4 s a) (.ret (.agg [.int .i64 6, .int .i64 0, .str [], .list false n (fun i => (rwI d 6 s a n).getD (0 + i) []), .list false n (fun i => (krI 6 s a n).getD (0 + i) [])]) (heap4 s (nxI 6 s (posI 6 s a (n - 1)) + 1))) := by
     rw [← hy]; exact k4
    have hkl2 : ((List.range n).map (keyI 6 s a)).length = n := by simp
    have hs2 : Sub (.list false n (fun i => (krI 6 s a n).getD (0 + i) [])) (encSs (decide ((6 : Int) = 5)) ((List.range n).map (keyI 6 s a))) := by
     unfold encSs encL
     rw [hkl2]
     refine Sub.list (fun h => by cases h) (fun i hi => ?_)
     rw [kr_get 6 s a n i hi, List.getD_eq_getElem?_getD, List.getElem?_map, List.getElem?_range hi]
     exact .refl _
    refine k5.sub (.refl _) ⟨.agg (.cons (.refl _) (.cons (.refl _) (.cons (.refl _) (.cons (Sub.list (fun h => h) (fun i hi => ?_)) (.cons hs2 .nil))))), rfl⟩
    rw [rw_get d 6 s a n i hi]
    exact .refl _
theorem itmTold_ok (d : Nat) (hV : ∀ xs H k out, rvlTold (KV d) (VX d) EV xs H k = some out → ∃ o, CallOK Tryz.prog 102 xs H o ∧ k o = some out) :
 ∀ xs H k out, itmTold (KItE d) (fun x => itV (VV d) x.kd x.s x.e x.a) (fun x => itE x.kd x.s x.e x.a) xs H k = some out → ∃ o, CallOK Tryz.prog 122 xs H o ∧ k o = some out := mkF_ok fun x h => ⟨_, fun k => rfl, itm_ok d hV x h⟩
end Go.Mu
namespace Go.Mu
open Go Go.Proofs
noncomputable abbrev rgTurn := lturn Tryz.prog layRg0 (rgFH WkD riX) 123 2 [0,5,6,7] [] [2] []
theorem rg_rd (f : Bool) (ks : List Oc) (hl : ks.length ≤ 1099511627776) (i : Nat) (hi : i < ks.length) (D : Dfs) (k : Kont) :
 rgTurn (stL 29 [0,5,6,7] [encSs f ks, encSs f ks, .int .i64 (ks.length : Nat), .int .i64 (i : Nat)] [] [] [] D) k = cond (riHit ks i) (k .ret (stL 29 [2] [.bool false] [] [] [] D)) (k .normal (stL 29 [0,5,6,7] [encSs f ks, encSs f ks, .int .i64 (ks.length : Nat), .int .i64 ((i + 1 : Nat) : Int)] [] [] [] D)) := by
 refine (rg_step WkD riX f ks ks.length i D k).trans ?_
 have e1 : IntKind.i64.wrap ((i : Int) + 1) = ((i + 1 : Nat) : Int) := wrap_add1 (by omega)
 have e2 : IntKind.i64.wrap ((i : Int) - 1) = (i : Int) - 1 := wrap_of (by omega) (by omega)
 have e3 : ((i : Int) - 1).toNat = i - 1 := by omega
 have hg : (decide (0 ≤ (i : Int) - 1) && decide ((i : Int) - 1 < (ks.length : Nat)) || !(!!nameB (ks.getD i []) && decide ((i : Int) > 0))) = true := by
  by_cases h0 : (i : Int) > 0
  · rw [dT (show 0 ≤ (i : Int) - 1 by omega), dT (show (i : Int) - 1 < (ks.length : Nat) by omega)]; rfl
  · rw [dF h0]; simp
 simp only [Int.toNat_natCast, e1, e2, e3, hg, dT (show (i : Int) < (ks.length : Nat) by omega), dT (show (0 : Int) ≤ (i : Int) by omega), Bool.and_self, Bool.true_or, cond_true]
 unfold riHit
 rw [bl_tri]
 cases (bif !nameB (ks.getD i []) then true else bif decide ((i : Int) > 0) then !Op.bytesLess (ks.getD (i - 1) []) (ks.getD i []) else false) <;> rfl
theorem rgSp_ok : SpOK rgTurn 29 [0,5,6,7] [] [2] [] (rgSp WkD riX) := mkL_ok fun x h => by
 obtain ⟨h1, h2, h3⟩ := h
 have eR : riX x = riB (decL decS x) := rfl
 have eN : lnK x = (decL decS x).length := rfl
 show ∃ e vs bs H', (∀ k : AExit → List AVal → List (List AVal) → Heap → Ans, cond (riX x) _ _ = k e vs bs H') ∧ _
 rw [eR, eN]
 unfold canK
 generalize decL decS x = ks at *
 generalize fullOf x = f
 have hN : ∀ D k, rgTurn (stL 29 [0,5,6,7] [encSs f ks, encSs f ks, .int .i64 (ks.length : Nat), .int .i64 (ks.length : Nat)] [] [] [] D) k = k (.exit 0) (stL 29 [2] [.undef] [] [] [] D) := fun D k => by
  refine (rg_step WkD riX f ks ks.length ks.length D k).trans ?_
  simp only [dF (show ¬ (ks.length : Int) < (ks.length : Nat) by omega), cond_false]
 unfold riB
 cases ha : (List.range ks.length).find? (riHit ks) with
 | none =>
  rw [find_any.1 ha]
  exact ⟨_, _, _, _, fun k => rfl, none_runs (fun i => [encSs f ks, encSs f ks, .int .i64 (ks.length : Nat), .int .i64 (i : Nat)]) [] [] (riHit ks) ks.length (by simp) (fun i hi D k => rg_rd f ks h1 i hi D k) hN ha⟩
 | some j =>
  have : (List.range ks.length).any (riHit ks) = true := by
   cases hb : (List.range ks.length).any (riHit ks) with
   | true => rfl
   | false => rw [find_any.2 hb] at ha; cases ha
  rw [this]
  exact ⟨_, _, _, _, fun k => rfl, find_runs (fun i => [encSs f ks, encSs f ks, .int .i64 (ks.length : Nat), .int .i64 (i : Nat)]) [] [] (riHit ks) ks.length (v1 := fun _ => [.bool false]) (b1 := fun _ => []) (H1 := fun _ => []) (by simp) (fun i hi D k => rg_rd f ks h1 i hi D k) ha⟩
theorem layRg_ok : (layRg WkD riX).OK Tryz.prog := Lay.OK.loop1 (Lay.nil_ok.addF oNameTold_ok) (id := 2) (by kernel_rfl) (by kernel_rfl) (by kernel_rfl) rgSp_ok
theorem rgTold_ok : ∀ xs H k out, riTold WkD riX xs H k = some out → ∃ o, CallOK Tryz.prog 123 xs H o ∧ k o = some out := mkF_ok fun x h => ⟨_, fun k => rfl, by
 have hx := h.2.2
 have key := fun k => rg_fun WkD riX (fullOf x) (decL decS x) k
 have e : (AVal.list (fullOf x) (decL decS x).length fun i => [AVal.str ((decL decS x).getD i [])]) = x := hx.symm
 rw [e] at key
 refine layRg_ok.callF (G := []) rfl (fun k => (key k).trans ?_)
 refine cT (tst_true ⟨h, by rw [← hx]; exact .refl _, by first | trivial | exact ⟨rfl, rfl⟩⟩) ?_
 cases riX x <;> rfl⟩
end Go.Mu
namespace Go.Mu
open Go Go.Proofs
def noneTold : FSp := fun _ _ _ => none
theorem noneTold_ok {f : FuncId} : ∀ xs H k out, noneTold xs H k = some out → ∃ o, CallOK Tryz.prog f xs H o ∧ k o = some out := fun _ _ _ _ h => by cases h
noncomputable def layCoR : Lay := (layFa.addF 38 noneTold).addF 39 noneTold
theorem layCoR_ok : layCoR.OK Tryz.prog := (layFa_ok.addF noneTold_ok).addF noneTold_ok
theorem cont_fun (e : Int) (s : Oc) (k : Out → Ans) : iFun Tryz.prog (layCoR.hd Tryz.prog) layCoR.fhs 0 13 [.int .i64 e, .str s] [] k = (
 let c0 : Bool := e == 1;
 let c1 : Bool := decide ((decP s).length ≤ 1099511627776);
 let l2 : Oc := (schemeM (decP s)).fst;
 let c3 : Bool := decide (s.length ≤ 1099511627776);
 let c4 : Bool := e == 2;
 let c5 : Bool := e == 3;
 let c6 : Bool := e == 5;
 let z0 := bif e == 4 then bif c1 then k (Out.ret (AVal.bool (bif cleanM s then bif !(schemeM (decP s)).snd then true else bif bif l2 == [104, 116, 116, 112] then true else l2 == [104, 116, 116, 112, 115] then true else l2 == [109, 97, 105, 108, 116, 111] else false)) []) else none else bif e == 7 then none else bif e == 9 then none else bif e == 8 then bif c3 then k (Out.ret (AVal.bool (safeM s)) []) else none else bif e == 10 then bif c1 then k (Out.ret (AVal.bool (bif cleanM s then safeM (decP s) else false)) []) else none else bif e == 11 then bif c3 then k (Out.ret (AVal.bool (plainM s)) []) else none else bif e == 12 then bif c1 then k (Out.ret (AVal.bool (bif cleanM s then plainM (decP s) else false)) []) else none else k (Out.ret (AVal.bool false) []);
 let z1 := Out.ret (AVal.bool (cleanM s)) [];
  bif decide (s.length ≤ 268435456) then bif c0 then bif c0 then k z1 else z0 else bif c4 then bif c4 then k z1 else z0 else bif c5 then bif c5 then k z1 else z0 else bif c6 then bif c6 then k z1 else z0 else bif e == 6 then k z1 else z0 else none) := by kernel_rfl
def alwM (t : Oc) : Bool := bif bif t == [104, 116, 116, 112] then true else t == [104, 116, 116, 112, 115] then true else t == [109, 97, 105, 108, 116, 111]
noncomputable def contM (e : Int) (s : Oc) : Bool :=
 bif e == 1 then cleanM s else bif e == 2 then cleanM s else bif e == 3 then cleanM s else bif e == 5 then cleanM s else bif e == 6 then cleanM s else
 bif e == 4 then (bif cleanM s then (bif !(schemeM (decP s)).2 then true else alwM (schemeM (decP s)).1) else false) else
 bif e == 8 then safeM s else bif e == 10 then (bif cleanM s then safeM (decP s) else false) else bif e == 11 then plainM s else bif e == 12 then (bif cleanM s then plainM (decP s) else false) else false
theorem cont_call (e : Int) (s : Oc) (he7 : e ≠ 7) (he9 : e ≠ 9) (hs : s.length ≤ 268435456) (k : Out → Ans) : iFun Tryz.prog (layCoR.hd Tryz.prog) layCoR.fhs 0 13 [.int .i64 e, .str s] [] k = k (.ret (.bool (contM e s)) []) := by
 refine (cont_fun e s k).trans ?_
 have hd := decR_len s.length s (by omega)
 have hd2 : (decP s).length ≤ 4 * s.length := hd
 have h7 : (e == 7) = false := by simpa using he7
 have h9 : (e == 9) = false := by simpa using he9
 have g1 : decide (s.length ≤ 268435456) = true := dT hs
 have g2 : decide ((decP s).length ≤ 1099511627776) = true := dT (by omega)
 have g3 : decide (s.length ≤ 1099511627776) = true := dT (by omega)
 simp only [g1, g2, g3, h7, h9, cond_true, cond_false]
 unfold contM
 cases h1 : e == 1 with
 | true =>
  simp only [h1, cond_true, cond_false]
 | false =>
 cases h2 : e == 2 with
 | true =>
  simp only [h1, h2, cond_true, cond_false]
  try rfl
 | false =>
 cases h3 : e == 3 with
 | true =>
  simp only [h1, h2, h3, cond_true, cond_false]
  try rfl
 | false =>
 cases h5 : e == 5 with
 | true =>
  simp only [h1, h2, h3, h5, cond_true, cond_false]
  try rfl
 | false =>
 cases h6 : e == 6 with
 | true =>
  simp only [h1, h2, h3, h5, h6, cond_true, cond_false]
  try rfl
 | false =>
 cases h4 : e == 4 with
 | true =>
  simp only [h1, h2, h3, h5, h6, h4, cond_true, cond_false]
  try rfl
 | false =>
 cases h8 : e == 8 with
 | true =>
  simp only [h1, h2, h3, h5, h6, h4, h8, cond_true, cond_false]
  try rfl
 | false =>
 cases h10 : e == 10 with
 | true =>
  simp only [h1, h2, h3, h5, h6, h4, h8, h10, cond_true, cond_false]
  try rfl
 | false =>
 cases h11 : e == 11 with
 | true =>
  simp only [h1, h2, h3, h5, h6, h4, h8, h10, h11, cond_true, cond_false]
  try rfl
 | false =>
 cases h12 : e == 12 with
 | true =>
  simp only [h1, h2, h3, h5, h6, h4, h8, h10, h11, h12, cond_true, cond_false]
  try rfl
 | false =>
 simp only [h1, h2, h3, h5, h6, h4, h8, h10, h11, h12, cond_true, cond_false]
 try rfl
end Go.Mu
namespace Go.Mu
open Go Go.Proofs
def spc (c : UInt8) : Bool := c == 47 || c == 63 || c == 35 || c == 58
theorem rdP_asc {c : UInt8} {s : Oc} (h1 : 1 ≤ c.toNat) (h2 : c.toNat < 128) : rdP (c :: s) = (((c.toNat : Nat) : Int), 1) := by
 have hD := dgo_N (c :: s) (by simp)
 have hs := Lib.decodeN_shape (c :: s).length ((c :: s).getD 0 0).toNat ((c :: s).getD 1 0).toNat ((c :: s).getD 2 0).toNat ((c :: s).getD 3 0).toNat
 rw [← hD] at hs
 simp only [List.getD_cons_zero] at hs
 unfold rdP decC
 rcases hs with ⟨a, b⟩ | h | h | h | h
 · rw [b]
   rw [if_neg (by show ¬ (c.toNat = 65533 ∧ 1 < 2); omega)]
 · omega
 · omega
 · omega
 · exfalso
   have : Lib.decodeN (c :: s).length c.toNat ((c :: s).getD 1 0).toNat ((c :: s).getD 2 0).toNat ((c :: s).getD 3 0).toNat = (c.toNat, 1) := by
    unfold Lib.decodeN
    rw [if_pos h2]
   rw [hD] at h
   simp only [List.getD_cons_zero] at h
   rw [this] at h
   have := (Prod.mk.inj h).1
   omega
theorem chL_fuel : ∀ (m : Nat) (s : Oc), s.length ≤ m → chL m s = chP s := by
 have key : ∀ (n : Nat) (s : Oc), s.length ≤ n → ∀ m k, s.length ≤ m → s.length ≤ k → chL m s = chL k s := by
  intro n
  induction n with
  | zero =>
   intro s hs m k _ _
   have : s = [] := List.length_eq_zero_iff.1 (by omega)
   subst this
   rw [chL_nil, chL_nil]
  | succ n ih =>
   intro s hs m k hm hk
   by_cases h : s = []
   · subst h; rw [chL_nil, chL_nil]
   have hl : 0 < s.length := List.length_pos_iff.2 h
   obtain ⟨m, rfl⟩ : ∃ j, m = j + 1 := ⟨m - 1, by omega⟩
   obtain ⟨k, rfl⟩ : ∃ j, k = j + 1 := ⟨k - 1, by omega⟩
   have hw := rdP_w s h
   rw [chL_cons m s h, chL_cons k s h, ih (s.drop (rdP s).2) (by simp; omega) m k (by simp; omega) (by simp; omega)]
 exact fun m s h => key m s h m s.length h (Nat.le_refl _)
theorem rp_cons {s : Oc} (h : s ≠ []) : rpP s = encX (if (rdP s).1 ≤ 0 then 65533 else (rdP s).1) ++ rpP (s.drop (rdP s).2) := by
 have hl : 0 < s.length := List.length_pos_iff.2 h
 have hw := rdP_w s h
 unfold rpP
 rw [← chL_fuel (s.length - 1 + 1) s (by omega), chL_cons _ s h, List.flatMap_cons, chL_fuel _ _ (by simp; omega)]
theorem encX_asc : ∀ m : Fin 128, 0 < m.val → encX ((m.val : Nat) : Int) = [UInt8.ofNat m.val] := by decide +kernel
theorem rp_ascC {c : UInt8} {s : Oc} (h1 : 1 ≤ c.toNat) (h2 : c.toNat < 128) : rpP (c :: s) = c :: rpP s := by
 have e := encX_asc ⟨c.toNat, h2⟩ h1
 simp only [UInt8.ofNat_toNat] at e
 rw [rp_cons (by simp), rdP_asc h1 h2, if_neg (by omega), e]
 rfl
theorem rp_pre : ∀ {pre : Oc}, (∀ c ∈ pre, 1 ≤ c.toNat ∧ c.toNat < 128) → ∀ s, rpP (pre ++ s) = pre ++ rpP s
 | [], _, s => rfl
 | c :: pre, h, s => by
  have := h c (by simp)
  rw [List.cons_append, rp_ascC this.1 this.2, rp_pre (fun d hd => h d (by simp [hd])) s]
  rfl
theorem spc_lt : ∀ c : UInt8, spc c = true → 1 ≤ c.toNat ∧ c.toNat < 128 := oct256 (p := fun c => spc c = true → 1 ≤ c.toNat ∧ c.toNat < 128) (by decide +kernel)
abbrev noSpc (l : Oc) : Prop := ∀ c ∈ l, spc c = false
theorem filt_no {l : Oc} (h : noSpc l) : l.filter spc = [] := List.filter_eq_nil_iff.2 (fun c hc => by rw [h c hc]; decide)
theorem spc_hi {c : UInt8} (h : 128 ≤ c.toNat ∨ c.toNat = 0) : spc c = false := by
 cases hs : spc c with
 | false => rfl
 | true =>
  have := spc_lt c hs
  omega
theorem encZ_hi {r : Int} (h : 128 ≤ r) (h2 : r ≤ 1114111) (h3 : ¬ (55296 ≤ r ∧ r ≤ 57343)) : ∀ x ∈ Lib.encodeRuneZ r, 128 ≤ x := by
 intro x hx
 by_cases a : r ≤ 2047
 · rw [Lib.encodeRuneZ_two h a] at hx
   simp only [List.mem_cons, List.not_mem_nil, or_false] at hx
   omega
 by_cases b : r ≤ 65535
 · rw [Lib.encodeRuneZ_three (by omega)] at hx
   simp only [List.mem_cons, List.not_mem_nil, or_false] at hx
   omega
 rw [Lib.encodeRuneZ_four (by omega) h2] at hx
 simp only [List.mem_cons, List.not_mem_nil, or_false] at hx
 omega
theorem encX_hi {r : Int} (h : 128 ≤ r) (h2 : r ≤ 1114111) (h3 : ¬ (55296 ≤ r ∧ r ≤ 57343)) : noSpc (encX r) := by
 rw [(encX_good (by omega) h2 h3).1]
 intro c hc
 unfold Lib.encodeRune at hc
 obtain ⟨x, hx, rfl⟩ := List.mem_map.1 hc
 have h4 := encZ_hi h h2 h3 x hx
 have h5 := Lib.encodeRuneZ_byte r x hx
 refine spc_hi (.inl ?_)
 show 128 ≤ (UInt8.ofNat x.toNat).toNat
 rw [UInt8.toNat_ofNat']
 omega
theorem mem_take {l : Oc} {n : Nat} {c : UInt8} (h : c ∈ l.take n) : ∃ i, i < n ∧ c = l.getD i 0 := by
 obtain ⟨i, hi, rfl⟩ := List.mem_iff_getElem.1 h
 rw [List.length_take] at hi
 refine ⟨i, by omega, ?_⟩
 rw [List.getElem_take, List.getD_eq_getElem?_getD, List.getElem?_eq_getElem (by omega)]
 rfl
theorem rd_hi {s : Oc} (h : s ≠ []) (hc : (s.getD 0 0).toNat = 0 ∨ 128 ≤ (s.getD 0 0).toNat) : (∀ i, i < (rdP s).2 → (s.getD i 0).toNat = 0 ∨ 128 ≤ (s.getD i 0).toNat) ∧ ((rdP s).1 ≤ 0 ∨ 128 ≤ (rdP s).1) := by
 have hD := dgo_N s h
 have hs := Lib.decodeN_shape s.length (s.getD 0 0).toNat (s.getD 1 0).toNat (s.getD 2 0).toNat (s.getD 3 0).toNat
 rw [← hD] at hs
 unfold rdP decC
 rcases hs with ⟨a, b⟩ | ⟨a1, a2, a3, a4, b⟩ | ⟨a1, a2, a3, a4, a5, a6, b⟩ | ⟨a1, a2, a3, a4, a5, a6, a7, b⟩ | b
 · rw [b, if_neg (by show ¬ ((s.getD 0 0).toNat = 65533 ∧ 1 < 2); omega)]
   refine ⟨fun i hi => ?_, .inl (by show ((s.getD 0 0).toNat : Int) ≤ 0; omega)⟩
   have : i = 0 := by simp only at hi; omega
   subst this; exact hc
 · rw [b, if_neg (by show ¬ (_ ∧ 2 < 2); omega)]
   refine ⟨fun i hi => ?_, .inr (by show 128 ≤ ((_ : Nat) : Int); omega)⟩
   have : i = 0 ∨ i = 1 := by simp only at hi; omega
   rcases this with rfl | rfl
   · exact hc
   · omega
 · rw [b, if_neg (by show ¬ (_ ∧ 3 < 2); omega)]
   refine ⟨fun i hi => ?_, .inr (by show 128 ≤ ((_ : Nat) : Int); omega)⟩
   have : i = 0 ∨ i = 1 ∨ i = 2 := by simp only at hi; omega
   rcases this with rfl | rfl | rfl
   · exact hc
   · omega
   · omega
 · rw [b, if_neg (by show ¬ (_ ∧ 4 < 2); omega)]
   refine ⟨fun i hi => ?_, .inr (by show 128 ≤ ((_ : Nat) : Int); omega)⟩
   have : i = 0 ∨ i = 1 ∨ i = 2 ∨ i = 3 := by simp only at hi; omega
   rcases this with rfl | rfl | rfl | rfl
   · exact hc
   · omega
   · omega
   · omega
 · rw [b, if_pos ⟨rfl, by decide⟩]
   refine ⟨fun i hi => ?_, .inl (by decide)⟩
   have : i = 0 := by simp only at hi; omega
   subst this; exact hc
theorem filt_rp : ∀ (n : Nat) (s : Oc), s.length ≤ n → (rpP s).filter spc = s.filter spc := by
 intro n
 induction n with
 | zero =>
  intro s hs
  have : s = [] := List.length_eq_zero_iff.1 (by omega)
  subst this
  rfl
 | succ n ih =>
  intro s hs
  cases s with
  | nil => rfl
  | cons c t =>
   simp only [List.length_cons] at hs
   by_cases ha : 1 ≤ c.toNat ∧ c.toNat < 128
   · rw [rp_ascC ha.1 ha.2]
     cases hsp : spc c with
     | true => rw [List.filter_cons_of_pos hsp, List.filter_cons_of_pos hsp, ih t (by omega)]
     | false => rw [List.filter_cons_of_neg (by rw [hsp]; decide), List.filter_cons_of_neg (by rw [hsp]; decide), ih t (by omega)]
   · have hne : (c :: t) ≠ [] := by simp
     obtain ⟨r1, r2⟩ := rd_hi hne (by show c.toNat = 0 ∨ 128 ≤ c.toNat; omega)
     have hok := rdP_ok (c :: t) hne
     have hw := rdP_w (c :: t) hne
     have e1 : (encX (if (rdP (c :: t)).1 ≤ 0 then 65533 else (rdP (c :: t)).1)).filter spc = [] := by
      refine filt_no ?_
      by_cases h0 : (rdP (c :: t)).1 ≤ 0
      · rw [if_pos h0]; exact encX_hi (by decide) (by decide) (by decide)
      · rw [if_neg h0]; exact encX_hi (by omega) hok.1 hok.2
     have e2 : ((c :: t).take (rdP (c :: t)).2).filter spc = [] := by
      refine filt_no (fun d hd => ?_)
      obtain ⟨i, hi, rfl⟩ := mem_take hd
      exact spc_hi (by have := r1 i hi; omega)
     have e3 : (c :: t).filter spc = ((c :: t).take (rdP (c :: t)).2).filter spc ++ ((c :: t).drop (rdP (c :: t)).2).filter spc := by
      rw [← List.filter_append, List.take_append_drop]
     rw [rp_cons hne, List.filter_append, e1, e3, e2, ih _ (by simp only [List.length_drop, List.length_cons]; omega)]
theorem flat_filter (f : Nat → UInt8) (g : Nat → Oc) (h : ∀ i, (g i).filter spc = [f i].filter spc) : ∀ l : List Nat, (l.flatMap g).filter spc = (l.map f).filter spc
 | [] => rfl
 | i :: l => by
  rw [List.flatMap_cons, List.filter_append, h i, flat_filter f g h l, List.map_cons, ← List.filter_append]
  rfl
theorem range_get (z : Oc) (n : Nat) (h : n ≤ z.length) : (List.range n).map (fun i => z.getD i 0) = z.take n := by
 refine List.ext_getElem (by simp; omega) (fun i h1 h2 => ?_)
 simp only [List.length_map, List.length_range] at h1
 rw [List.getElem_map, List.getElem_range, List.getElem_take, List.getD_eq_getElem?_getD, List.getElem?_eq_getElem (by omega)]
 rfl
def lowLet (c : UInt8) : Bool := decide (97 ≤ c.toNat) && decide (c.toNat ≤ 122)
theorem scP_spc : ∀ c : UInt8, c ≠ 58 → scP c = spc c := oct256 (p := fun c => c ≠ 58 → scP c = spc c) (by decide +kernel)
theorem head_none {l : Oc} (h : (58 : UInt8) ∉ l) : (l.filter spc).head? ≠ some 58 := fun h2 => by
 have : (58 : UInt8) ∈ l.filter spc := List.mem_of_mem_head? h2
 exact h (List.mem_filter.1 this).1
theorem lowLet_ok : ∀ c : UInt8, lowLet (lowC c) = true → 1 ≤ c.toNat ∧ c.toNat < 128 ∧ spc c = false ∧ unrM ((c.toNat : Nat) : Int) = true := oct256 (p := fun c => lowLet (lowC c) = true → 1 ≤ c.toNat ∧ c.toNat < 128 ∧ spc c = false ∧ unrM ((c.toNat : Nat) : Int) = true) (by decide +kernel)
theorem alw_let {w : Oc} (h : alwM w = true) : ∀ c ∈ w, lowLet c = true := by
 unfold alwM at h
 rw [← List.all_eq_true]
 by_cases h1 : w = [104, 116, 116, 112]
 · subst h1; decide
 by_cases h2 : w = [104, 116, 116, 112, 115]
 · subst h2; decide
 by_cases h3 : w = [109, 97, 105, 108, 116, 111]
 · subst h3; decide
 rw [beq_false_of_ne h1, beq_false_of_ne h2, beq_false_of_ne h3] at h
 cases h
theorem hxd_spc (d : Nat) (h : d < 16) : spc (hxd d) = false := by
 have key : ∀ m : Fin 16, spc (hxd m.val) = false := by decide
 exact key ⟨d, h⟩
theorem hexB_spc (n : Int) : noSpc (hexB n 2) := fun c hc => by
 unfold hexB at hc
 rw [if_pos rfl] at hc
 simp only [List.mem_cons, List.not_mem_nil, or_false] at hc
 rcases hc with rfl | rfl
 · exact hxd_spc _ (Nat.mod_lt _ (by decide))
 · exact hxd_spc _ (Nat.mod_lt _ (by decide))
theorem spc_resM : ∀ c : UInt8, spc c = true → resM ((c.toNat : Nat) : Int) = true := oct256 (p := fun c => spc c = true → resM ((c.toNat : Nat) : Int) = true) (by decide +kernel)
theorem pc_filter (t : Oc) : (pcT true t t.length).filter spc = t.filter spc := by
 unfold pcT
 rw [flat_filter (fun i => t.getD i 0) _ (fun i => ?_), range_get t t.length (Nat.le_refl _), List.take_length]
 unfold pcG
 cases hm : pcMay true t i with
 | true => rfl
 | false =>
  have hs : spc (t.getD i 0) = false := by
   cases hs : spc (t.getD i 0) with
   | false => rfl
   | true =>
    unfold pcMay at hm
    rw [spc_resM _ hs] at hm
    revert hm
    cases unrM ((t.getD i 0).toNat : Int) <;> intro hm <;> cases hm
  rw [cond_false, filt_no (l := [t.getD i 0]) (by intro c hc; rw [List.mem_singleton] at hc; subst hc; exact hs)]
  exact filt_no (fun c hc => by
   rcases List.mem_cons.1 hc with rfl | hc
   · decide
   · exact hexB_spc _ c hc)
theorem filt_pc (s : Oc) : (pcP true s).filter spc = s.filter spc := by
 unfold pcP
 rw [pc_filter, filt_rp s.length s (Nat.le_refl _)]
theorem pc_pre (z : Oc) (n : Nat) (hn : n ≤ z.length) (hM : ∀ i : Nat, i < n → pcMay true z i = true) : ∃ y, pcT true z z.length = z.take n ++ y := by
 refine ⟨((List.range (z.length - n)).map (n + ·)).flatMap (pcG true z), ?_⟩
 unfold pcT
 have e : List.range z.length = List.range n ++ (List.range (z.length - n)).map (n + ·) := by
  rw [← List.range_add]; congr 1; omega
 rw [e, List.flatMap_append, ← range_get z n hn]
 congr 1
 have : ∀ l : List Nat, (∀ i ∈ l, i < n) → l.flatMap (pcG true z) = l.map (fun i => z.getD i 0) := by
  intro l
  induction l with
  | nil => intro _; rfl
  | cons i l ih =>
   intro h
   have e2 : pcG true z i = [z.getD i 0] := by unfold pcG; rw [hM i (h i (by simp))]; rfl
   rw [List.flatMap_cons, e2, ih (fun j hj => h j (by simp [hj]))]
   rfl
 exact this _ (fun i hi => List.mem_range.1 hi)
theorem sch_none {y : Oc} (h : (y.filter spc).head? ≠ some 58) : (schemeM y).2 = false := by
 have e58 : ibM y 58 = Lib.indexByte y 58 := rfl
 unfold schemeM
 rcases ib_split y 58 with ⟨h1, h2⟩ | ⟨p, q, h1, h2, h3⟩
 · rw [e58, h1]; rfl
 · have et : (y.take (ibM y 58).toNat) = p := by rw [e58, h3, h1]; simp
   have e0 : decide (ibM y 58 < 0) = false := dF (by rw [e58, h3]; omega)
   rw [e0, et, Bool.false_or]
   cases ha : p.any scP with
   | true => rfl
   | false =>
    exfalso
    have hp : noSpc p := fun c hc => by
     rw [← scP_spc c (fun h => h2 (h ▸ hc))]
     simpa using List.any_eq_false.1 ha c hc
    rw [h1, List.filter_append, filt_no hp, List.nil_append, List.filter_cons_of_pos (by decide)] at h
    exact h rfl
theorem sch_head {s : Oc} (h : (schemeM s).2 = false) : (s.filter spc).head? ≠ some 58 := by
 have e58 : ibM s 58 = Lib.indexByte s 58 := rfl
 rcases ib_split s 58 with ⟨h1, h2⟩ | ⟨p, q, h1, h2, h3⟩
 · exact head_none h2
 · have et : (s.take (ibM s 58).toNat) = p := by rw [e58, h3, h1]; simp
   have e0 : decide (ibM s 58 < 0) = false := dF (by rw [e58, h3]; omega)
   unfold schemeM at h
   rw [e0, et, Bool.false_or] at h
   cases ha : p.any scP with
   | false => rw [ha] at h; cases h
   | true =>
    obtain ⟨c, hc, hc2⟩ := List.any_eq_true.1 ha
    rw [scP_spc c (fun h => h2 (h ▸ hc))] at hc2
    have hne : p.filter spc ≠ [] := fun h => by
     have := List.mem_filter.2 ⟨hc, hc2⟩
     rw [h] at this; cases this
    have hh := head_none h2
    rw [h1, List.filter_append]
    cases hpf : p.filter spc with
    | nil => exact absurd hpf hne
    | cons d t => rw [hpf] at hh; exact hh
def fltQ (s : Oc) : Oc := bif (schemeM s).2 && !alwM (schemeM s).1 then [35, 90, 103, 111, 116, 109, 112, 108, 90] else pcP true s
theorem flt_sch (s : Oc) : (bif !(schemeM (fltQ s)).2 then true else alwM (schemeM (fltQ s)).1) = true := by
 unfold fltQ
 cases h1 : (schemeM s).2 with
 | false =>
  rw [Bool.false_and, cond_false, sch_none (by rw [filt_pc]; exact sch_head h1)]
  rfl
 | true =>
  cases h2 : alwM (schemeM s).1 with
  | false =>
   show (bif !(schemeM [35, 90, 103, 111, 116, 109, 112, 108, 90]).2 then true else alwM (schemeM [35, 90, 103, 111, 116, 109, 112, 108, 90]).1) = true
   decide +kernel
  | true =>
   simp only [Bool.not_true, Bool.and_false, cond_false]
   have e58 : ibM s 58 = Lib.indexByte s 58 := rfl
   have hs1 := h1
   have hs2 := h2
   unfold schemeM at hs1 hs2
   rcases ib_split s 58 with ⟨g1, g2⟩ | ⟨p, q, g1, g2, g3⟩
   · rw [e58, g1] at hs1; cases hs1
   · have et : (s.take (ibM s 58).toNat) = p := by rw [e58, g3, g1]; simp
     have e0 : decide (ibM s 58 < 0) = false := dF (by rw [e58, g3]; omega)
     rw [e0, et, Bool.false_or] at hs1 hs2
     cases ha : p.any scP with
     | true => rw [ha] at hs1; cases hs1
     | false =>
      rw [ha] at hs2
      have hal : alwM (lowM p) = true := hs2
      have hlet : ∀ c ∈ p, 1 ≤ c.toNat ∧ c.toNat < 128 ∧ spc c = false ∧ unrM ((c.toNat : Nat) : Int) = true := fun c hc => lowLet_ok c (alw_let hal _ (List.mem_map_of_mem hc))
      have hz : rpP s = p ++ 58 :: rpP q := by
       rw [g1, rp_pre (fun c hc => ⟨(hlet c hc).1, (hlet c hc).2.1⟩), rp_ascC (by decide) (by decide)]
      have hget : ∀ i, i < p.length → (p ++ 58 :: rpP q).getD i 0 = p.getD i 0 := fun i hi => by
       rw [List.getD_eq_getElem?_getD, List.getD_eq_getElem?_getD, List.getElem?_append_left hi]
      have hmid : (p ++ 58 :: rpP q).getD p.length 0 = 58 := by
       rw [List.getD_eq_getElem?_getD, List.getElem?_append_right (Nat.le_refl _)]; simp
      obtain ⟨y, hy⟩ := pc_pre (p ++ 58 :: rpP q) (p.length + 1) (by simp) (fun i hi => by
       unfold pcMay
       by_cases hip : i < p.length
       · rw [hget i hip]
         have hu : unrM ((p.getD i 0).toNat : Int) = true := by
          refine (hlet _ ?_).2.2.2
          rw [List.getD_eq_getElem?_getD, List.getElem?_eq_getElem hip]
          exact List.getElem_mem hip
         rw [hu]; rfl
       · have : i = p.length := by omega
         subst this
         rw [hmid]
         have h58 : resM (((58 : UInt8).toNat : Nat) : Int) = true := by decide +kernel
         rw [h58]
         cases unrM (((58 : UInt8).toNat : Nat) : Int) <;> rfl)
      have e2 : pcP true s = p ++ 58 :: y := by
       unfold pcP
       rw [hz, hy]
       have : (p ++ 58 :: rpP q).take (p.length + 1) = p ++ [58] := by
        rw [List.take_append, List.take_of_length_le (by omega)]; simp
       rw [this, List.append_assoc]; rfl
      have e3 : schemeM (pcP true s) = (lowM p, true) := by
       rw [e2]
       unfold schemeM
       have f58 : ibM (p ++ 58 :: y) 58 = Lib.indexByte (p ++ 58 :: y) 58 := rfl
       rcases ib_split (p ++ 58 :: y) 58 with ⟨k1, k2⟩ | ⟨p2, q2, k1, k2, k3⟩
       · exact absurd (by simp) k2
       · have hp2 : p2 = p := by
          have := List.append_eq_append_iff.1 k1
          rcases this with ⟨a, b1, b2⟩ | ⟨a, b1, b2⟩
          · cases a with
            | nil => simpa using b1
            | cons c a =>
             exfalso
             have : c = 58 := by simp only [List.cons_append, List.cons.injEq] at b2; exact b2.1.symm
             subst this
             exact k2 (by rw [b1]; simp)
          · cases a with
            | nil => simpa using b1.symm
            | cons c a =>
             exfalso
             have : c = 58 := by simp only [List.cons_append, List.cons.injEq] at b2; exact b2.1.symm
             subst this
             exact g2 (by rw [b1]; simp)
         subst hp2
         have et2 : ((p2 ++ 58 :: y).take (ibM (p2 ++ 58 :: y) 58).toNat) = p2 := by rw [f58, k3]; simp
         have e02 : decide (ibM (p2 ++ 58 :: y) 58 < 0) = false := dF (by rw [f58, k3]; omega)
         rw [e02, et2, ha]
         rfl
      rw [e3]
      exact hal
end Go.Mu
namespace Go.Mu
open Go Go.Proofs
theorem Lay.OK.callH {P : Program} {L : Lay} (h : L.OK P) {f : FuncId} {xs : List AVal} {H : Heap} {o : Out} (F : Nat) (hr : ∀ k, iFun P (L.hd P) L.fhs F f xs H k = k o) : CallOK P f xs H o := by
 classical
 have hz : iFun P (L.hd P) L.fhs F f xs H (fun o' => if o' = o then some o else none) = some o := (hr _).trans (by simp)
 obtain ⟨o', h1, h2⟩ := iFun_sound h.hok (fun g => ⟨regions_ok h.hok _, h.l g⟩) hz
 split at h2
 · rename_i e; rw [← e]; exact h1
 · cases h2
theorem nm_asc : ∀ c : UInt8, rBadA c = false ∨ rDig c = true → 1 ≤ c.toNat ∧ c.toNat < 128 := oct256 (p := fun c => rBadA c = false ∨ rDig c = true → 1 ≤ c.toNat ∧ c.toNat < 128) (by decide +kernel)
theorem name_asc {k : Oc} (h : nameB k = true) : ∀ c ∈ k, 1 ≤ c.toNat ∧ c.toNat < 128 := fun c hc => by
 unfold nameB at h
 rw [Bool.and_eq_true, Bool.not_eq_true', List.any_eq_false] at h
 obtain ⟨i, hi, rfl⟩ := List.getElem_of_mem hc
 have h2 := h.2 i (List.mem_range.2 hi)
 unfold nmHit at h2
 have e : k.getD i 0 = k[i] := by rw [List.getD_eq_getElem?_getD, List.getElem?_eq_getElem hi]; rfl
 rw [e] at h2
 refine nm_asc _ ?_
 cases hb : rBadA k[i] with
 | false => exact .inl rfl
 | true =>
  rw [hb] at h2
  cases hd : rDig k[i] with
  | true => exact .inr rfl
  | false => rw [hd] at h2; simp at h2
theorem name_rp {k : Oc} (h : nameB k = true) : ((chP k).map encX).flatten = k := by
 have h2 := rp_pre (name_asc h) []
 rw [List.append_nil] at h2
 have h3 : rpP [] = [] := rfl
 rw [h3, List.append_nil] at h2
 rw [← List.flatMap_def]
 exact h2
theorem ri_name {ks : List Oc} (h : riB ks = true) (i : Nat) (hi : i < ks.length) : nameB (ks.getD i []) = true := by
 unfold riB at h
 rw [Bool.not_eq_true', List.any_eq_false] at h
 have h2 := h i (List.mem_range.2 hi)
 unfold riHit at h2
 cases hn : nameB (ks.getD i []) with
 | true => rfl
 | false => rw [hn] at h2; exact absurd rfl h2
theorem nameB_len {k : Oc} (h : nameB k = true) : k.length ≤ 32 := by
 unfold nameB at h
 rw [Bool.and_eq_true] at h
 exact (of_decide_eq_true h.1).2
theorem WkD_of {ks : List Oc} (f : Bool) (h : riB ks = true) (hl : ks.length ≤ 1099511627776) : WkD (encSs f ks) := by
 refine ⟨by rw [dec_ss]; exact hl, fun k hk => ?_, (can_ss f ks).symm⟩
 rw [dec_ss] at hk
 obtain ⟨i, hi, rfl⟩ := List.getElem_of_mem hk
 have h2 := nameB_len (ri_name h i hi)
 have e : ks.getD i [] = ks[i] := by rw [List.getD_eq_getElem?_getD, List.getElem?_eq_getElem hi]; rfl
 rw [e] at h2
 omega
theorem keys_of {d : Nat} {V : Oc → Int → VaD} {v : VaD} {s r : Oc} {a : Int} (hs : s.length ≤ 67108864) (h0 : 0 ≤ a) (h : s.drop a.toNat = itmsQ (litQ d) v (vals v.list) ++ 125 :: r) (hk : v.kind = 6) (hkl : v.keys.length = (vals v.list).length) (hr : riB v.keys = true)
 (hG : ∀ w ∈ vals v.list, ∃ l, Good d w l) : (itV V 6 s [125] a).keys = v.keys := by
 have hE := (itE_of hs h0 (.inr rfl) h (.inr hk) (fun _ => hkl) hG).2
 by_cases hL : vals v.list = []
 · unfold itV
   rw [if_pos (hE.2 hL)]
   rw [hL] at hkl
   exact (List.length_eq_zero_iff.1 hkl).symm
 · unfold itV
   rw [if_neg (fun hh => hL (hE.1 hh))]
   show (if (6 : Int) = 6 then (List.range (cntI 6 s [125] a)).map (keyI 6 s a) else []) = v.keys
   rw [if_pos rfl]
   have hc := cnt_of hs h0 hL (.inr rfl) h (.inr hk) (fun _ => hkl)
   rw [hk] at hc
   rw [hc, ← hkl]
   refine List.ext_getElem (by simp) (fun i h1 h2 => ?_)
   rw [List.getElem_map, List.getElem_range]
   obtain ⟨hA, hp⟩ := at_pos hs h0 hL (.inr rfl) h (.inr hk) (fun _ => hkl) i (by omega)
   obtain ⟨_, _, _, _, a5⟩ := at_nx hs hA (.inr hk) (fun _ => h2) (rest_dlm r (.inr rfl) (by omega))
   have a6 := (a5 hk).2.2.1
   rw [hk] at a6
   show TS s (posI 6 s a i + 1) = _
   rw [a6, name_rp (ri_name hr i h2), List.getD_eq_getElem?_getD, List.getElem?_eq_getElem h2]; rfl
theorem tw_print {n : Int} {r : Oc} (hr : dlm r = true) : (printM n ++ r).takeWhile dgN = printM n := by
 rw [List.takeWhile_append_of_pos (print_dg n)]
 have : r.takeWhile dgN = [] := by
  cases r with
  | nil => rfl
  | cons c r =>
   have h : (c == 44 || c == 93 || c == 125) = true := hr
   rw [List.takeWhile_cons]
   have : dgN c = false := by
    cases hd : dgN c with
    | false => rfl
    | true =>
     have := dgN_not c hd
     simp only [Bool.or_eq_true, beq_iff_eq] at h
     rcases h with (h | h) | h
     · exact absurd h this.2.2.2.2.2.2.2.2.2
     · exact absurd h this.2.2.2.2.2.2.1
     · exact absurd h this.2.2.2.2.2.2.2.1
   rw [this]; rfl
 rw [this, List.append_nil]
def litN (n : Int) : Oc := if n < 0 then 32 :: printM n else printM n
theorem num_of {n : Int} {r : Oc} (hr : dlm r = true) : numS (litN n ++ r) = printM n ∧ hpP [32] (litN n ++ r) = decide (n < 0) ∧ lenN (litN n ++ r) = (litN n).length := by
 unfold litN
 by_cases h : n < 0
 · rw [if_pos h, dT h]
   have e : hpP [32] (32 :: printM n ++ r) = true := hp1_yes 32 _
   have ed : (32 :: printM n ++ r).drop 1 = printM n ++ r := rfl
   refine ⟨?_, e, ?_⟩
   · unfold numS; rw [e, cond_true, ed, tw_print hr]
   · unfold lenN spanN; rw [e, cond_true, ed, tw_print hr]; rfl
 · rw [if_neg h, dF h]
   have e : hpP [32] (printM n ++ r) = false := by
    obtain ⟨c, t, ec, hc⟩ := print_ne n
    rw [ec]
    exact hp1_no (dgN_not c hc).2.2.2.2.2.2.2.2.1 _
   refine ⟨?_, e, ?_⟩
   · unfold numS; rw [e, cond_false, tw_print hr]
   · unfold lenN spanN; rw [e, cond_false, tw_print hr]
theorem litN_head (n : Int) (r : Oc) : ∃ c t, litN n ++ r = c :: t ∧ c ≠ 110 ∧ c ≠ 102 ∧ c ≠ 116 ∧ c ≠ 34 ∧ c ≠ 91 ∧ c ≠ 123 := by
 unfold litN
 by_cases h : n < 0
 · rw [if_pos h]
   exact ⟨32, printM n ++ r, rfl, by decide, by decide, by decide, by decide, by decide, by decide⟩
 · rw [if_neg h]
   obtain ⟨c, t, ec, hc⟩ := print_ne n
   have := dgN_not c hc
   exact ⟨c, t ++ r, by rw [ec]; rfl, this.1, this.2.1, this.2.2.1, this.2.2.2.1, this.2.2.2.2.1, this.2.2.2.2.2.1⟩
def KDg (s : Oc) (a : Int) : Prop := 0 ≤ a ∧ a ≤ s.length ∧ s.length ≤ 1099511627776 ∧ (numM (numS (s.drop a.toNat))).2 = 0 ∧ hpP [32] (s.drop a.toNat) = decide ((numM (numS (s.drop a.toNat))).1 < 0)
def VDg (s : Oc) (a : Int) : VaD := numV (s.drop a.toNat)
def EDg (s : Oc) (a : Int) : Int := a + lenN (s.drop a.toNat)
theorem dgtTold_ok : ∀ xs H k out, dgtTold KDg VDg EDg xs H k = some out → ∃ o, CallOK Tryz.prog 124 xs H o ∧ k o = some out := mkF_ok fun x h => ⟨_, fun k => rfl, frame4 (digits_ok x.s x.a h.1.1 h.1.2.1 h.1.2.2.1 h.1.2.2.2.1 h.1.2.2.2.2) refs_1 x.G h.2⟩
noncomputable abbrev layVd (d : Nat) : Lay := layVl KS TS ES (KItE d) (fun x => itV (VV d) x.kd x.s x.e x.a) (fun x => itE x.kd x.s x.e x.a) WkD riX KDg VDg EDg
theorem layVd_ok (d : Nat) (hV : ∀ xs H k out, rvlTold (KV d) (VX d) EV xs H k = some out → ∃ o, CallOK Tryz.prog 102 xs H o ∧ k o = some out) : (layVd d).OK Tryz.prog :=
 ((((Lay.nil_ok.addF tkTold_ok).addF rstTold_ok).addF (itmTold_ok d hV)).addF rgTold_ok).addF dgtTold_ok
theorem val_null (d : Nat) (hV : ∀ xs H k out, rvlTold (KV d) (VX d) EV xs H k = some out → ∃ o, CallOK Tryz.prog 102 xs H o ∧ k o = some out) (s : Oc) (a l : Int) (h0 : 0 ≤ a) (h1 : a ≤ s.length) (hs : s.length ≤ 67108864) (y : hpP [110, 117, 108, 108] (s.drop a.toNat) = true) :
 CallOK Tryz.prog 102 [.ptr (.hp 3) 0, .int .i64 l] (heap4 s a) (.ret (.agg (leafC 0 0 [])) (heap4 s (a + 4))) := by
 refine (layVd_ok d hV).callH 5 (fun k => (value_fun KS TS ES (KItE d) (fun x => itV (VV d) x.kd x.s x.e x.a) (fun x => itE x.kd x.s x.e x.a) WkD riX KDg VDg EDg s a l k).trans ?_)
 refine cT (tst_true ⟨⟨h0, h1, (by omega : s.length ≤ 1099511627776), by decide, nl_nil⟩, .refl _, rfl⟩) ?_
 refine cU y ?_
 rfl
theorem val_false (d : Nat) (hV : ∀ xs H k out, rvlTold (KV d) (VX d) EV xs H k = some out → ∃ o, CallOK Tryz.prog 102 xs H o ∧ k o = some out) (s : Oc) (a l : Int) (h0 : 0 ≤ a) (h1 : a ≤ s.length) (hs : s.length ≤ 67108864) (n0 : hpP [110, 117, 108, 108] (s.drop a.toNat) = false) (y : hpP [102, 97, 108, 115, 101] (s.drop a.toNat) = true) :
 CallOK Tryz.prog 102 [.ptr (.hp 3) 0, .int .i64 l] (heap4 s a) (.ret (.agg (leafC 1 0 [])) (heap4 s (a + 5))) := by
 refine (layVd_ok d hV).callH 5 (fun k => (value_fun KS TS ES (KItE d) (fun x => itV (VV d) x.kd x.s x.e x.a) (fun x => itE x.kd x.s x.e x.a) WkD riX KDg VDg EDg s a l k).trans ?_)
 refine cT (tst_true ⟨⟨h0, h1, (by omega : s.length ≤ 1099511627776), by decide, nl_nil⟩, .refl _, rfl⟩) ?_
 refine cF n0 ?_
 refine cT (tst_true ⟨⟨h0, h1, (by omega : s.length ≤ 1099511627776), by decide, nl_nil⟩, .refl _, rfl⟩) ?_
 refine cU y ?_
 rfl
theorem val_true (d : Nat) (hV : ∀ xs H k out, rvlTold (KV d) (VX d) EV xs H k = some out → ∃ o, CallOK Tryz.prog 102 xs H o ∧ k o = some out) (s : Oc) (a l : Int) (h0 : 0 ≤ a) (h1 : a ≤ s.length) (hs : s.length ≤ 67108864) (n0 : hpP [110, 117, 108, 108] (s.drop a.toNat) = false) (n1 : hpP [102, 97, 108, 115, 101] (s.drop a.toNat) = false) (y : hpP [116, 114, 117, 101] (s.drop a.toNat) = true) :
 CallOK Tryz.prog 102 [.ptr (.hp 3) 0, .int .i64 l] (heap4 s a) (.ret (.agg (leafC 2 0 [])) (heap4 s (a + 4))) := by
 refine (layVd_ok d hV).callH 5 (fun k => (value_fun KS TS ES (KItE d) (fun x => itV (VV d) x.kd x.s x.e x.a) (fun x => itE x.kd x.s x.e x.a) WkD riX KDg VDg EDg s a l k).trans ?_)
 refine cT (tst_true ⟨⟨h0, h1, (by omega : s.length ≤ 1099511627776), by decide, nl_nil⟩, .refl _, rfl⟩) ?_
 refine cF n0 ?_
 refine cT (tst_true ⟨⟨h0, h1, (by omega : s.length ≤ 1099511627776), by decide, nl_nil⟩, .refl _, rfl⟩) ?_
 refine cF n1 ?_
 refine cT (tst_true ⟨⟨h0, h1, (by omega : s.length ≤ 1099511627776), by decide, nl_nil⟩, .refl _, rfl⟩) ?_
 refine cU y ?_
 rfl
theorem val_str (d : Nat) (hV : ∀ xs H k out, rvlTold (KV d) (VX d) EV xs H k = some out → ∃ o, CallOK Tryz.prog 102 xs H o ∧ k o = some out) (s : Oc) (a l : Int) (h0 : 0 ≤ a) (h1 : a ≤ s.length) (hs : s.length ≤ 67108864) (n0 : hpP [110, 117, 108, 108] (s.drop a.toNat) = false) (n1 : hpP [102, 97, 108, 115, 101] (s.drop a.toNat) = false) (n2 : hpP [116, 114, 117, 101] (s.drop a.toNat) = false) (y : hpP [34] (s.drop a.toNat) = true) (hK : KS s (a + 1)) :
 CallOK Tryz.prog 102 [.ptr (.hp 3) 0, .int .i64 l] (heap4 s a) (.ret (.agg (leafC 4 0 (TS s (a + 1)))) (heap4 s (ES s (a + 1)))) := by
 refine (layVd_ok d hV).callH 5 (fun k => (value_fun KS TS ES (KItE d) (fun x => itV (VV d) x.kd x.s x.e x.a) (fun x => itE x.kd x.s x.e x.a) WkD riX KDg VDg EDg s a l k).trans ?_)
 refine cT (tst_true ⟨⟨h0, h1, (by omega : s.length ≤ 1099511627776), by decide, nl_nil⟩, .refl _, rfl⟩) ?_
 refine cF n0 ?_
 refine cT (tst_true ⟨⟨h0, h1, (by omega : s.length ≤ 1099511627776), by decide, nl_nil⟩, .refl _, rfl⟩) ?_
 refine cF n1 ?_
 refine cT (tst_true ⟨⟨h0, h1, (by omega : s.length ≤ 1099511627776), by decide, nl_nil⟩, .refl _, rfl⟩) ?_
 refine cF n2 ?_
 refine cT (tst_true ⟨⟨h0, h1, (by omega : s.length ≤ 1099511627776), by decide, nl_nil⟩, .refl _, rfl⟩) ?_
 refine cU y ?_
 refine cT (tst_true ⟨⟨hK, nl_nil⟩, .refl _, rfl⟩) ?_
 rfl
theorem val_list (d : Nat) (hV : ∀ xs H k out, rvlTold (KV d) (VX d) EV xs H k = some out → ∃ o, CallOK Tryz.prog 102 xs H o ∧ k o = some out) (s : Oc) (a l : Int) (h0 : 0 ≤ a) (h1 : a ≤ s.length) (hs : s.length ≤ 67108864) (n0 : hpP [110, 117, 108, 108] (s.drop a.toNat) = false) (n1 : hpP [102, 97, 108, 115, 101] (s.drop a.toNat) = false) (n2 : hpP [116, 114, 117, 101] (s.drop a.toNat) = false) (n3 : hpP [34] (s.drop a.toNat) = false) (y : hpP [91] (s.drop a.toNat) = true) (hK : KItE d ⟨s, a + 1, [93], l, 5⟩) :
 CallOK Tryz.prog 102 [.ptr (.hp 3) 0, .int .i64 l] (heap4 s a) (.ret (.agg (encVa (itV (VV d) 5 s [93] (a + 1)))) (heap4 s (itE 5 s [93] (a + 1)))) := by
 refine (layVd_ok d hV).callH 5 (fun k => (value_fun KS TS ES (KItE d) (fun x => itV (VV d) x.kd x.s x.e x.a) (fun x => itE x.kd x.s x.e x.a) WkD riX KDg VDg EDg s a l k).trans ?_)
 refine cT (tst_true ⟨⟨h0, h1, (by omega : s.length ≤ 1099511627776), by decide, nl_nil⟩, .refl _, rfl⟩) ?_
 refine cF n0 ?_
 refine cT (tst_true ⟨⟨h0, h1, (by omega : s.length ≤ 1099511627776), by decide, nl_nil⟩, .refl _, rfl⟩) ?_
 refine cF n1 ?_
 refine cT (tst_true ⟨⟨h0, h1, (by omega : s.length ≤ 1099511627776), by decide, nl_nil⟩, .refl _, rfl⟩) ?_
 refine cF n2 ?_
 refine cT (tst_true ⟨⟨h0, h1, (by omega : s.length ≤ 1099511627776), by decide, nl_nil⟩, .refl _, rfl⟩) ?_
 refine cF n3 ?_
 refine cT (tst_true ⟨⟨h0, h1, (by omega : s.length ≤ 1099511627776), by decide, nl_nil⟩, .refl _, rfl⟩) ?_
 refine cU y ?_
 refine cT (tst_true ⟨hK, .refl _, rfl⟩) ?_
 rfl
theorem val_rec (d : Nat) (hV : ∀ xs H k out, rvlTold (KV d) (VX d) EV xs H k = some out → ∃ o, CallOK Tryz.prog 102 xs H o ∧ k o = some out) (s : Oc) (a l : Int) (h0 : 0 ≤ a) (h1 : a ≤ s.length) (hs : s.length ≤ 67108864) (n0 : hpP [110, 117, 108, 108] (s.drop a.toNat) = false) (n1 : hpP [102, 97, 108, 115, 101] (s.drop a.toNat) = false) (n2 : hpP [116, 114, 117, 101] (s.drop a.toNat) = false) (n3 : hpP [34] (s.drop a.toNat) = false) (n4 : hpP [91] (s.drop a.toNat) = false) (y : hpP [123] (s.drop a.toNat) = true) (hK : KItE d ⟨s, a + 1, [125], l, 6⟩) (hW : WkD (encSs (itV (VV d) 6 s [125] (a + 1)).kf (itV (VV d) 6 s [125] (a + 1)).keys)) (hR : riX (encSs (itV (VV d) 6 s [125] (a + 1)).kf (itV (VV d) 6 s [125] (a + 1)).keys) = true) :
 CallOK Tryz.prog 102 [.ptr (.hp 3) 0, .int .i64 l] (heap4 s a) (.ret (.agg (encVa (itV (VV d) 6 s [125] (a + 1)))) (heap4 s (itE 6 s [125] (a + 1)))) := by
 refine (layVd_ok d hV).callH 5 (fun k => (value_fun KS TS ES (KItE d) (fun x => itV (VV d) x.kd x.s x.e x.a) (fun x => itE x.kd x.s x.e x.a) WkD riX KDg VDg EDg s a l k).trans ?_)
 refine cT (tst_true ⟨⟨h0, h1, (by omega : s.length ≤ 1099511627776), by decide, nl_nil⟩, .refl _, rfl⟩) ?_
 refine cF n0 ?_
 refine cT (tst_true ⟨⟨h0, h1, (by omega : s.length ≤ 1099511627776), by decide, nl_nil⟩, .refl _, rfl⟩) ?_
 refine cF n1 ?_
 refine cT (tst_true ⟨⟨h0, h1, (by omega : s.length ≤ 1099511627776), by decide, nl_nil⟩, .refl _, rfl⟩) ?_
 refine cF n2 ?_
 refine cT (tst_true ⟨⟨h0, h1, (by omega : s.length ≤ 1099511627776), by decide, nl_nil⟩, .refl _, rfl⟩) ?_
 refine cF n3 ?_
 refine cT (tst_true ⟨⟨h0, h1, (by omega : s.length ≤ 1099511627776), by decide, nl_nil⟩, .refl _, rfl⟩) ?_
 refine cF n4 ?_
 refine cT (tst_true ⟨⟨h0, h1, (by omega : s.length ≤ 1099511627776), by decide, nl_nil⟩, .refl _, rfl⟩) ?_
 refine cU y ?_
 refine cT (tst_true ⟨hK, .refl _, rfl⟩) ?_
 refine cT (tst_true ⟨hW, (show SubL [encSs (itV (VV d) 6 s [125] (a + 1)).kf (itV (VV d) 6 s [125] (a + 1)).keys] [canK (encSs (itV (VV d) 6 s [125] (a + 1)).kf (itV (VV d) 6 s [125] (a + 1)).keys)] by rw [can_ss]; exact .refl _), rfl⟩) ?_
 refine cF (show (!riX (encSs (itV (VV d) 6 s [125] (a + 1)).kf (itV (VV d) 6 s [125] (a + 1)).keys)) = false by rw [hR]; rfl) ?_
 rfl
theorem val_num (d : Nat) (hV : ∀ xs H k out, rvlTold (KV d) (VX d) EV xs H k = some out → ∃ o, CallOK Tryz.prog 102 xs H o ∧ k o = some out) (s : Oc) (a l : Int) (h0 : 0 ≤ a) (h1 : a ≤ s.length) (hs : s.length ≤ 67108864) (n0 : hpP [110, 117, 108, 108] (s.drop a.toNat) = false) (n1 : hpP [102, 97, 108, 115, 101] (s.drop a.toNat) = false) (n2 : hpP [116, 114, 117, 101] (s.drop a.toNat) = false) (n3 : hpP [34] (s.drop a.toNat) = false) (n4 : hpP [91] (s.drop a.toNat) = false) (n5 : hpP [123] (s.drop a.toNat) = false) (hK : KDg s a) :
 CallOK Tryz.prog 102 [.ptr (.hp 3) 0, .int .i64 l] (heap4 s a) (.ret (.agg (encVa (VDg s a))) (heap4 s (EDg s a))) := by
 refine (layVd_ok d hV).callH 5 (fun k => (value_fun KS TS ES (KItE d) (fun x => itV (VV d) x.kd x.s x.e x.a) (fun x => itE x.kd x.s x.e x.a) WkD riX KDg VDg EDg s a l k).trans ?_)
 refine cT (tst_true ⟨⟨h0, h1, (by omega : s.length ≤ 1099511627776), by decide, nl_nil⟩, .refl _, rfl⟩) ?_
 refine cF n0 ?_
 refine cT (tst_true ⟨⟨h0, h1, (by omega : s.length ≤ 1099511627776), by decide, nl_nil⟩, .refl _, rfl⟩) ?_
 refine cF n1 ?_
 refine cT (tst_true ⟨⟨h0, h1, (by omega : s.length ≤ 1099511627776), by decide, nl_nil⟩, .refl _, rfl⟩) ?_
 refine cF n2 ?_
 refine cT (tst_true ⟨⟨h0, h1, (by omega : s.length ≤ 1099511627776), by decide, nl_nil⟩, .refl _, rfl⟩) ?_
 refine cF n3 ?_
 refine cT (tst_true ⟨⟨h0, h1, (by omega : s.length ≤ 1099511627776), by decide, nl_nil⟩, .refl _, rfl⟩) ?_
 refine cF n4 ?_
 refine cT (tst_true ⟨⟨h0, h1, (by omega : s.length ≤ 1099511627776), by decide, nl_nil⟩, .refl _, rfl⟩) ?_
 refine cF n5 ?_
 refine cT (tst_true ⟨⟨hK, nl_nil⟩, .refl _, rfl⟩) ?_
 rfl
end Go.Mu
namespace Go.Mu
open Go Go.Proofs
theorem val_ok (d : Nat) (hV : ∀ xs H k out, rvlTold (KV d) (VX d) EV xs H k = some out → ∃ o, CallOK Tryz.prog 102 xs H o ∧ k o = some out) (s : Oc) (a l : Int) (h : KV (d + 1) s a l) :
 CallOK Tryz.prog 102 [.ptr (.hp 3) 0, .int .i64 l] (heap4 s a) (.ret (.agg (encVa (VV (d + 1) s a))) (heap4 s (EV s a))) := by
 obtain ⟨h0, hs, v, r, hg, hd, hr⟩ := h
 have h1 : a ≤ s.length := by
  obtain ⟨c, t, e, _⟩ := lit_head hg
  have h2 := congrArg List.length hd
  rw [e, List.length_drop, List.length_append, List.length_cons] at h2
  omega
 have eE := EV_of hd hr
 obtain ⟨g0, g6, gi, gL, gK⟩ := hg
 have eV : VV (d + 1) s a = if hpP [110, 117, 108, 108] (s.drop a.toNat) = true then leafW 0 0 [] else if hpP [102, 97, 108, 115, 101] (s.drop a.toNat) = true then leafW 1 0 [] else if hpP [116, 114, 117, 101] (s.drop a.toNat) = true then leafW 2 0 [] else
  if hpP [34] (s.drop a.toNat) = true then leafW 4 0 (TS s (a + 1)) else if hpP [91] (s.drop a.toNat) = true then itV (VV d) 5 s [93] (a + 1) else if hpP [123] (s.drop a.toNat) = true then itV (VV d) 6 s [125] (a + 1) else numV (s.drop a.toNat) := rfl
 have no : ∀ {p : Oc}, hpP p (s.drop a.toNat) = false → ¬ hpP p (s.drop a.toNat) = true := fun h h2 => by rw [h] at h2; cases h2
 have eL : litQ (d + 1) v = if v.kind = 0 then [110, 117, 108, 108] else if v.kind = 1 then [102, 97, 108, 115, 101] else if v.kind = 2 then [116, 114, 117, 101] else if v.kind = 3 then (if v.int < 0 then 32 :: printM v.int else printM v.int)
  else if v.kind = 5 then 91 :: (itmsQ (litQ d) v (vals v.list) ++ [93]) else if v.kind = 6 then 123 :: (itmsQ (litQ d) v (vals v.list) ++ [125]) else quoQ v.text := rfl
 rw [eE]
 by_cases k0 : v.kind = 0
 · rw [if_pos k0] at eL
   rw [eL] at hd ⊢
   have y : hpP [110, 117, 108, 108] (s.drop a.toNat) = true := by rw [hd]; exact hpP_yes _ _
   rw [if_pos y] at eV
   rw [eV]
   exact (val_null d hV s a l h0 h1 hs y).sub (.refl _) ⟨leafC_sub _ _ _, rfl⟩
 rw [if_neg k0] at eL
 by_cases k1 : v.kind = 1
 · rw [if_pos k1] at eL
   rw [eL] at hd ⊢
   have n0 : hpP [110, 117, 108, 108] (s.drop a.toNat) = false := by rw [hd]; exact hpP_no (by decide) _ _
   have y : hpP [102, 97, 108, 115, 101] (s.drop a.toNat) = true := by rw [hd]; exact hpP_yes _ _
   rw [if_neg (no n0), if_pos y] at eV
   rw [eV]
   exact (val_false d hV s a l h0 h1 hs n0 y).sub (.refl _) ⟨leafC_sub _ _ _, rfl⟩
 rw [if_neg k1] at eL
 by_cases k2 : v.kind = 2
 · rw [if_pos k2] at eL
   rw [eL] at hd ⊢
   have n0 : hpP [110, 117, 108, 108] (s.drop a.toNat) = false := by rw [hd]; exact hpP_no (by decide) _ _
   have n1 : hpP [102, 97, 108, 115, 101] (s.drop a.toNat) = false := by rw [hd]; exact hpP_no (by decide) _ _
   have y : hpP [116, 114, 117, 101] (s.drop a.toNat) = true := by rw [hd]; exact hpP_yes _ _
   rw [if_neg (no n0), if_neg (no n1), if_pos y] at eV
   rw [eV]
   exact (val_true d hV s a l h0 h1 hs n0 n1 y).sub (.refl _) ⟨leafC_sub _ _ _, rfl⟩
 rw [if_neg k2] at eL
 by_cases k3 : v.kind = 3
 · rw [if_pos k3] at eL
   have eL : litQ (d + 1) v = litN v.int := eL
   rw [eL] at hd ⊢
   obtain ⟨c, t, ec, c1, c2, c3, c4, c5, c6⟩ := litN_head v.int r
   obtain ⟨m1, m2, m3⟩ := num_of (n := v.int) hr
   have hp := numM_print v.int gi.1 gi.2
   rw [ec] at hd
   rw [ec] at m1 m2 m3
   have n0 : hpP [110, 117, 108, 108] (s.drop a.toNat) = false := by rw [hd]; exact hpP_no c1 _ _
   have n1 : hpP [102, 97, 108, 115, 101] (s.drop a.toNat) = false := by rw [hd]; exact hpP_no c2 _ _
   have n2 : hpP [116, 114, 117, 101] (s.drop a.toNat) = false := by rw [hd]; exact hpP_no c3 _ _
   have n3 : hpP [34] (s.drop a.toNat) = false := by rw [hd]; exact hpP_no c4 _ _
   have n4 : hpP [91] (s.drop a.toNat) = false := by rw [hd]; exact hpP_no c5 _ _
   have n5 : hpP [123] (s.drop a.toNat) = false := by rw [hd]; exact hpP_no c6 _ _
   rw [if_neg (no n0), if_neg (no n1), if_neg (no n2), if_neg (no n3), if_neg (no n4), if_neg (no n5)] at eV
   rw [eV]
   have hK : KDg s a := ⟨h0, h1, by omega, by rw [hd, m1, hp], by rw [hd, m1, m2, hp]⟩
   have key := val_num d hV s a l h0 h1 hs n0 n1 n2 n3 n4 n5 hK
   have e2 : EDg s a = a + ((litN v.int).length : Nat) := by unfold EDg; rw [hd, m3]
   rw [e2] at key
   exact key
 rw [if_neg k3] at eL
 by_cases k5 : v.kind = 5
 · rw [if_pos k5] at eL
   rw [eL] at hd ⊢
   obtain ⟨hl, hG⟩ := gL (.inl k5)
   have n0 : hpP [110, 117, 108, 108] (s.drop a.toNat) = false := by rw [hd]; exact hpP_no (by decide) _ _
   have n1 : hpP [102, 97, 108, 115, 101] (s.drop a.toNat) = false := by rw [hd]; exact hpP_no (by decide) _ _
   have n2 : hpP [116, 114, 117, 101] (s.drop a.toNat) = false := by rw [hd]; exact hpP_no (by decide) _ _
   have n3 : hpP [34] (s.drop a.toNat) = false := by rw [hd]; exact hpP_no (by decide) _ _
   have y : hpP [91] (s.drop a.toNat) = true := by rw [hd]; exact hp1_yes 91 _
   rw [if_neg (no n0), if_neg (no n1), if_neg (no n2), if_neg (no n3), if_pos y] at eV
   rw [eV]
   have hd2 : s.drop (a + 1).toNat = itmsQ (litQ d) v (vals v.list) ++ 93 :: r := drop_adv (x := [91]) h0 (by rw [hd]; simp)
   have hK : KItE d ⟨s, a + 1, [93], l, 5⟩ := ⟨.inl rfl, hl, hs, by show 0 ≤ a + 1; omega, v, 93, r, k5, hG, fun h => absurd (show (5 : Int) = 6 from h) (by decide), rfl, .inl rfl, hd2⟩
   have key := val_list d hV s a l h0 h1 hs n0 n1 n2 n3 y hK
   have hE := (itE_of hs (show 0 ≤ a + 1 by omega) (.inl rfl) hd2 (.inl k5) (fun h => by omega) (fun w hw => ⟨_, hG w hw⟩)).1
   rw [k5] at hE
   have e3 : a + 1 + (((itmsQ (litQ d) v (vals v.list)).length + 1 : Nat) : Int) = a + (((91 :: (itmsQ (litQ d) v (vals v.list) ++ [93]) : Oc).length : Nat) : Int) := by
    simp only [List.length_cons, List.length_append, List.length_nil]; omega
   rw [hE, e3] at key
   exact key
 rw [if_neg k5] at eL
 by_cases k6 : v.kind = 6
 · rw [if_pos k6] at eL
   rw [eL] at hd ⊢
   obtain ⟨hl, hG⟩ := gL (.inr k6)
   obtain ⟨hkl, hri⟩ := gK k6
   have n0 : hpP [110, 117, 108, 108] (s.drop a.toNat) = false := by rw [hd]; exact hpP_no (by decide) _ _
   have n1 : hpP [102, 97, 108, 115, 101] (s.drop a.toNat) = false := by rw [hd]; exact hpP_no (by decide) _ _
   have n2 : hpP [116, 114, 117, 101] (s.drop a.toNat) = false := by rw [hd]; exact hpP_no (by decide) _ _
   have n3 : hpP [34] (s.drop a.toNat) = false := by rw [hd]; exact hpP_no (by decide) _ _
   have n4 : hpP [91] (s.drop a.toNat) = false := by rw [hd]; exact hpP_no (by decide) _ _
   have y : hpP [123] (s.drop a.toNat) = true := by rw [hd]; exact hp1_yes 123 _
   rw [if_neg (no n0), if_neg (no n1), if_neg (no n2), if_neg (no n3), if_neg (no n4), if_pos y] at eV
   rw [eV]
   have hd2 : s.drop (a + 1).toNat = itmsQ (litQ d) v (vals v.list) ++ 125 :: r := drop_adv (x := [123]) h0 (by rw [hd]; simp)
   have hK : KItE d ⟨s, a + 1, [125], l, 6⟩ := ⟨.inr rfl, hl, hs, by show 0 ≤ a + 1; omega, v, 125, r, k6, hG, fun _ => hkl, rfl, .inr rfl, hd2⟩
   have hk := keys_of (V := VV d) hs (show 0 ≤ a + 1 by omega) hd2 k6 hkl hri (fun w hw => ⟨_, hG w hw⟩)
   have hkl2 : v.keys.length ≤ 1099511627776 := by
    rw [hkl]
    by_cases hL : vals v.list = []
    · rw [hL]; simp
    · have hp := at_pos hs (show 0 ≤ a + 1 by omega) hL (.inr rfl) hd2 (.inr k6) (fun _ => hkl) ((vals v.list).length - 1) (by have := List.length_pos_iff.2 hL; omega)
      have := List.length_pos_iff.2 hL
      have h3 := (itm_at hs (show 0 ≤ a + 1 by omega) hL (.inr rfl) hd2 (.inr k6) (fun _ => hkl) hG ((vals v.list).length - 1) (by omega)).1.2
      omega
   have hW : WkD (encSs (itV (VV d) 6 s [125] (a + 1)).kf (itV (VV d) 6 s [125] (a + 1)).keys) := by rw [hk]; exact WkD_of _ hri hkl2
   have hR : riX (encSs (itV (VV d) 6 s [125] (a + 1)).kf (itV (VV d) 6 s [125] (a + 1)).keys) = true := by unfold riX; rw [dec_ss, hk]; exact hri
   have key := val_rec d hV s a l h0 h1 hs n0 n1 n2 n3 n4 y hK hW hR
   have hE := (itE_of hs (show 0 ≤ a + 1 by omega) (.inr rfl) hd2 (.inr k6) (fun _ => hkl) (fun w hw => ⟨_, hG w hw⟩)).1
   rw [k6] at hE
   have e3 : a + 1 + (((itmsQ (litQ d) v (vals v.list)).length + 1 : Nat) : Int) = a + (((123 :: (itmsQ (litQ d) v (vals v.list) ++ [125]) : Oc).length : Nat) : Int) := by
    simp only [List.length_cons, List.length_append, List.length_nil]; omega
   rw [hE, e3] at key
   exact key
 rw [if_neg k6] at eL
 rw [eL] at hd ⊢
 have n0 : hpP [110, 117, 108, 108] (s.drop a.toNat) = false := by rw [hd]; exact hpP_no (by decide) _ _
 have n1 : hpP [102, 97, 108, 115, 101] (s.drop a.toNat) = false := by rw [hd]; exact hpP_no (by decide) _ _
 have n2 : hpP [116, 114, 117, 101] (s.drop a.toNat) = false := by rw [hd]; exact hpP_no (by decide) _ _
 have y : hpP [34] (s.drop a.toNat) = true := by rw [hd]; exact hp1_yes 34 _
 rw [if_neg (no n0), if_neg (no n1), if_neg (no n2), if_pos y] at eV
 rw [eV]
 have hd2 : s.drop (a + 1).toNat = inP v.text ++ 34 :: r := drop_adv (x := [34]) h0 (by rw [hd]; unfold quoQ; simp)
 obtain ⟨q1, q2, q3⟩ := KS_of v.text (show 0 ≤ a + 1 by omega) hs hd2
 have key := val_str d hV s a l h0 h1 hs n0 n1 n2 y q1
 have e3 : a + 1 + ((((inP v.text).length + 1 : Nat)) : Int) = a + (((quoQ v.text).length : Nat) : Int) := by
  unfold quoQ
  simp only [List.length_cons, List.length_append, List.length_nil]; omega
 rw [q2, e3] at key
 exact key.sub (.refl _) ⟨leafC_sub _ _ _, rfl⟩
theorem rvlTold_ok : ∀ (d : Nat) xs H k out, rvlTold (KV d) (VX d) EV xs H k = some out → ∃ o, CallOK Tryz.prog 102 xs H o ∧ k o = some out
 | 0 => mkF_ok fun x h => by
  obtain ⟨_, _, v, r, hg, _⟩ := h.1
  exact hg.elim
 | d + 1 => mkF_ok fun x h => ⟨_, fun k => rfl, frame4 (val_ok d (rvlTold_ok d) x.s x.a x.l h.1) (refs_i x.l) x.G h.2⟩
theorem read_ok (d : Nat) (v : VaD) (hg : Good d v 16) (hl : (litQ d v).length ≤ 67108864) : CallOK Tryz.prog 73 [.str (litQ d v)] [] (.ret (.tuple [.agg (encVa (VV d (litQ d v) 0)), .int .i64 ((litQ d v).length : Nat), .int .i64 0]) []) := by
 have hK : KV d (litQ d v) 0 16 := ⟨by decide, hl, v, [], hg, by simp, rfl⟩
 have hE : EV (litQ d v) 0 = (((litQ d v).length : Nat) : Int) := by
  rw [EV_of (d := d) (v := v) (r := []) (by simp) rfl]; omega
 have hL : (layRead (KV d) (VX d) EV).OK Tryz.prog := heap_ok (Lay.nil_ok.addF (rvlTold_ok d)) (by kernel_rfl)
 refine hL.callF (G := [.var (encVa (VV d (litQ d v) 0)), .var [.int .i64 ((litQ d v).length : Nat)], .var [.int .i64 0], .var [.str (litQ d v), .int .i64 (EV (litQ d v) 0)]]) rfl (fun k => (read_fun (KV d) (VX d) EV (litQ d v) k).trans ?_)
 refine cT (tst_true ⟨⟨hK, nl_nil⟩, .refl _, rfl⟩) ?_
 refine cF (show (!EV (litQ d v) 0 == (((litQ d v).length : Nat) : Int)) = false by rw [hE]; simp) ?_
 rfl
end Go.Mu
namespace Go.Mu
open Go Go.Proofs
def rpvR (d : Nat) (x : List AVal) : Oc := prQ d (decVa x)
theorem rpvR_enc (d : Nat) (v : VaD) : rpvR d (encVa v) = prQ d v := by unfold rpvR; rw [decVa_enc]
def rpvL (d : Nat) (x : List AVal) : Oc := itmsP (prQ d) (decVa x) (vals (decVa x).list)
noncomputable abbrev rpvTurn (d : Nat) := lturn Tryz.prog (layRpv0 (WvD d) (rpvR d)) (rpvFH (PqD d) (rpvL d)) 64 14 [1,3,4] [1] [1,3] [1]
theorem rpv_rd (d : Nat) (v : VaD) (h : WlD d v.list) (hk : ∀ i, (v.keys.getD i []).length ≤ 1048576) (o : Oc) (ho : o.length ≤ 33554432) (i : Nat) (hi : i < (vals v.list).length) (D : Dfs) (k : Kont) :
 rpvTurn d (stL 68 [1,3,4] [.ptr (.tmp 1) 0, .str o, .int .i64 (i : Nat)] [1] [encVa (canA v)] [] D) k = k .normal (stL 68 [1,3,4] [.ptr (.tmp 1) 0, .str (o ++ itmP (prQ d) v (vals v.list) i), .int .i64 ((i + 1 : Nat) : Int)] [1] [encVa (canA v)] [] D) := by
 have hl := WlD_len h
 have hm : (vals v.list).getD i va0 ∈ vals v.list := by rw [List.getD_eq_getElem?_getD, List.getElem?_eq_getElem hi]; exact List.getElem_mem hi
 obtain ⟨w1, w2⟩ := WlD_mem h hm
 have hR : rpvR d (encVa ((vals v.list).getD i va0)) = prQ d ((vals v.list).getD i va0) := rpvR_enc _ _
 have hRl := prQ_len d ((vals v.list).getD i va0)
 have hki := hk i
 refine (rpv_step (WvD d) (rpvR d) (PqD d) (rpvL d) v.kind v.int v.text v.lf (vals v.list).length (fun i => (vals v.list).getD i va0) v.kf v.keys o i D k).trans ?_
 have e1 : IntKind.i64.wrap ((i : Int) + 1) = ((i + 1 : Nat) : Int) := wrap_add1 (by omega)
 have t13 : tst (WvD d (encVa ((vals v.list).getD i va0)) ∧ SubL [.agg (encVa ((vals v.list).getD i va0))] [.agg (encVa ((vals v.list).getD i va0))] ∧ True) = true := tst_true ⟨WvD_enc w1 w2, .refl _, trivial⟩
 have aE : ∀ a b : Oc, a.append b = a ++ b := fun a b => rfl
 have cE : cellsA (.agg (encVa ((vals v.list).getD i va0))) = encVa ((vals v.list).getD i va0) := rfl
 have vE : [AVal.int .i64 ((vals v.list).getD i va0).kind, AVal.int .i64 ((vals v.list).getD i va0).int, AVal.str ((vals v.list).getD i va0).text, AVal.list ((vals v.list).getD i va0).lf ((vals v.list).getD i va0).ln ((vals v.list).getD i va0).lr, AVal.list ((vals v.list).getD i va0).kf ((vals v.list).getD i va0).keys.length fun (j : Nat) => [AVal.str (((vals v.list).getD i va0).keys.getD j [])]] = encVa ((vals v.list).getD i va0) := rfl
 simp only [e1, Int.toNat_natCast, vE, cE, hR, t13, aE, dT (show (i : Int) < ((vals v.list).length : Nat) by omega), dT (show (0 : Int) ≤ (i : Int) by omega), Bool.and_self, Bool.true_and, cond_true, List.length_append, List.length_singleton]
 unfold itmP
 have fin : ∀ o2 : Oc, o2.length ≤ 33554433 → (bif v.kind == 6 then bif decide ((i : Int) < (v.keys.length : Int)) then bif decide ((i : Int) < (v.keys.length : Int)) then
  bif decide (o2.length + (v.keys.getD i []).length ≤ 4611686018427387904) then bif decide (o2.length + (v.keys.getD i []).length + 1 ≤ 4611686018427387904) then bif decide (o2.length + (v.keys.getD i []).length + 1 + (prQ d ((vals v.list).getD i va0)).length ≤ 4611686018427387904) then
  k AExit.normal (stL 68 [1, 3, 4] [AVal.ptr (Oid.tmp 1) 0, AVal.str (o2 ++ v.keys.getD i [] ++ [58] ++ prQ d ((vals v.list).getD i va0)), AVal.int .i64 ((i + 1 : Nat) : Int)] [1] [encVa (canA v)] [] D) else none else none else none else none
  else bif decide (o2.length + 1 ≤ 4611686018427387904) then bif decide (o2.length + 1 + (prQ d ((vals v.list).getD i va0)).length ≤ 4611686018427387904) then
   k AExit.normal (stL 68 [1, 3, 4] [AVal.ptr (Oid.tmp 1) 0, AVal.str (o2 ++ [58] ++ prQ d ((vals v.list).getD i va0)), AVal.int .i64 ((i + 1 : Nat) : Int)] [1] [encVa (canA v)] [] D) else none else none
  else bif decide (o2.length + (prQ d ((vals v.list).getD i va0)).length ≤ 4611686018427387904) then
   k AExit.normal (stL 68 [1, 3, 4] [AVal.ptr (Oid.tmp 1) 0, AVal.str (o2 ++ prQ d ((vals v.list).getD i va0)), AVal.int .i64 ((i + 1 : Nat) : Int)] [1] [encVa (canA v)] [] D) else none) =
  k .normal (stL 68 [1,3,4] [.ptr (.tmp 1) 0, .str (o2 ++ ((if v.kind = 6 then (if i < v.keys.length then v.keys.getD i [] else []) ++ [58] else []) ++ prQ d ((vals v.list).getD i va0))), .int .i64 ((i + 1 : Nat) : Int)] [1] [encVa (canA v)] [] D) := fun o2 h2 => by
  by_cases h6 : v.kind = 6
  · have b6 : (v.kind == 6) = true := by simpa using h6
    rw [if_pos h6, b6]
    by_cases hk : i < v.keys.length
    · rw [if_pos hk, dT (show (i : Int) < (v.keys.length : Int) by omega), dT (show o2.length + (v.keys.getD i []).length ≤ 4611686018427387904 by omega), dT (show o2.length + (v.keys.getD i []).length + 1 ≤ 4611686018427387904 by omega), dT (show o2.length + (v.keys.getD i []).length + 1 + (prQ d ((vals v.list).getD i va0)).length ≤ 4611686018427387904 by omega)]
      simp only [cond_true, List.append_assoc]
    · rw [if_neg hk, dF (show ¬ (i : Int) < (v.keys.length : Int) by omega), dT (show o2.length + 1 ≤ 4611686018427387904 by omega), dT (show o2.length + 1 + (prQ d ((vals v.list).getD i va0)).length ≤ 4611686018427387904 by omega)]
      simp only [cond_true, cond_false, List.append_assoc, List.nil_append]
  · rw [if_neg h6, beq_false_of_ne h6, cond_false, dT (show o2.length + (prQ d ((vals v.list).getD i va0)).length ≤ 4611686018427387904 by omega)]
    rfl
 by_cases h0 : (i : Int) > 0
 · have := fin (o ++ [32]) (by simp only [List.length_append, List.length_singleton]; omega)
   simp only [List.length_append, List.length_singleton] at this
   rw [dT h0, if_pos (show 0 < i by omega)]
   simp only [cond_true, dT (show o.length + 1 ≤ 4611686018427387904 by omega), ← List.append_assoc] at this ⊢
   exact this
 · have := fin o (by omega)
   rw [dF h0, if_neg (show ¬ 0 < i by omega)]
   simp only [cond_false, List.nil_append] at this ⊢
   exact this
theorem rpvSp_ok (d : Nat) : SpOK (rpvTurn d) 68 [1,3,4] [1] [1,3] [1] (accSp (PqD d) (rpvL d)) := mkL_ok fun x h => by
 obtain ⟨v, rfl, hw, hk, hs⟩ := h
 refine ⟨_, _, _, _, fun k => rfl, ?_⟩
 have eL : rpvL d (encVa (canA v)) = itmsP (prQ d) v (vals v.list) := by unfold rpvL; rw [decVa_enc, canA_vals]; rfl
 rw [eL]
 have ho := acc_len (itmP (prQ d) v (vals v.list)) d v hw hs (fun i hi => itmP_len (prQ d) (szV d) (prQ_len d) v _ i hi)
 have key := seq_runs (turn := rpvTurn d) (n := 68) (l := [1,3,4]) (m := [1]) (lx := [1,3]) (mx := [1]) (fun i => [.ptr (.tmp 1) 0, .str ((List.range i).flatMap (itmP (prQ d) v (vals v.list))), .int .i64 (i : Nat)]) (fun _ => [encVa (canA v)]) (fun _ => []) (vals v.list).length (e := .exit 1) (by simp)
  (fun i hi D k => by
   refine (rpv_rd d v hw hk _ (ho i (by omega)) i hi D k).trans ?_
   rw [acc_snoc])
  (fun D k => by
   refine (rpv_step (WvD d) (rpvR d) (PqD d) (rpvL d) v.kind v.int v.text v.lf (vals v.list).length (fun i => (vals v.list).getD i va0) v.kf v.keys _ (vals v.list).length D k).trans ?_
   simp only [dF (show ¬ ((vals v.list).length : Int) < ((vals v.list).length : Nat) by omega), cond_false]
   rfl)
 exact key
theorem rpvTold_ok : ∀ (d : Nat) xs H k out, strTold (WvD d) (rpvR d) xs H k = some out → ∃ o, CallOK Tryz.prog 64 xs H o ∧ k o = some out
 | 0 => vrTold_ok (ok := WvD 0) (post := fun x k => k (.ret (.str (rpvR 0 x)) [])) fun x h => absurd h.2.1 (by unfold wfVal; exact id)
 | d + 1 => vrTold_ok (ok := WvD (d + 1)) (post := fun x k => k (.ret (.str (rpvR (d + 1) x)) [])) fun x h => ⟨_, fun k => rfl, by
  obtain ⟨h1, h2, h3⟩ := h
  have h1 : x = encVa (decVa x) := h1
  generalize decVa x = v at h1 h2 h3
  subst h1
  rw [rpvR_enc]
  have hl := wf_list h2 h3
  have hP := Pq_of h2 h3
  have ht := sz_txt h3
  have hint := h2.1
  have hint2 := h2.2.1
  have hL : (layRpv (WvD d) (rpvR d) (PqD d) (rpvL d)).OK Tryz.prog := Lay.OK.loop1 (((Lay.nil_ok.addF rprTold_ok)).addF (rpvTold_ok d)) (id := 14) (by kernel_rfl) (by kernel_rfl) (by kernel_rfl) (rpvSp_ok d)
  have eL : rpvL d (encVa (canA v)) = itmsP (prQ d) v (vals v.list) := by unfold rpvL; rw [decVa_enc, canA_vals]; rfl
  have hlen : (itmsP (prQ d) v (vals v.list)).length ≤ 33554432 := by
   obtain ⟨v2, e2, hw2, hk2, hs2⟩ := hP
   have hks : kSum v.keys ≤ 16777216 := by unfold szV at h3; unfold kSum; omega
   exact acc_len (itmP (prQ d) v (vals v.list)) d v hl hks (fun i hi => itmP_len (prQ d) (szV d) (prQ_len d) v _ i hi) _ (Nat.le_refl _)
  have hpl := printM_le v.int
  have key : CallOK Tryz.prog 64 [.agg (encVa (canA v))] [] (.ret (.str (prQ (d + 1) v)) []) := hL.callF (G := []) rfl (fun k => (rpv_fun (WvD d) (rpvR d) (PqD d) (rpvL d) (canA v) k).trans (by
   have e : prQ (d + 1) v = if v.kind = 0 then [110, 117, 108, 108] else if v.kind = 1 then [102, 97, 108, 115, 101] else if v.kind = 2 then [116, 114, 117, 101] else if v.kind = 3 then printM v.int
    else if v.kind = 5 then 91 :: (itmsP (prQ d) v (vals v.list) ++ [93]) else if v.kind = 6 then 123 :: (itmsP (prQ d) v (vals v.list) ++ [125]) else v.text := rfl
   rw [e]
   have c6 : decide (-9223372036854775808 ≤ v.int ∧ v.int ≤ 9223372036854775807) = true := dT ⟨hint, hint2⟩
   have c7 : decide (1 + (printM v.int).length ≤ 4611686018427387904) = true := dT (by omega)
   have c8 : decide (v.text.length ≤ 4194304) = true := dT (by omega)
   have c9 : decide (1 + (itmsP (prQ d) v (vals v.list)).length ≤ 4611686018427387904) = true := dT (by omega)
   have c10 : ∀ b : UInt8, decide ((b :: itmsP (prQ d) v (vals v.list)).length + 1 ≤ 4611686018427387904) = true := fun b => dT (by rw [List.length_cons]; omega)
   generalize hLx : rpvL d (encVa (canA v)) = X at eL
   subst eL
   have hX : rpvL d [AVal.int .i64 v.kind, AVal.int .i64 v.int, AVal.str v.text, AVal.list (canA v).lf (canA v).ln (canA v).lr, AVal.list (canA v).kf (canA v).keys.length fun i => [AVal.str ((canA v).keys.getD i [])]] = itmsP (prQ d) v (vals v.list) := hLx
   have kE : (canA v).kind = v.kind := rfl
   have iE : (canA v).int = v.int := rfl
   have xE : (canA v).text = v.text := rfl
   simp only [kE, iE, xE]
   simp only [hX]
   by_cases k0 : v.kind = 0
   · rw [k0]; rfl
   by_cases k1 : v.kind = 1
   · rw [k1]; rfl
   by_cases k2 : v.kind = 2
   · rw [k2]; rfl
   rw [beq_false_of_ne k0, beq_false_of_ne k1, beq_false_of_ne k2, if_neg k0, if_neg k1, if_neg k2]
   simp only [cond_false]
   by_cases k3 : v.kind = 3
   · rw [k3]
     simp only [beq_self_eq_true, cond_true]
     rw [c6]; rfl
   rw [beq_false_of_ne k3, if_neg k3]
   simp only [cond_false]
   by_cases k5 : v.kind = 5
   · have b5 : (v.kind == 5) = true := by simpa using k5
     rw [b5, if_pos k5]
     simp only [cond_true]
     refine cT (tst_true ⟨hP, .refl _, trivial, trivial⟩) ?_
     rw [c9, c10]; rfl
   rw [beq_false_of_ne k5, if_neg k5]
   simp only [cond_false]
   by_cases k6 : v.kind = 6
   · have b6 : (v.kind == 6) = true := by simpa using k6
     rw [b6, if_pos k6]
     simp only [cond_true]
     refine cT (tst_true ⟨hP, .refl _, trivial, trivial⟩) ?_
     rw [c9, c10]; rfl
   rw [beq_false_of_ne k6, if_neg k6]
   simp only [cond_false]))
  exact key.subArgs (.cons (canA_sub hl) .nil)⟩
end Go.Mu
namespace Go.Mu
open Go Go.Proofs
def notE (c : UInt8) : Bool := c != 60 && c != 62 && c != 34 && c != 39
theorem clean_of {x : Oc} (h : ∀ c ∈ x, notE c = true) : cleanM x = true := by
 have key : ∀ e : UInt8, (∀ c, notE c = true → (c == e) = false) → cleanC x e = false := fun e he => by
  rw [cleanC_any, List.any_eq_false]
  intro c hc
  rw [he c (h c hc)]
  decide
 unfold cleanM
 rw [key 60 (fun c hc => by unfold notE at hc; simp only [Bool.and_eq_true, bne_iff_ne] at hc; exact beq_false_of_ne hc.1.1.1), key 62 (fun c hc => by unfold notE at hc; simp only [Bool.and_eq_true, bne_iff_ne] at hc; exact beq_false_of_ne hc.1.1.2),
  key 34 (fun c hc => by unfold notE at hc; simp only [Bool.and_eq_true, bne_iff_ne] at hc; exact beq_false_of_ne hc.1.2), key 39 (fun c hc => by unfold notE at hc; simp only [Bool.and_eq_true, bne_iff_ne] at hc; exact beq_false_of_ne hc.2)]
 rfl
theorem escC_notE : ∀ c : UInt8, (escC c).all notE = true := oct256 (p := fun c => (escC c).all notE = true) (by decide +kernel)
theorem esc_clean (s : Oc) : cleanM (escP s) = true := clean_of (fun c hc => by
 obtain ⟨d, _, hd⟩ := List.mem_flatMap.1 (show c ∈ (rpP s).flatMap escC from hc)
 exact List.all_eq_true.1 (escC_notE d) c hd)
def okJ (c : UInt8) : Bool := !sfP c && ascB c
theorem hxd_okJ (d : Nat) (h : d < 16) : okJ (hxd d) = true := by
 have key : ∀ m : Fin 16, okJ (hxd m.val) = true := by decide +kernel
 exact key ⟨d, h⟩
theorem hexB_okJ (n : Int) : ∀ c ∈ hexB n 4, okJ c = true := fun c hc => by
 unfold hexB at hc
 rw [if_neg (by decide)] at hc
 simp only [List.mem_cons, List.not_mem_nil, or_false] at hc
 rcases hc with rfl | rfl | rfl | rfl <;> exact hxd_okJ _ (Nat.mod_lt _ (by decide))
theorem inB_okJ (c : Int) (h : 0 < c ∧ c ≤ 1114111) : ∀ d ∈ inB c, okJ d = true := by
 have u : ∀ d ∈ ([92, 117] : Oc), okJ d = true := by decide +kernel
 unfold inB
 split
 · rename_i hb
   have h01 : c < 128 := by
    unfold bareM at hb
    by_cases h1 : c < 128
    · exact h1
    · rw [dF h1] at hb; cases hb
   have key : ∀ m : Fin 128, 0 < m.val → bareM (m.val : Int) = true → okJ (byteOf [.int .u8 (IntKind.u8.wrap (m.val : Int))]) = true := by decide +kernel
   obtain ⟨m, rfl⟩ : ∃ m : Nat, c = m := ⟨c.toNat, by omega⟩
   intro d hd
   rw [List.mem_singleton] at hd
   subst hd
   exact key ⟨m, by omega⟩ (by show 0 < m; omega) hb
 split
 · intro d hd
   simp only [List.mem_append] at hd
   rcases hd with ((hd | hd) | hd) | hd
   · exact u d hd
   · exact hexB_okJ _ d hd
   · exact u d hd
   · exact hexB_okJ _ d hd
 · intro d hd
   rcases List.mem_append.1 hd with hd | hd
   · exact u d hd
   · exact hexB_okJ _ d hd
theorem inP_okJ (s : Oc) : ∀ d ∈ inP s, okJ d = true := fun d hd => by
 obtain ⟨c, hc, hd⟩ := List.mem_flatMap.1 (show d ∈ (chP s).flatMap inB from hd)
 have := chP_ok s c hc
 exact inB_okJ c ⟨this.1, this.2.1⟩ d hd
theorem in_safe (s : Oc) : safeM (inP s) = true := by
 unfold safeM
 rw [Bool.not_eq_true', List.any_eq_false]
 intro c hc
 have := inP_okJ s c hc
 unfold okJ at this
 rw [Bool.and_eq_true] at this
 simpa using this.1
def lsB (c : UInt8) : Bool := decide (ibM [60, 62, 38, 39, 96, 47] (c.toNat : Int) ≥ 0)
def okQ (c : UInt8) : Bool := !lsB c && ascB c
theorem okJ_Q : ∀ c : UInt8, okJ c = true → okQ c = true := oct256 (p := fun c => okJ c = true → okQ c = true) (by decide +kernel)
abbrev allQ (x : Oc) : Prop := ∀ c ∈ x, okQ c = true
theorem allQ_app {a b : Oc} (ha : allQ a) (hb : allQ b) : allQ (a ++ b) := fun c hc => by
 rcases List.mem_append.1 hc with h | h
 · exact ha c h
 · exact hb c h
theorem allQ_cons {c : UInt8} {b : Oc} (ha : okQ c = true) (hb : allQ b) : allQ (c :: b) := fun d hd => by
 rcases List.mem_cons.1 hd with rfl | h
 · exact ha
 · exact hb d h
theorem allQ_of {x : Oc} (h : x.all okQ = true) : allQ x := fun c hc => List.all_eq_true.1 h c hc
theorem allQ_flat {α : Type} {f : α → Oc} {l : List α} (h : ∀ a ∈ l, allQ (f a)) : allQ (l.flatMap f) := fun c hc => by
 obtain ⟨a, ha, hc⟩ := List.mem_flatMap.1 hc
 exact h a ha c hc
theorem quo_Q (s : Oc) : allQ (quoQ s) := allQ_cons (by decide +kernel) (allQ_app (fun c hc => okJ_Q c (inP_okJ s c hc)) (allQ_of (by decide +kernel)))
theorem dig_Q : ∀ n : Fin 10, okQ (UInt8.ofNat (48 + n.val)) = true := by decide +kernel
theorem digsF_Q : ∀ (f u : Nat) (t : Oc), allQ t → allQ (digsF f u t)
 | 0, u, t, h => h
 | f + 1, u, t, h => by
  have h2 : allQ (UInt8.ofNat (48 + u % 10) :: t) := allQ_cons (dig_Q ⟨u % 10, by omega⟩) h
  rw [digsF]
  cases u / 10 == 0
  · exact digsF_Q f _ _ h2
  · exact h2
theorem print_Q (n : Int) : allQ (printM n) := by
 unfold printM
 have := digsF_Q 19 n.natAbs [] (by intro c hc; cases hc)
 cases decide (n < 0)
 · exact this
 · exact allQ_cons (by decide +kernel) this
theorem lit_Q : ∀ (d : Nat) (v : VaD), allQ (litQ d v)
 | 0, v => by unfold litQ; intro c hc; cases hc
 | d + 1, v => by
  have hi : allQ (itmsQ (litQ d) v (vals v.list)) := allQ_flat (fun i _ => by
   unfold itmQ keyQ
   refine allQ_app ?_ (allQ_app ?_ (lit_Q d _))
   · split
     · exact allQ_of (by decide +kernel)
     · intro c hc; cases hc
   · split
     · exact allQ_app (quo_Q _) (allQ_of (by decide +kernel))
     · intro c hc; cases hc)
  unfold litQ
  repeat' split
  · exact allQ_of (by decide +kernel)
  · exact allQ_of (by decide +kernel)
  · exact allQ_of (by decide +kernel)
  · exact allQ_cons (by decide +kernel) (print_Q _)
  · exact print_Q _
  · exact allQ_cons (by decide +kernel) (allQ_app hi (allQ_of (by decide +kernel)))
  · exact allQ_cons (by decide +kernel) (allQ_app hi (allQ_of (by decide +kernel)))
  · exact quo_Q _
def blkQ (x : Oc) : Oc := 32 :: (x ++ [32])
theorem blk_Q {x : Oc} (h : allQ x) : allQ (blkQ x) := allQ_cons (by decide +kernel) (allQ_app h (allQ_of (by decide +kernel)))
def lsM (s : Oc) : Bool := !s.any lsB
theorem ls_of {x : Oc} (h : allQ x) : lsM x = true := by
 unfold lsM
 rw [Bool.not_eq_true', List.any_eq_false]
 intro c hc
 have := h c hc
 unfold okQ at this
 rw [Bool.and_eq_true] at this
 simpa using this.1
theorem allQ_asc {x : Oc} (h : allQ x) : ascL x := fun c hc => by
 have := h c hc
 unfold okQ at this
 rw [Bool.and_eq_true] at this
 exact this.2
def styQ (s : Oc) : Oc := bif plainM s then s else [90, 103, 111, 116, 109, 112, 108, 90]
theorem sty_plain (s : Oc) : plainM (styQ s) = true := by
 unfold styQ
 cases h : plainM s with
 | true => exact h
 | false =>
  show plainM [90, 103, 111, 116, 109, 112, 108, 90] = true
  decide +kernel
theorem cp_asc : ∀ c : UInt8, cpP (lowC c) = false → ascB c = true := oct256 (p := fun c => cpP (lowC c) = false → ascB c = true) (by decide +kernel)
theorem plain_asc {s : Oc} (h : plainM s = true) : ascL s := fun c hc => by
 unfold plainM at h
 simp only [Bool.and_eq_true, Bool.not_eq_true'] at h
 have := List.any_eq_false.1 h.2.2 (lowC c) (List.mem_map_of_mem hc)
 exact cp_asc c (by simpa using this)
theorem dec_escP {x : Oc} (h : ascL x) (hl : x.length ≤ 200000000000) : decP (escP x) = x := by
 rw [escP_asc h]
 refine dec_esc x ?_
 have := flat_len escC 5 escC_len x
 unfold escT
 omega
end Go.Mu
namespace Go.Mu
open Go Go.Proofs
theorem txTold_ok {Q : Oc → Oc} {n : Nat} {f : FuncId} (h : ∀ s : Oc, s.length ≤ n → CallOK Tryz.prog f [.str s] [] (.ret (.str (Q s)) [])) : ∀ xs H k out, txTold Q n xs H k = some out → ∃ o, CallOK Tryz.prog f xs H o ∧ k o = some out := mkFS_ok fun ys xs e hh => by
 obtain ⟨s, rfl⟩ : ∃ s, xs = [.str s] := ⟨_, e⟩
 exact ⟨_, fun k => rfl, h s (of_decide_eq_true hh)⟩
theorem prcTold_ok : ∀ xs H k out, prcTold pcP xs H k = some out → ∃ o, CallOK Tryz.prog 25 xs H o ∧ k o = some out := mkFS_ok fun ys xs e hh => by
 obtain ⟨s, b, rfl⟩ : ∃ s b, xs = [.str s, .bool b] := ⟨_, _, e⟩
 exact ⟨_, fun k => rfl, pc_ok b s (of_decide_eq_true hh)⟩
theorem layFl_ok : (layFl pcP).OK Tryz.prog := (Lay.nil_ok.addF (s := schrTold) rschTold_ok).addF prcTold_ok
theorem flt_ok (s : Oc) (hs : s.length ≤ 16777216) : CallOK Tryz.prog 24 [.str s] [] (.ret (.str (fltQ s)) []) := layFl_ok.call (fun k => (rfl_fun pcP s k).trans (by
 have e1 : ∀ t : Oc, (bif bif t == [104, 116, 116, 112] then true else t == [104, 116, 116, 112, 115] then true else t == [109, 97, 105, 108, 116, 111]) = alwM t := fun t => rfl
 simp only [dT (show s.length ≤ 1099511627776 by omega), dT (show s.length ≤ 1073741824 by omega), cond_true, e1]
 unfold fltQ
 cases (schemeM s).2
 · rfl
 · cases alwM (schemeM s).1 <;> rfl))
theorem laySt_ok : (laySt plainM).OK Tryz.prog := Lay.nil_ok.addF (s := bTold plainM 1099511627776) styTold_ok
theorem sty_ok (s : Oc) (hs : s.length ≤ 16777216) : CallOK Tryz.prog 27 [.str s] [] (.ret (.str (styQ s)) []) := laySt_ok.call (fun k => (rsty_fun plainM s k).trans (by
 rw [dT (show s.length ≤ 1099511627776 by omega), cond_true]
 unfold styQ
 cases plainM s <;> rfl))
theorem layRp_ok : (layRp escP fltQ inP styQ pcP).OK Tryz.prog := ((((Lay.nil_ok.addF (txTold_ok re_ok)).addF (txTold_ok flt_ok)).addF (txTold_ok fun s h => in_ok s (by omega))).addF (txTold_ok sty_ok)).addF prcTold_ok
theorem flt_len (s : Oc) : (fltQ s).length ≤ 12 * s.length + 9 := by
 have := pcP_len true s
 unfold fltQ
 cases (schemeM s).2 && !alwM (schemeM s).1
 · simp only [cond_false]; omega
 · simp only [cond_true, List.length_cons, List.length_nil]; omega
theorem sty_len (s : Oc) : (styQ s).length ≤ s.length + 8 := by
 unfold styQ
 cases plainM s
 · simp only [cond_false, List.length_cons, List.length_nil]; omega
 · simp only [cond_true]; omega
def plQ (e : Int) (s : Oc) : Oc :=
 if e = 1 ∨ e = 2 ∨ e = 3 then escP s else if e = 4 then escP (fltQ s) else if e = 5 then escP (pcP true s) else if e = 6 then escP (pcP false s) else if e = 8 then inP s else
 if e = 10 then escP (inP s) else if e = 11 then styQ s else if e = 12 then escP (styQ s) else []
theorem pl_ok (e : Int) (s : Oc) (hs : s.length ≤ 16777216) : CallOK Tryz.prog 8 [.int .i64 e, .str s] [] (.ret (.str (plQ e s)) []) := layRp_ok.call (fun k => (rpl_fun escP fltQ inP styQ pcP e s k).trans (by
 have h1 := flt_len s
 have h2 := pcP_len true s
 have h3 := pcP_len false s
 have h4 := inP_len s
 have h5 := sty_len s
 simp only [dT (show s.length ≤ 1073741824 by omega), dT hs, dT (show (fltQ s).length ≤ 1073741824 by omega), dT (show (pcP true s).length ≤ 1073741824 by omega), dT (show (pcP false s).length ≤ 1073741824 by omega), dT (show (inP s).length ≤ 1073741824 by omega), dT (show (styQ s).length ≤ 1073741824 by omega), cond_true]
 unfold plQ
 by_cases k1 : e = 1
 · subst k1; rfl
 by_cases k2 : e = 2
 · subst k2; rfl
 by_cases k3 : e = 3
 · subst k3; rfl
 rw [if_neg (by omega), beq_false_of_ne k1, beq_false_of_ne k2, beq_false_of_ne k3]
 by_cases k4 : e = 4
 · subst k4; rfl
 by_cases k5 : e = 5
 · subst k5; rfl
 by_cases k6 : e = 6
 · subst k6; rfl
 by_cases k8 : e = 8
 · subst k8; rfl
 by_cases k10 : e = 10
 · subst k10; rfl
 by_cases k11 : e = 11
 · subst k11; rfl
 by_cases k12 : e = 12
 · subst k12; rfl
 rw [if_neg k4, if_neg k5, if_neg k6, if_neg k8, if_neg k10, if_neg k11, if_neg k12, beq_false_of_ne k4, beq_false_of_ne k5, beq_false_of_ne k6, beq_false_of_ne k8, beq_false_of_ne k10, beq_false_of_ne k11, beq_false_of_ne k12]
 rfl))
theorem rpnTold_ok : ∀ xs H k out, rpnTold plQ xs H k = some out → ∃ o, CallOK Tryz.prog 8 xs H o ∧ k o = some out := mkFS_ok fun ys xs e hh => by
 obtain ⟨n, s, rfl⟩ : ∃ n s, xs = [.int .i64 n, .str s] := ⟨_, _, e⟩
 exact ⟨_, fun k => rfl, pl_ok n s (of_decide_eq_true hh)⟩
def toQ (d : Nat) (v : VaD) : Oc := bif v.kind == 0 then [] else prQ d v
def toR (d : Nat) (x : List AVal) : Oc := toQ d (decVa x)
theorem toR_enc (d : Nat) (v : VaD) : toR d (encVa v) = toQ d v := by unfold toR; rw [decVa_enc]
theorem rtoTold_ok (d : Nat) : ∀ xs H k out, strTold (WvD d) (toR d) xs H k = some out → ∃ o, CallOK Tryz.prog 34 xs H o ∧ k o = some out := vrTold_ok (ok := WvD d) (post := fun x k => k (.ret (.str (toR d x)) [])) fun x h => ⟨_, fun k => rfl, by
 have h0 := h
 obtain ⟨h1, h2, h3⟩ := h
 have h1 : x = encVa (decVa x) := h1
 generalize decVa x = v at h1 h2 h3
 subst h1
 rw [toR_enc]
 have hL : (layRt (WvD d) (rpvR d)).OK Tryz.prog := Lay.nil_ok.addF (rpvTold_ok d)
 refine hL.call (fun k => (rto_fun (WvD d) (rpvR d) v k).trans ?_)
 unfold toQ
 cases hk : v.kind == 0 with
 | true => rfl
 | false =>
  simp only [cond_false]
  refine cT (tst_true ⟨h0, .refl _, by trivial⟩) ?_
  show k (.ret (.str (rpvR d (encVa v))) []) = _
  rw [rpvR_enc]⟩
def safB (e n : Int) : Bool := bif bif bif bif bif n == 7 then e == 1 else false then true else bif n == 8 then e == 3 else false then true else bif n == 9 then bif e == 4 then true else e == 5 else false then true
 else bif n == 10 then bif e == 7 then true else e == 9 else false then true else bif n == 11 then bif e == 11 then true else e == 12 else false
theorem sfbTold_ok : ∀ xs H k out, sfbTold safB xs H k = some out → ∃ o, CallOK Tryz.prog 32 xs H o ∧ k o = some out := mkFS_ok fun ys xs e hh => by
 obtain ⟨n, m, rfl⟩ : ∃ n m, xs = [.int .i64 n, .int .i64 m] := ⟨_, _, e⟩
 exact ⟨_, fun k => rfl, Lay.nil_ok.call (fun k => rsf_fun n m k)⟩
def apE (d : Nat) (e : Int) (v : VaD) : Int := bif bif decide (e < 1) then true else decide (e > 12) then 4 else chkV d v 0
def apQ (d : Nat) (e : Int) (v : VaD) : Oc := bif apE d e v != 0 then [] else
 bif safB e v.kind then (bif bif bif bif bif e == 3 then true else e == 4 then true else e == 5 then true else e == 9 then true else e == 12 then escP v.text else v.text) else
 bif e == 7 then blkQ (litQ d v) else bif e == 9 then escP (blkQ (litQ d v)) else plQ e (toQ d v)
theorem layRa_ok (d : Nat) : (layRa (WvD d) (WvD d) (ch0R d) safB escP (rltR d) (toR d) plQ).OK Tryz.prog :=
 (((((Lay.nil_ok.addF (ck4Told_ok d)).addF sfbTold_ok).addF (txTold_ok re_ok)).addF (rltTold_ok d)).addF (rtoTold_ok d)).addF rpnTold_ok
theorem toQ_len (d : Nat) (v : VaD) : (toQ d v).length + 8 ≤ szV d v ∨ toQ d v = [] := by
 have := prQ_len d v
 unfold toQ
 cases v.kind == 0
 · exact .inl this
 · exact .inr rfl
theorem ap_ok (d : Nat) (e : Int) (v : VaD) (h : WvD d (encVa v)) : CallOK Tryz.prog 11 [.int .i64 e, .agg (encVa v)] [] (.ret (.tuple [.str (apQ d e v), .int .i64 (apE d e v)]) []) := (layRa_ok d).call (fun k => (rap_fun (WvD d) (WvD d) (ch0R d) safB escP (rltR d) (toR d) plQ e v k).trans (by
 have h3 : szV d v ≤ 16777216 := by have := h.2.2; rwa [decVa_enc] at this
 have h2 : wfVal d v := by have := h.2.1; rwa [decVa_enc] at this
 have hl := litQ_len d v
 have ht : (toQ d v).length ≤ 16777216 := by
  rcases toQ_len d v with h | h
  · omega
  · rw [h]; simp
 have hx : v.text.length ≤ 1073741824 := by
  cases d with
  | zero => exact h2.elim
  | succ d => have := sz_txt h3; omega
 have c0 : ch0R d (encVa v) = chkV d v 0 := ch0R_enc d v
 have c1 : rltR d (encVa v) = litQ d v := rltR_enc d v
 have c2 : toR d (encVa v) = toQ d v := toR_enc d v
 have cE : cellsA (.agg (encVa v)) = encVa v := rfl
 have vE : [AVal.int .i64 v.kind, AVal.int .i64 v.int, AVal.str v.text, AVal.list v.lf v.ln v.lr, AVal.list v.kf v.keys.length fun i => [AVal.str (v.keys.getD i [])]] = encVa v := rfl
 have tE : tst (WvD d (encVa v) ∧ SubL [.agg (encVa v)] [.agg (encVa v)] ∧ True) = true := tst_true ⟨h, .refl _, trivial⟩
 have b1 : (blkQ (litQ d v)).length = (litQ d v).length + 2 := by unfold blkQ; simp
 have b1' : (32 :: (litQ d v ++ [32]) : Oc).length ≤ 1073741824 := by simp only [List.length_cons, List.length_append, List.length_nil]; omega
 have b2 : (32 :: litQ d v : Oc).length + 1 ≤ 4611686018427387904 := by simp only [List.length_cons]; omega
 simp only [vE, cE, c0, c1, c2, tE, dT hx, dT (show 1 + (litQ d v).length ≤ 4611686018427387904 by omega), dT b1', dT b2, dT ht, cond_true]
 unfold apQ apE
 generalize (bif decide (e < 1) then true else decide (e > 12)) = r
 cases r with
 | true => rfl
 | false =>
 simp only [cond_false]
 cases hc : chkV d v 0 != 0 with
 | true => rfl
 | false =>
 have hc0 : chkV d v 0 = 0 := by simpa using hc
 rw [hc0]
 simp only [cond_false]
 cases safB e v.kind with
 | true =>
  simp only [cond_true]
  generalize (bif bif bif bif e == 3 then true else e == 4 then true else e == 5 then true else e == 9 then true else e == 12) = r
  cases r <;> rfl
 | false =>
  simp only [cond_false]
  cases e == 7 with
  | true => rfl
  | false =>
   cases e == 9 with
   | true => rfl
   | false => rfl))
end Go.Mu
namespace Go.Mu
open Go Go.Proofs
noncomputable def vpTold (W : List AVal → Prop) (B : List AVal → Bool) : FSp := vrTold W (fun x k => k (.ret (.bool (B x)) []))
noncomputable def vpSp (V : List AVal → Prop) (L : List AVal → Bool) : LSp := mkL (fun vs bs H => bs.getD 0 []) (fun x => V x) (fun x => [.ptr (.tmp 1) 0, .int .i64 0]) (fun x => [x]) (fun _ => [])
 (fun x k => cond (L x) (k .ret [.ptr (.tmp 1) 0, .bool false] [x] []) (k (.exit 0) [.ptr (.tmp 1) 0, .undef] [x] []))
noncomputable def vpFH (V : List AVal → Prop) (L : List AVal → Bool) : FH := .of [(2, loopSpec 21 [1,3] [1] [1,2] [1] (vpSp V L))]
noncomputable def layVp0 (W : List AVal → Prop) (B : List AVal → Bool) : Lay := Lay.nil.addF 12 (vpTold W B)
theorem vp_step (W : List AVal → Prop) (B : List AVal → Bool) (V : List AVal → Prop) (L : List AVal → Bool) (kd n : Int) (t : Oc) (f : Bool) (q : Nat) (g : Nat → VaD) (kf : Bool) (ks : List Oc) (i : Int) (D : Dfs) (k : Kont) : lturn Tryz.prog (layVp0 W B) (vpFH V L) 12 2 [1,3] [1] [1,2] [1] (stL 21 [1,3] [.ptr (.tmp 1) 0, .int .i64 i] [1] [encVa ⟨kd, n, t, f, q, fun i => encVa (g i), kf, ks⟩] [] D) k = (
 let c0 : Bool := decide (i < (↑q : Int));
  bif c0 then bif decide (0 ≤ i) && c0 then bif tst (W (cellsA (AVal.agg [AVal.int .i64 (g i.toNat).kind, AVal.int .i64 (g i.toNat).int, AVal.str (g i.toNat).text, AVal.list (g i.toNat).lf (g i.toNat).ln (g i.toNat).lr, AVal.list (g i.toNat).kf (g i.toNat).keys.length fun (i_1 : Nat) => [AVal.str ((g i.toNat).keys.getD i_1 [])]])) ∧ SubL [AVal.agg [AVal.int .i64 (g i.toNat).kind, AVal.int .i64 (g i.toNat).int, AVal.str (g i.toNat).text, AVal.list (g i.toNat).lf (g i.toNat).ln (g i.toNat).lr, AVal.list (g i.toNat).kf (g i.toNat).keys.length fun (i_1 : Nat) => [AVal.str ((g i.toNat).keys.getD i_1 [])]]] [AVal.agg (cellsA (AVal.agg [AVal.int .i64 (g i.toNat).kind, AVal.int .i64 (g i.toNat).int, AVal.str (g i.toNat).text, AVal.list (g i.toNat).lf (g i.toNat).ln (g i.toNat).lr, AVal.list (g i.toNat).kf (g i.toNat).keys.length fun (i_1 : Nat) => [AVal.str ((g i.toNat).keys.getD i_1 [])]]))] ∧ ([] : Heap) = []) then bif !B (cellsA (AVal.agg [AVal.int .i64 (g i.toNat).kind, AVal.int .i64 (g i.toNat).int, AVal.str (g i.toNat).text, AVal.list (g i.toNat).lf (g i.toNat).ln (g i.toNat).lr, AVal.list (g i.toNat).kf (g i.toNat).keys.length fun (i_1 : Nat) => [AVal.str ((g i.toNat).keys.getD i_1 [])]])) then k AExit.ret (stL 21 [1, 2] [AVal.ptr (Oid.tmp 1) 0, AVal.bool false] [1] [[AVal.int .i64 kd, AVal.int .i64 n, AVal.str t, AVal.list f q fun (i : Nat) => encVa (g i), AVal.list kf ks.length fun i => [AVal.str (ks.getD i [])]]] [] D) else k AExit.normal (stL 21 [1, 3] [AVal.ptr (Oid.tmp 1) 0, AVal.int .i64 (IntKind.i64.wrap (i + 1))] [1] [[AVal.int .i64 kd, AVal.int .i64 n, AVal.str t, AVal.list f q fun (i : Nat) => encVa (g i), AVal.list kf ks.length fun i => [AVal.str (ks.getD i [])]]] [] D) else none else none else k (AExit.exit 0) (stL 21 [1, 2] [AVal.ptr (Oid.tmp 1) 0, AVal.undef] [1] [[AVal.int .i64 kd, AVal.int .i64 n, AVal.str t, AVal.list f q fun (i : Nat) => encVa (g i), AVal.list kf ks.length fun i => [AVal.str (ks.getD i [])]]] [] D)) := by kernel_rfl
noncomputable def layVp (W : List AVal → Prop) (B : List AVal → Bool) (V : List AVal → Prop) (L : List AVal → Bool) : Lay := (layVp0 W B).addL 12 (vpFH V L)
theorem vp_fun (W : List AVal → Prop) (B : List AVal → Bool) (V : List AVal → Prop) (L : List AVal → Bool) (v : VaD) (k : Out → Ans) : iFun Tryz.prog ((layVp W B V L).hd Tryz.prog) (layVp W B V L).fhs 0 12 [.agg (encVa v)] [] k = (
 let z0 := [AVal.ptr (Oid.tmp 1) 0, AVal.int .i64 0];
  bif tst (V [AVal.int .i64 v.kind, AVal.int .i64 v.int, AVal.str v.text, AVal.list v.lf v.ln v.lr, AVal.list v.kf v.keys.length fun i => [AVal.str (v.keys.getD i [])]] ∧ SubTL z0 z0 ∧ [[AVal.int .i64 v.kind, AVal.int .i64 v.int, AVal.str v.text, AVal.list v.lf v.ln v.lr, AVal.list v.kf v.keys.length fun i => [AVal.str (v.keys.getD i [])]]] = [[AVal.int .i64 v.kind, AVal.int .i64 v.int, AVal.str v.text, AVal.list v.lf v.ln v.lr, AVal.list v.kf v.keys.length fun i => [AVal.str (v.keys.getD i [])]]] ∧ ([] : Heap) = []) then bif L [AVal.int .i64 v.kind, AVal.int .i64 v.int, AVal.str v.text, AVal.list v.lf v.ln v.lr, AVal.list v.kf v.keys.length fun i => [AVal.str (v.keys.getD i [])]] then k (Out.ret (AVal.bool false) []) else k (Out.ret (AVal.bool (decide (v.kind < 7))) []) else none) := by kernel_rfl
end Go.Mu
namespace Go.Mu
open Go Go.Proofs
def vplV : Nat → VaD → Bool
 | 0, _ => true
 | d + 1, v => !(vals v.list).any (fun x => !vplV d x) && decide (v.kind < 7)
def vplR (d : Nat) (x : List AVal) : Bool := vplV d (decVa x)
theorem vplR_enc (d : Nat) (v : VaD) : vplR d (encVa v) = vplV d v := by unfold vplR; rw [decVa_enc]
def vplL (d : Nat) (x : List AVal) : Bool := (vals (decVa x).list).any (fun v => !vplV d v)
def PcD (d : Nat) (x : List AVal) : Prop := ∃ v : VaD, x = encVa (canA v) ∧ WlD d v.list
noncomputable abbrev vpTurn (d : Nat) := lturn Tryz.prog (layVp0 (WvD d) (vplR d)) (vpFH (PcD d) (vplL d)) 12 2 [1,3] [1] [1,2] [1]
theorem vp_rd (d : Nat) (v : VaD) (h : WlD d v.list) (i : Nat) (hi : i < (vals v.list).length) (D : Dfs) (k : Kont) :
 vpTurn d (stL 21 [1,3] [.ptr (.tmp 1) 0, .int .i64 (i : Nat)] [1] [encVa (canA v)] [] D) k = cond (!vplV d ((vals v.list).getD i va0)) (k .ret (stL 21 [1,2] [.ptr (.tmp 1) 0, .bool false] [1] [encVa (canA v)] [] D)) (k .normal (stL 21 [1,3] [.ptr (.tmp 1) 0, .int .i64 ((i + 1 : Nat) : Int)] [1] [encVa (canA v)] [] D)) := by
 have hl := WlD_len h
 have hm : (vals v.list).getD i va0 ∈ vals v.list := by rw [List.getD_eq_getElem?_getD, List.getElem?_eq_getElem hi]; exact List.getElem_mem hi
 obtain ⟨w1, w2⟩ := WlD_mem h hm
 refine (vp_step (WvD d) (vplR d) (PcD d) (vplL d) v.kind v.int v.text v.lf (vals v.list).length (fun i => (vals v.list).getD i va0) v.kf v.keys i D k).trans ?_
 have e1 : IntKind.i64.wrap ((i : Int) + 1) = ((i + 1 : Nat) : Int) := wrap_add1 (by omega)
 simp only [e1, dT (show (i : Int) < ((vals v.list).length : Nat) by omega), dT (show (0 : Int) ≤ (i : Int) by omega), Bool.and_self, cond_true, Int.toNat_natCast]
 refine cT (tst_true ⟨WvD_enc w1 w2, .refl _, by trivial⟩) ?_
 show cond (!vplR d (encVa ((vals v.list).getD i va0))) _ _ = _
 rw [vplR_enc]
 rfl
theorem vpSp_ok (d : Nat) : SpOK (vpTurn d) 21 [1,3] [1] [1,2] [1] (vpSp (PcD d) (vplL d)) := mkL_ok fun x h => by
 obtain ⟨v, rfl, hw⟩ := h
 have hl := WlD_len hw
 have eL : vplL d (encVa (canA v)) = (vals v.list).any (fun v => !vplV d v) := by unfold vplL; rw [decVa_enc, canA_vals]
 show ∃ e vs bs H', (∀ k : AExit → List AVal → List (List AVal) → Heap → Ans, cond (vplL d (encVa (canA v))) _ _ = k e vs bs H') ∧ _
 rw [eL]
 have hf := find_getD (fun v => !vplV d v) (vals v.list) va0
 have hN : ∀ D k, vpTurn d (stL 21 [1,3] [.ptr (.tmp 1) 0, .int .i64 ((vals v.list).length : Nat)] [1] [encVa (canA v)] [] D) k = k (.exit 0) (stL 21 [1,2] [.ptr (.tmp 1) 0, .undef] [1] [encVa (canA v)] [] D) := fun D k => by
  refine (vp_step (WvD d) (vplR d) (PcD d) (vplL d) v.kind v.int v.text v.lf (vals v.list).length (fun i => (vals v.list).getD i va0) v.kf v.keys (vals v.list).length D k).trans ?_
  rw [dF (show ¬ ((vals v.list).length : Int) < ((vals v.list).length : Nat) by omega), cond_false]
  rfl
 cases ha : (vals v.list).any (fun v => !vplV d v) with
 | false =>
  rw [ha] at hf
  exact ⟨_, _, _, _, fun k => rfl, none_runs (fun i => [.ptr (.tmp 1) 0, .int .i64 (i : Nat)]) [encVa (canA v)] [] _ (vals v.list).length (by simp) (fun i hi D k => vp_rd d v hw i hi D k) hN hf⟩
 | true =>
  rw [ha] at hf
  exact ⟨_, _, _, _, fun k => rfl, find_runs (fun i => [.ptr (.tmp 1) 0, .int .i64 (i : Nat)]) [encVa (canA v)] [] _ (vals v.list).length (v1 := fun _ => [.ptr (.tmp 1) 0, .bool false]) (b1 := fun _ => [encVa (canA v)]) (H1 := fun _ => []) (by simp) (fun i hi D k => vp_rd d v hw i hi D k) hf⟩
theorem vpTold_ok : ∀ (d : Nat) xs H k out, vpTold (WvD d) (vplR d) xs H k = some out → ∃ o, CallOK Tryz.prog 12 xs H o ∧ k o = some out
 | 0 => vrTold_ok (ok := WvD 0) (post := fun x k => k (.ret (.bool (vplR 0 x)) [])) fun x h => absurd h.2.1 (by unfold wfVal; exact id)
 | d + 1 => vrTold_ok (ok := WvD (d + 1)) (post := fun x k => k (.ret (.bool (vplR (d + 1) x)) [])) fun x h => ⟨_, fun k => rfl, by
  obtain ⟨h1, h2, h3⟩ := h
  have h1 : x = encVa (decVa x) := h1
  generalize decVa x = v at h1 h2 h3
  subst h1
  rw [vplR_enc]
  have hl := wf_list h2 h3
  have hL : (layVp (WvD d) (vplR d) (PcD d) (vplL d)).OK Tryz.prog := Lay.OK.loop1 (Lay.nil_ok.addF (vpTold_ok d)) (id := 2) (by kernel_rfl) (by kernel_rfl) (by kernel_rfl) (vpSp_ok d)
  have eL : vplL d (encVa (canA v)) = (vals v.list).any (fun v => !vplV d v) := by unfold vplL; rw [decVa_enc, canA_vals]
  have key : CallOK Tryz.prog 12 [.agg (encVa (canA v))] [] (.ret (.bool (vplV (d + 1) v)) []) := hL.callF (G := []) rfl (fun k => (vp_fun (WvD d) (vplR d) (PcD d) (vplL d) (canA v) k).trans (by
   refine cT (tst_true ⟨⟨v, rfl, hl⟩, .refl _, by trivial⟩) ?_
   show cond (vplL d (encVa (canA v))) _ _ = _
   rw [eL, show vplV (d + 1) v = (!(vals v.list).any (fun x => !vplV d x) && decide (v.kind < 7)) from rfl]
   cases (vals v.list).any (fun v => !vplV d v) <;> rfl))
  exact key.subArgs (.cons (canA_sub hl) .nil)⟩
end Go.Mu
namespace Go.Mu
open Go Go.Proofs
def lsFH : FH := .of [(2, loopSpec 19 [0,1,7,8] [] [4] [] (idxSp wfB decB lsB 74))]
theorem ls_step (full : Bool) (l : Oc) (i : Nat) (H : Heap) (D : Dfs) (k : Kont) : lturn Tryz.prog layY1 lsFH 97 2 [0,1,7,8] [] [4] [] (stL 19 [0,1,7,8] [encL full byteRow 0 l, .func 74 [], .int .i64 l.length, .int .i64 i] [] [] H D) k =
 cond (decide ((i : Int) < l.length)) (cond (decide ((i : Int) < l.length)) (cond (lsB (l.getD (i : Int).toNat 0)) (k .ret (stL 19 [4] [.int .i64 i] [] [] H D)) (k .normal (stL 19 [0,1,7,8] [encL full byteRow 0 l, .func 74 [], .int .i64 l.length, .int .i64 (IntKind.i64.wrap ((i : Int) + 1))] [] [] H D))) none)
  (k (.exit 0) (stL 19 [4] [.undef] [] [] H D)) := by kernel_rfl
noncomputable def lay_ls : Lay := layY1.addL 97 lsFH
theorem lay_ls_ok : lay_ls.OK Tryz.prog := layY1_ok.loop1 (id := 2) (by kernel_rfl) (by kernel_rfl) (by kernel_rfl) (idxSp_ok wfB_sub ls_step)
theorem lsf_fun (s : Oc) (k : Out → Ans) : iFun Tryz.prog (lay_ls.hd Tryz.prog) lay_ls.fhs 0 39 [.str s] [] k = (
 let m0 : Nat := lenL (AVal.list false s.length fun i => [AVal.int .u8 (↑(s.getD i 0).toNat : Int)]);
  bif wfL (fun (r : List AVal) => match r with | [AVal.int .u8 n] => decide (0 ≤ n) && decide (n < 256) | x => false) (AVal.list false s.length fun i => [AVal.int .u8 (↑(s.getD i 0).toNat : Int)]) && true && (↑s.length : Int) == (↑m0 : Int) && true && decide (m0 ≤ 1099511627776) && true then bif (decL (fun (r : List AVal) => byteOf r) (AVal.list false s.length fun i => [AVal.int .u8 (↑(s.getD i 0).toNat : Int)])).any lsB then k (Out.ret (AVal.bool false) []) else k (Out.ret (AVal.bool true) []) else none) := by kernel_rfl
def lsTold : FSp := mkFS [.s] (fun xs => decide ((aS xs 0).length ≤ 1099511627776)) (fun xs k => k (.ret (.bool (lsM (aS xs 0))) []))
noncomputable def readTold (K : Oc → Prop) (V : Oc → VaD) : FSp := mkF (fun xs H => aS xs 0) K (fun s => [.str s]) (fun _ => []) (fun s k => k (.ret (.tuple [.agg (encVa (V s)), .int .i64 (s.length : Nat), .int .i64 0]) []))
noncomputable def layJl (K : Oc → Prop) (V : Oc → VaD) : Lay := ((Lay.nil.addF 99 trimTold).addF 72 preTold).addF 73 (readTold K V)
theorem jsl_fun (K : Oc → Prop) (V : Oc → VaD) (s : Oc) (k : Out → Ans) : iFun Tryz.prog ((layJl K V).hd Tryz.prog) (layJl K V).fhs 0 38 [.str s] [] k = (
 let l0 : Oc := 32 :: trimL (trimR s);
  bif decide (s.length ≤ 1099511627776) then
  bif [45].isPrefixOf (trimL (trimR s)) then
  bif decide (1 + (trimL (trimR s)).length ≤ 4611686018427387904) then
  bif tst (K l0 ∧ SubL [AVal.str l0] [AVal.str l0] ∧ ([] : Heap) = []) then k (Out.ret (AVal.bool true) []) else none
  else none
  else
  bif tst (K (trimL (trimR s)) ∧ SubL [AVal.str (trimL (trimR s))] [AVal.str (trimL (trimR s))] ∧ ([] : Heap) = []) then
  k (Out.ret (AVal.bool true) [])
  else none
  else none) := by kernel_rfl
noncomputable def jlTold (K : Oc → Prop) : FSp := mkF (fun xs H => aS xs 0) K (fun s => [.str s]) (fun _ => []) (fun s k => k (.ret (.bool true) []))
noncomputable def layC7 (K : Oc → Prop) : Lay := (layFa.addF 38 (jlTold K)).addF 39 lsTold
theorem cont7_fun (K : Oc → Prop) (s : Oc) (k : Out → Ans) : iFun Tryz.prog ((layC7 K).hd Tryz.prog) (layC7 K).fhs 0 13 [.int .i64 7, .str s] [] k = (
 bif decide (s.length ≤ 268435456) then
 bif tst (K s ∧ SubL [AVal.str s] [AVal.str s] ∧ ([] : Heap) = []) then
 bif decide (s.length ≤ 1099511627776) then k (Out.ret (AVal.bool (lsM s)) []) else none
 else none
 else none) := by kernel_rfl
theorem cont9_fun (K : Oc → Prop) (s : Oc) (k : Out → Ans) : iFun Tryz.prog ((layC7 K).hd Tryz.prog) (layC7 K).fhs 0 13 [.int .i64 9, .str s] [] k = (
 bif decide (s.length ≤ 268435456) then
 bif tst (K (decP s) ∧ SubL [AVal.str (decP s)] [AVal.str (decP s)] ∧ ([] : Heap) = []) then
 k (Out.ret (AVal.bool (bif cleanM s then true else false)) [])
 else none
 else none) := by kernel_rfl
noncomputable def raTold (W : List AVal → Prop) (A : Int → List AVal → Oc) (X : Int → List AVal → Int) : FSp := mkF (fun xs H => (aI xs 0, cellsA (xs.getD 1 .undef))) (fun x => W x.2) (fun x => [.int .i64 x.1, .agg x.2]) (fun _ => []) (fun x k => k (.ret (.tuple [.str (A x.1 x.2), .int .i64 (X x.1 x.2)]) []))
noncomputable def ctTold (K : Int → Oc → Prop) : FSp := mkF (fun xs H => (aI xs 0, aS xs 1)) (fun x => K x.1 x.2) (fun x => [.int .i64 x.1, .str x.2]) (fun _ => []) (fun x k => k (.ret (.bool true) []))
noncomputable def layFc (W : List AVal → Prop) (A : Int → List AVal → Oc) (X : Int → List AVal → Int) (B : List AVal → Bool) (K : Int → Oc → Prop) : Lay := (((Lay.nil.addF 6 alive35Told).addF 11 (raTold W A X)).addF 12 (vpTold W B)).addF 13 (ctTold K)
theorem fc_fun (W : List AVal → Prop) (A : Int → List AVal → Oc) (X : Int → List AVal → Int) (B : List AVal → Bool) (K : Int → Oc → Prop) (e : Int) (v : VaD) (k : Out → Ans) : iFun Tryz.prog ((layFc W A X B K).hd Tryz.prog) (layFc W A X B K).fhs 0 4 [.int .i64 e, .agg (encVa v)] [] k = (
 let l0 : Oc := A e (cellsA (AVal.agg [AVal.int .i64 v.kind, AVal.int .i64 v.int, AVal.str v.text, AVal.list v.lf v.ln v.lr, AVal.list v.kf v.keys.length fun i => [AVal.str (v.keys.getD i [])]]));
  bif tst (W (cellsA (AVal.agg [AVal.int .i64 v.kind, AVal.int .i64 v.int, AVal.str v.text, AVal.list v.lf v.ln v.lr, AVal.list v.kf v.keys.length fun i => [AVal.str (v.keys.getD i [])]])) ∧ SubL [AVal.int .i64 e, AVal.agg [AVal.int .i64 v.kind, AVal.int .i64 v.int, AVal.str v.text, AVal.list v.lf v.ln v.lr, AVal.list v.kf v.keys.length fun i => [AVal.str (v.keys.getD i [])]]] [AVal.int .i64 e, AVal.agg (cellsA (AVal.agg [AVal.int .i64 v.kind, AVal.int .i64 v.int, AVal.str v.text, AVal.list v.lf v.ln v.lr, AVal.list v.kf v.keys.length fun i => [AVal.str (v.keys.getD i [])]]))] ∧ ([] : Heap) = []) then bif tst (W (cellsA (AVal.agg [AVal.int .i64 v.kind, AVal.int .i64 v.int, AVal.str v.text, AVal.list v.lf v.ln v.lr, AVal.list v.kf v.keys.length fun i => [AVal.str (v.keys.getD i [])]])) ∧ SubL [AVal.agg [AVal.int .i64 v.kind, AVal.int .i64 v.int, AVal.str v.text, AVal.list v.lf v.ln v.lr, AVal.list v.kf v.keys.length fun i => [AVal.str (v.keys.getD i [])]]] [AVal.agg (cellsA (AVal.agg [AVal.int .i64 v.kind, AVal.int .i64 v.int, AVal.str v.text, AVal.list v.lf v.ln v.lr, AVal.list v.kf v.keys.length fun i => [AVal.str (v.keys.getD i [])]]))] ∧ ([] : Heap) = []) then bif bif X e (cellsA (AVal.agg [AVal.int .i64 v.kind, AVal.int .i64 v.int, AVal.str v.text, AVal.list v.lf v.ln v.lr, AVal.list v.kf v.keys.length fun i => [AVal.str (v.keys.getD i [])]])) != 0 then true else !B (cellsA (AVal.agg [AVal.int .i64 v.kind, AVal.int .i64 v.int, AVal.str v.text, AVal.list v.lf v.ln v.lr, AVal.list v.kf v.keys.length fun i => [AVal.str (v.keys.getD i [])]])) then k (Out.ret (AVal.bool true) []) else bif tst (K e l0 ∧ SubL [AVal.int .i64 e, AVal.str l0] [AVal.int .i64 e, AVal.str l0] ∧ ([] : Heap) = []) then k (Out.ret (AVal.bool true) []) else none else none else none) := by kernel_rfl
end Go.Mu
namespace Go.Mu
open Go Go.Proofs
theorem lsf_call (s : Oc) (hs : s.length ≤ 1099511627776) (k : Out → Ans) : iFun Tryz.prog (lay_ls.hd Tryz.prog) lay_ls.fhs 0 39 [.str s] [] k = k (.ret (.bool (lsM s)) []) := by
 refine (lsf_fun s k).trans ?_
 refine (congrArg (fun c => cond c _ none) (ixG hs)).trans ?_
 simp only [cond_true, bytes_back]
 unfold lsM
 cases s.any lsB <;> rfl
theorem lsTold_ok : ∀ xs H k out, lsTold xs H k = some out → ∃ o, CallOK Tryz.prog 39 xs H o ∧ k o = some out := mkFS_ok fun ys xs e h => by
 obtain ⟨s, rfl⟩ : ∃ s, xs = [.str s] := ⟨_, e⟩
 exact ⟨_, fun k => rfl, lay_ls_ok.callF (G := []) rfl (fun k => lsf_call s (of_decide_eq_true h) k)⟩
def KRd (d : Nat) (s : Oc) : Prop := ∃ v, Good d v 16 ∧ s = litQ d v ∧ s.length ≤ 67108864
def VRd (d : Nat) (s : Oc) : VaD := VV d s 0
theorem readTold_ok (d : Nat) : ∀ xs H k out, readTold (KRd d) (VRd d) xs H k = some out → ∃ o, CallOK Tryz.prog 73 xs H o ∧ k o = some out := mkF_ok fun s h => ⟨_, fun k => rfl, by
 obtain ⟨v, hg, rfl, hl⟩ := h
 exact read_ok d v hg hl⟩
theorem layJl_ok (d : Nat) : (layJl (KRd d) (VRd d)).OK Tryz.prog := ((Lay.nil_ok.addF trimTold_ok).addF preTold_ok).addF (readTold_ok d)
theorem blk_dg : ∀ c : UInt8, dgN c = true → blk c = false := oct256 (p := fun c => dgN c = true → blk c = false) (by decide +kernel)
theorem lit_last {d : Nat} {v : VaD} {l : Int} (h : Good d v l) : ∃ t c, litQ d v = t ++ [c] ∧ blk c = false := by
 cases d with
 | zero => exact h.elim
 | succ d =>
  have hp : ∀ n : Int, ∃ t c, printM n = t ++ [c] ∧ blk c = false := fun n => by
   obtain ⟨c, t, e, _⟩ := print_ne n
   have hne : printM n ≠ [] := by rw [e]; simp
   refine ⟨(printM n).dropLast, (printM n).getLast hne, (List.dropLast_concat_getLast hne).symm, blk_dg _ (print_dg n _ (List.getLast_mem hne))⟩
  unfold litQ
  repeat' split
  · exact ⟨[110, 117, 108], 108, rfl, rfl⟩
  · exact ⟨[102, 97, 108, 115], 101, rfl, rfl⟩
  · exact ⟨[116, 114, 117], 101, rfl, rfl⟩
  · obtain ⟨t, c, e, hc⟩ := hp v.int
    exact ⟨32 :: t, c, by rw [e]; rfl, hc⟩
  · exact hp v.int
  · exact ⟨91 :: itmsQ (litQ d) v (vals v.list), 93, rfl, rfl⟩
  · exact ⟨123 :: itmsQ (litQ d) v (vals v.list), 125, rfl, rfl⟩
  · exact ⟨34 :: inP v.text, 34, rfl, rfl⟩
theorem trimR_blk {x t : Oc} {c : UInt8} (h : x = t ++ [c]) (hc : blk c = false) : trimR (blkQ x) = 32 :: x := by
 subst h
 unfold trimR blkQ
 have e : (32 :: (t ++ [c] ++ [32]) : Oc).reverse = 32 :: c :: (t.reverse ++ [32]) := by simp
 rw [e, List.dropWhile_cons, if_pos (by rfl), List.dropWhile_cons, if_neg (by rw [hc]; simp)]
 simp
theorem trim_lit {d : Nat} {v : VaD} {l : Int} (h : Good d v l) : (trimL (trimR (blkQ (litQ d v))) = litQ d v ∧ ([45] : Oc).isPrefixOf (litQ d v) = false) ∨ (32 :: trimL (trimR (blkQ (litQ d v))) = litQ d v ∧ ([45] : Oc).isPrefixOf (trimL (trimR (blkQ (litQ d v)))) = true) := by
 obtain ⟨t, c, e, hc⟩ := lit_last h
 rw [trimR_blk e hc]
 have e1 : trimL (32 :: litQ d v) = trimL (litQ d v) := by unfold trimL; rw [List.dropWhile_cons, if_pos (by rfl)]
 rw [e1]
 have key : ∀ {b : UInt8} {y : Oc}, litQ d v = b :: y → blk b = false → b ≠ 45 → (trimL (litQ d v) = litQ d v ∧ ([45] : Oc).isPrefixOf (litQ d v) = false) := fun {b y} eb hb h45 => by
  rw [eb]
  refine ⟨?_, ?_⟩
  · unfold trimL; rw [List.dropWhile_cons, if_neg (by rw [hb]; simp)]
  · show (([45] : Oc).isPrefixOf (b :: y)) = false
    rw [List.isPrefixOf_cons_cons]
    have : ((45 : UInt8) == b) = false := beq_false_of_ne (fun x => h45 x.symm)
    rw [this]; rfl
 cases d with
 | zero => exact h.elim
 | succ d =>
  have eL : litQ (d + 1) v = if v.kind = 0 then [110, 117, 108, 108] else if v.kind = 1 then [102, 97, 108, 115, 101] else if v.kind = 2 then [116, 114, 117, 101] else if v.kind = 3 then (if v.int < 0 then 32 :: printM v.int else printM v.int)
   else if v.kind = 5 then 91 :: (itmsQ (litQ d) v (vals v.list) ++ [93]) else if v.kind = 6 then 123 :: (itmsQ (litQ d) v (vals v.list) ++ [125]) else quoQ v.text := rfl
  by_cases k0 : v.kind = 0
  · rw [if_pos k0] at eL; exact .inl (key eL rfl (by decide))
  rw [if_neg k0] at eL
  by_cases k1 : v.kind = 1
  · rw [if_pos k1] at eL; exact .inl (key eL rfl (by decide))
  rw [if_neg k1] at eL
  by_cases k2 : v.kind = 2
  · rw [if_pos k2] at eL; exact .inl (key eL rfl (by decide))
  rw [if_neg k2] at eL
  by_cases k3 : v.kind = 3
  · rw [if_pos k3] at eL
    by_cases hn : v.int < 0
    · rw [if_pos hn] at eL
      have ep : printM v.int = 45 :: (printM v.int).tail := by
       unfold printM
       rw [dT hn]; rfl
      have et : trimL (litQ (d + 1) v) = printM v.int := by
       rw [eL]; unfold trimL
       rw [List.dropWhile_cons, if_pos (by rfl), ep, List.dropWhile_cons, if_neg (by decide)]
      refine .inr ⟨by rw [et, eL], ?_⟩
      rw [et, ep]; rfl
    · rw [if_neg hn] at eL
      obtain ⟨b, y, eb, hb⟩ := print_ne v.int
      have h45 : b ≠ 45 := fun hh => by
       subst hh
       have h2 : ∀ c ∈ printM v.int, c ≠ 45 := by
        unfold printM
        rw [dF hn, cond_false]
        have dg : ∀ (f u : Nat) (t : Oc), (∀ c ∈ t, c ≠ 45) → ∀ c ∈ digsF f u t, c ≠ 45 := by
         intro f
         induction f with
         | zero => intro u t h; exact h
         | succ f ih =>
          intro u t h
          have h3 : ∀ c ∈ UInt8.ofNat (48 + u % 10) :: t, c ≠ 45 := fun c hc => by
           rcases List.mem_cons.1 hc with rfl | hc
           · have : ∀ n : Fin 10, UInt8.ofNat (48 + n.val) ≠ 45 := by decide
             exact this ⟨u % 10, by omega⟩
           · exact h c hc
          rw [digsF]
          cases u / 10 == 0
          · exact ih _ _ h3
          · exact h3
        exact dg 19 _ [] (by simp)
       exact h2 45 (by rw [eb]; simp) rfl
      exact .inl (key (eL.trans eb) (blk_dg b hb) h45)
  rw [if_neg k3] at eL
  by_cases k5 : v.kind = 5
  · rw [if_pos k5] at eL; exact .inl (key eL rfl (by decide))
  rw [if_neg k5] at eL
  by_cases k6 : v.kind = 6
  · rw [if_pos k6] at eL; exact .inl (key eL rfl (by decide))
  rw [if_neg k6] at eL
  exact .inl (key (eL.trans rfl) rfl (by decide))
theorem jl_ok (d : Nat) (v : VaD) (hg : Good d v 16) (hl : (litQ d v).length ≤ 67108864) : CallOK Tryz.prog 38 [.str (blkQ (litQ d v))] [] (.ret (.bool true) []) := (layJl_ok d).call (fun k => (jsl_fun (KRd d) (VRd d) (blkQ (litQ d v)) k).trans (by
 have b1 : (blkQ (litQ d v)).length ≤ 1099511627776 := by unfold blkQ; simp only [List.length_cons, List.length_append, List.length_nil]; omega
 have hK : KRd d (litQ d v) := ⟨v, hg, rfl, hl⟩
 refine cT (dT b1) ?_
 rcases trim_lit hg with ⟨e, hp⟩ | ⟨e, hp⟩
 · refine cF (show ([45] : Oc).isPrefixOf (trimL (trimR (blkQ (litQ d v)))) = false by rw [e]; exact hp) ?_
   exact (congrArg (fun c => cond c _ none) (tst_true ⟨by rw [e]; exact hK, .refl _, rfl⟩)).trans (cond_true _ _)
 · have hlen : 1 + (trimL (trimR (blkQ (litQ d v)))).length ≤ 4611686018427387904 := by
    have := congrArg List.length e
    rw [List.length_cons] at this
    omega
   refine cU hp ?_
   refine cT (dT hlen) ?_
   exact (congrArg (fun c => cond c _ none) (tst_true ⟨by rw [e]; exact hK, .refl _, rfl⟩)).trans (cond_true _ _)))
theorem good_of : ∀ (d : Nat) (v : VaD) (c : Int), 0 ≤ c → c ≤ 16 → wfVal d v → chkV d v c = 0 → vplV d v = true → Good d v (16 - c)
 | 0, v, c, _, _, h, _, _ => h.elim
 | d + 1, v, c, h0, h16, hw, h, hp => by
  rw [chkV_s] at h
  have hp2 : (!(vals v.list).any (fun x => !vplV d x) && decide (v.kind < 7)) = true := hp
  rw [Bool.and_eq_true, Bool.not_eq_true', List.any_eq_false] at hp2
  have hk7 := of_decide_eq_true hp2.2
  cases h1 : (bif ckMany v then c == 16 else false) with
  | true => rw [h1] at h; exact absurd h (show ¬ (42 : Int) = 0 by decide)
  | false =>
   rw [h1, cond_false] at h
   unfold ckB at h
   cases h2 : decide ((v.text.length : Int) > 4096) with
   | true => rw [h2] at h; exact absurd h (show ¬ (5 : Int) = 0 by decide)
   | false =>
    rw [h2, cond_false] at h
    cases h3 : (bif decide ((v.ln : Int) > 1024) then true else decide ((v.keys.length : Int) > 1024)) with
    | true => rw [h3] at h; exact absurd h (show ¬ (3 : Int) = 0 by decide)
    | false =>
     rw [h3, cond_false] at h
     cases h4 : ckBad v with
     | true => rw [h4] at h; exact absurd h (show ¬ (9 : Int) = 0 by decide)
     | false =>
      rw [h4, cond_false] at h
      cases h5 : ckKey v with
      | true => rw [h5] at h; exact absurd h (show ¬ (9 : Int) = 0 by decide)
      | false =>
       rw [h5, cond_false] at h
       have hk0 : 0 ≤ v.kind := by
        unfold ckBad at h4
        cases hx : decide (v.kind < 0) with
        | false => have := of_decide_eq_false hx; omega
        | true => rw [hx] at h4; simp at h4
       cases ha : (vals v.list).any (fun x => chkV d x (c + 1) != 0) with
       | true =>
        exfalso
        rw [ha, cond_true] at h
        have hf := List.findIdx_lt_length_of_exists (List.any_eq_true.1 ha)
        have h6 := List.findIdx_getElem (w := hf)
        rw [List.getD_eq_getElem?_getD, List.getElem?_eq_getElem hf] at h
        simp only [Option.getD_some] at h
        rw [h] at h6
        exact absurd h6 (by decide)
       | false =>
        rw [List.any_eq_false] at ha
        refine ⟨hk0, by omega, ⟨hw.1, hw.2.1⟩, fun hm => ?_, fun h6 => ?_⟩
        · have hmany : ckMany v = true := by
           unfold ckMany
           rcases hm with hm | hm
           · rw [hm]; rfl
           · rw [hm]; rfl
          rw [hmany, cond_true] at h1
          have hc : c ≠ 16 := by simpa using h1
          refine ⟨⟨by omega, by omega⟩, fun w hwm => ?_⟩
          have hcw : chkV d w (c + 1) = 0 := by simpa using ha w hwm
          have hpw : vplV d w = true := by
           have := hp2.1 w hwm
           cases hx : vplV d w with
           | true => rfl
           | false => rw [hx] at this; exact absurd rfl this
          have := good_of d w (c + 1) (by omega) (by omega) (hw.2.2.2 w hwm) hcw hpw
          rw [show 16 - c - 1 = 16 - (c + 1) by omega]
          exact this
        · unfold ckKey at h5
          have b6 : (v.kind == 6) = true := by simpa using h6
          rw [b6, cond_true] at h5
          have hln : (vals v.list).length = v.ln := by unfold vals VaD.list decL; simp
          cases hx : (v.keys.length : Int) != (v.ln : Int) with
          | true => rw [hx] at h5; cases h5
          | false =>
           rw [hx, cond_false] at h5
           refine ⟨?_, by simpa using h5⟩
           have : (v.keys.length : Int) = (v.ln : Int) := by simpa using hx
           omega
end Go.Mu
namespace Go.Mu
open Go Go.Proofs
def vsOf : T → Oc
 | .s x => x
 | _ => []
def viOf : T → Int
 | .i _ n => n
 | _ => 0
def vlOf : T → List T
 | .l _ es => es
 | _ => []
def vfOf : T → Bool
 | .l f _ => f
 | _ => true
def vrAt (t : T) (j : Nat) : T := match t with
 | .r fs => fs.getD j (.r [])
 | _ => .r []
theorem vsub_T {α : Type} {conv : T → α} {E : α → List AVal} {d : α} {f : Bool} {es : List T} (h : ∀ t ∈ es, SubL t.enc (E (conv t))) : Sub (.list f es.length (T.encAt es)) (encL f E d (es.map conv)) := by
 unfold encL
 rw [List.length_map]
 refine Sub.list (fun h => h) (fun i hi => ?_)
 rw [T.encAt_get es i es[i] (List.getElem?_eq_getElem hi)]
 have : (es.map conv).getD i d = conv es[i] := by simp [List.getD_eq_getElem?_getD, List.getElem?_eq_getElem hi]
 rw [this]
 exact h _ (List.getElem_mem hi)
def valOf : Nat → T → VaD
 | 0, _ => va0
 | d + 1, t => ⟨viOf (vrAt t 0), viOf (vrAt t 1), vsOf (vrAt t 2), vfOf (vrAt t 3), (vlOf (vrAt t 3)).length, fun i => encVa (valOf d ((vlOf (vrAt t 3)).getD i (.r []))), vfOf (vrAt t 4), (vlOf (vrAt t 4)).map vsOf⟩
theorem valOf_vals (d : Nat) (t : T) : vals (valOf (d + 1) t).list = (vlOf (vrAt t 3)).map (valOf d) := by
 show decL decVa (.list _ (vlOf (vrAt t 3)).length (fun i => encVa (valOf d ((vlOf (vrAt t 3)).getD i (.r []))))) = _
 unfold decL
 simp only [decVa_enc]
 apply List.ext_getElem
 · simp
 · intro i h1 h2
   have hi : i < (vlOf (vrAt t 3)).length := by simpa using h1
   simp [List.getD_eq_getElem?_getD, List.getElem?_eq_getElem hi]
theorem sizes_sum : ∀ (es : List T), T.sizes es = (es.map T.size).sum
 | [] => rfl
 | t :: es => by rw [T.sizes, sizes_sum es, List.map_cons, List.sum_cons]
theorem sum_le_of {α : Type} (f g : α → Nat) : ∀ (l : List α), (∀ a ∈ l, f a ≤ g a) → (l.map f).sum ≤ (l.map g).sum
 | [], _ => Nat.le_refl _
 | a :: l, h => by
  have := sum_le_of f g l (fun b hb => h b (by simp [hb]))
  have := h a (by simp)
  simp only [List.map_cons, List.sum_cons]
  omega
theorem sum_mul (c : Nat) : ∀ (l : List Nat), (l.map (fun x => c * x)).sum = c * l.sum
 | [] => by simp
 | a :: l => by rw [List.map_cons, List.sum_cons, sum_mul c l, List.sum_cons, Nat.mul_add]
theorem str_Ts {t : T} (h : HasT Tryz.prog 9 t) : SubL t.enc (encS (vsOf t)) ∧ t.size = (vsOf t).length + 1 := by
 obtain ⟨s, rfl⟩ := h.str_inv (by kernel_rfl)
 exact ⟨by simp only [T.enc, vsOf, encS]; exact .refl _, rfl⟩
theorem val_T : ∀ (d : Nat) (t : T), HasT Tryz.prog 32 t → t.size ≤ d → SubL t.enc (encVa (valOf d t)) ∧ wfVal d (valOf d t) ∧ szV d (valOf d t) ≤ 16 * t.size
 | 0, t, h, hs => by have := t.size_pos; omega
 | d + 1, t, h, hs => by
  obtain ⟨parts, rfl, hp⟩ := h.struct_inv Tryz.underlying32
  obtain ⟨x0, xs, rfl, h0, hp⟩ := HasTs.cons_inv hp
  obtain ⟨x1, xs, rfl, h1, hp⟩ := HasTs.cons_inv hp
  obtain ⟨x2, xs, rfl, h2, hp⟩ := HasTs.cons_inv hp
  obtain ⟨x3, xs, rfl, h3, hp⟩ := HasTs.cons_inv hp
  obtain ⟨x4, xs, rfl, h4, hp⟩ := HasTs.cons_inv hp
  obtain rfl := HasTs.nil_inv hp
  obtain ⟨kd, rfl, _⟩ := h0.int_inv (k := .i64) (by kernel_rfl)
  obtain ⟨n, rfl, wn⟩ := h1.int_inv (k := .i64) (by kernel_rfl)
  obtain ⟨tx, rfl⟩ := h2.str_inv (by kernel_rfl)
  obtain ⟨f, es, rfl, hes⟩ := h3.slice_inv (e := 32) (by kernel_rfl)
  obtain ⟨kf, ks, rfl, hks⟩ := h4.slice_inv (e := 9) (by kernel_rfl)
  have rn : -9223372036854775808 ≤ n ∧ n ≤ 9223372036854775807 := by simpa [Lit.wf, IntKind.min, IntKind.max, IntKind.signed, IntKind.bits, IntKind.wrap] using wn
  simp only [T.size, T.sizes] at hs
  have ih := fun e (he : e ∈ es) => val_T d e (hes e he) (by have := T.size_mem es e he; omega)
  have ev : ∀ t : T, vlOf (vrAt (.r [.i .i64 kd, .i .i64 n, .s tx, .l f es, .l kf ks]) 3) = es := fun _ => rfl
  have hv : vals (valOf (d + 1) (.r [.i .i64 kd, .i .i64 n, .s tx, .l f es, .l kf ks])).list = es.map (valOf d) := valOf_vals d _
  refine ⟨?_, ⟨rn.1, rn.2, ?_, fun x hx => ?_⟩, ?_⟩
  · simp only [T.enc, T.encAll, List.append_nil, List.singleton_append, List.cons_append, List.nil_append]
    refine .cons (.refl _) (.cons (.refl _) (.cons (.refl _) (.cons (Sub.list (fun h => h) (fun i hi => ?_)) (.cons (vsub_T (fun t ht => (str_Ts (hks t ht)).1)) .nil))))
    rw [T.encAt_get es i es[i] (List.getElem?_eq_getElem hi)]
    have e : (vlOf (vrAt (.r [.i .i64 kd, .i .i64 n, .s tx, .l f es, .l kf ks]) 3)).getD i (.r []) = es[i] := by
     show es.getD i (.r []) = _
     rw [List.getD_eq_getElem?_getD, List.getElem?_eq_getElem hi]; rfl
    show SubL es[i].enc (encVa (valOf d ((vlOf (vrAt (.r [.i .i64 kd, .i .i64 n, .s tx, .l f es, .l kf ks]) 3)).getD i (.r []))))
    rw [e]
    exact (ih _ (List.getElem_mem hi)).1
  · show (List.range es.length).all (fun i => wfVa (encVa (valOf d (es.getD i (.r []))))) = true
    refine List.all_eq_true.2 (fun i _ => ?_)
    unfold wfVa
    exact tst_true (by rw [decVa_enc])
  · rw [hv] at hx
    obtain ⟨e, he, rfl⟩ := List.mem_map.1 hx
    exact (ih e he).2.1
  · unfold szV
    rw [hv]
    show 96 + 16 * tx.length + ((ks.map vsOf).map (fun k => 16 + 16 * k.length)).sum + ((es.map (valOf d)).map (szV d)).sum ≤ 16 * (T.size (.r _))
    simp only [T.size, T.sizes]
    have a1 : ((es.map (valOf d)).map (szV d)).sum ≤ 16 * T.sizes es := by
     rw [List.map_map, sizes_sum, ← sum_mul, List.map_map]
     exact sum_le_of _ _ es (fun e he => (ih e he).2.2)
    have a2 : ((ks.map vsOf).map (fun k => 16 + 16 * k.length)).sum ≤ 16 * T.sizes ks := by
     rw [List.map_map, sizes_sum, ← sum_mul, List.map_map]
     refine sum_le_of _ _ ks (fun e he => ?_)
     have := (str_Ts (hks e he)).2
     show 16 + 16 * (vsOf e).length ≤ 16 * e.size
     omega
    omega
end Go.Mu
namespace Go.Mu
open Go Go.Proofs
theorem may_asc : ∀ c : UInt8, unrM ((c.toNat : Nat) : Int) = true ∨ resM ((c.toNat : Nat) : Int) = true → ascB c = true := oct256 (p := fun c => unrM ((c.toNat : Nat) : Int) = true ∨ resM ((c.toNat : Nat) : Int) = true → ascB c = true) (by decide +kernel)
theorem hexB_asc (n : Int) : ascL (hexB n 2) := fun c hc => by
 unfold hexB at hc
 rw [if_pos rfl] at hc
 simp only [List.mem_cons, List.not_mem_nil, or_false] at hc
 rcases hc with rfl | rfl <;> exact (hxd_ok _ (Nat.mod_lt _ (by decide))).2.2
theorem pcA (b : Bool) (s : Oc) : ascL (pcP b s) := by
 unfold pcP pcT
 refine ascL_flat (fun i hi => ?_)
 unfold pcG
 cases hm : pcMay b (rpP s) i with
 | true =>
  rw [cond_true]
  intro c hc
  rw [List.mem_singleton] at hc
  subst hc
  unfold pcMay at hm
  cases h1 : unrM (((rpP s).getD i 0).toNat : Int) with
  | true => exact may_asc _ (.inl h1)
  | false =>
   rw [h1, cond_false] at hm
   cases b with
   | false => cases hm
   | true =>
    rw [cond_true] at hm
    cases h2 : resM (((rpP s).getD i 0).toNat : Int) with
    | true => exact may_asc _ (.inr h2)
    | false =>
     rw [h2, cond_false] at hm
     have h37 : (rpP s).getD i 0 = 37 := by
      unfold rcdS at hm
      cases hx : ((rpP s).drop i).getD 0 0 == 37 with
      | false => rw [hx] at hm; cases hm
      | true =>
       have h := eq_of_beq hx
       rw [List.getD_eq_getElem?_getD, List.getElem?_drop, Nat.add_zero, ← List.getD_eq_getElem?_getD] at h
       exact h
     rw [h37]; decide
 | false =>
  rw [cond_false]
  intro c hc
  rcases List.mem_cons.1 hc with rfl | hc
  · decide
  · exact hexB_asc _ c hc
theorem fltA (s : Oc) : ascL (fltQ s) := by
 unfold fltQ
 cases (schemeM s).2 && !alwM (schemeM s).1
 · exact pcA true s
 · rw [cond_true]; exact ascL_of (by decide +kernel)
theorem items_len4 (f : Nat → Oc) (S : VaD → Nat) (ks : List Oc) (l : List VaD) (h : ∀ i, i < l.length → 4 * (f i).length ≤ S (l.getD i va0) + (if i < ks.length then 16 + 16 * (ks.getD i []).length else 0)) : ∀ i, i ≤ l.length →
 4 * ((List.range i).flatMap f).length ≤ ((l.take i).map S).sum + kSum (ks.take i) := by
 intro i
 induction i with
 | zero => intro _; simp
 | succ i ih =>
  intro hi
  have ih := ih (by omega)
  have h1 := h i (by omega)
  rw [List.range_succ, List.flatMap_append, List.length_append, qtake_sum S l va0 i (by omega)]
  have e : ([i].flatMap f) = f i := by simp
  rw [e]
  unfold kSum at *
  by_cases hk : i < ks.length
  · rw [qtake_sum (fun k : Oc => 16 + 16 * k.length) ks [] i hk]
    rw [if_pos hk] at h1
    omega
  · rw [List.take_of_length_le (by omega : ks.length ≤ i + 1)]
    rw [List.take_of_length_le (by omega : ks.length ≤ i)] at ih
    rw [if_neg hk] at h1
    omega
theorem itmP_len4 (R : VaD → Oc) (S : VaD → Nat) (hR : ∀ v, 4 * (R v).length + 8 ≤ S v) (v : VaD) (l : List VaD) (i : Nat) : 4 * (itmP R v l i).length ≤ S (l.getD i va0) + (if i < v.keys.length then 16 + 16 * (v.keys.getD i []).length else 0) := by
 have h1 := hR (l.getD i va0)
 have h0 : (if 0 < i then ([32] : Oc) else []).length ≤ 1 := by split <;> simp
 unfold itmP
 rw [List.length_append, List.length_append]
 by_cases hk : v.kind = 6
 · rw [if_pos hk, List.length_append, List.length_singleton]
   by_cases h6 : i < v.keys.length
   · rw [if_pos h6, if_pos h6]; omega
   · rw [if_neg h6, if_neg h6]; simp only [List.length_nil]; omega
 · rw [if_neg hk]
   simp only [List.length_nil]
   omega
theorem prQ_len4 : ∀ (d : Nat) (v : VaD), 4 * (prQ d v).length + 8 ≤ szV d v
 | 0, v => by unfold prQ szV; simp
 | d + 1, v => by
  have h1 := items_len4 (itmP (prQ d) v (vals v.list)) (szV d) v.keys (vals v.list) (fun i hi => itmP_len4 (prQ d) (szV d) (prQ_len4 d) v _ i) (vals v.list).length (Nat.le_refl _)
  have h3 := printM_le v.int
  have h5 := qtake_le (fun k : Oc => 16 + 16 * k.length) v.keys (vals v.list).length
  rw [List.take_length] at h1
  have h4 : 4 * (itmsP (prQ d) v (vals v.list)).length ≤ ((vals v.list).map (szV d)).sum + kSum (v.keys.take (vals v.list).length) := h1
  unfold kSum at h4
  unfold prQ szV
  repeat' split
  all_goals first
   | (simp only [List.length_cons, List.length_nil]; omega)
   | (simp only [List.length_append, List.length_cons, List.length_nil]; omega)
   | omega
def KC (e : Int) (t : Oc) : Prop := CallOK Tryz.prog 13 [.int .i64 e, .str t] [] (.ret (.bool true) [])
theorem ctTold_ok : ∀ xs H k out, ctTold KC xs H k = some out → ∃ o, CallOK Tryz.prog 13 xs H o ∧ k o = some out := mkF_ok fun x h => ⟨_, fun k => rfl, h⟩
theorem KC_of {e : Int} {t : Oc} (h7 : e ≠ 7) (h9 : e ≠ 9) (hl : t.length ≤ 268435456) (h : contM e t = true) : KC e t := by
 have := layCoR_ok.callF (G := []) rfl (fun k => cont_call e t h7 h9 hl k)
 rw [h] at this
 exact this
theorem esc_len4 (t : Oc) (h : t.length ≤ 4194304) : (escP t).length ≤ 268435456 := by
 have := escP_len t
 have := rpP_len t
 omega
theorem escA_len {x : Oc} (ha : ascL x) : (escP x).length ≤ 5 * x.length := by
 rw [escP_asc ha]
 exact flat_len escC 5 escC_len x
theorem layC7_ok {K : Oc → Prop} (h : ∀ s, K s → CallOK Tryz.prog 38 [.str s] [] (.ret (.bool true) [])) : (layC7 K).OK Tryz.prog :=
 (layFa_ok.addF (s := jlTold K) (mkF_ok fun s hs => ⟨_, fun k => rfl, h s hs⟩)).addF lsTold_ok
abbrev KJ (s : Oc) : Prop := CallOK Tryz.prog 38 [.str s] [] (.ret (.bool true) [])
theorem KC7 {x : Oc} (hJ : KJ x) (hQ : allQ x) (hl : x.length ≤ 268435456) : KC 7 x := (layC7_ok (K := KJ) (fun s h => h)).callF (G := []) rfl (fun k => (cont7_fun KJ x k).trans (by
 refine cT (dT hl) ?_
 refine cT (tst_true ⟨hJ, .refl _, rfl⟩) ?_
 refine cT (dT (show x.length ≤ 1099511627776 by omega)) ?_
 rw [ls_of hQ]))
theorem KC9 {x : Oc} (hJ : KJ x) (hA : ascL x) (hl : (escP x).length ≤ 268435456) (hx : x.length ≤ 200000000000) : KC 9 (escP x) := (layC7_ok (K := KJ) (fun s h => h)).callF (G := []) rfl (fun k => (cont9_fun KJ (escP x) k).trans (by
 refine cT (dT hl) ?_
 have e := dec_escP hA hx
 refine cT (tst_true ⟨by rw [e]; exact hJ, .refl _, rfl⟩) ?_
 rw [esc_clean]; rfl))
theorem cM1 (s : Oc) : contM 1 s = cleanM s := rfl
theorem cM2 (s : Oc) : contM 2 s = cleanM s := rfl
theorem cM3 (s : Oc) : contM 3 s = cleanM s := rfl
theorem cM5 (s : Oc) : contM 5 s = cleanM s := rfl
theorem cM6 (s : Oc) : contM 6 s = cleanM s := rfl
theorem cM4 (s : Oc) : contM 4 s = (bif cleanM s then (bif !(schemeM (decP s)).2 then true else alwM (schemeM (decP s)).1) else false) := rfl
theorem cM8 (s : Oc) : contM 8 s = safeM s := rfl
theorem cM10 (s : Oc) : contM 10 s = bif cleanM s then safeM (decP s) else false := rfl
theorem cM11 (s : Oc) : contM 11 s = plainM s := rfl
theorem cM12 (s : Oc) : contM 12 s = bif cleanM s then plainM (decP s) else false := rfl
theorem pl_cont (e : Int) (t : Oc) (h1 : 1 ≤ e) (h12 : e ≤ 12) (h7 : e ≠ 7) (h9 : e ≠ 9) (ht : t.length ≤ 4194304) : KC e (plQ e t) := by
 have hE := esc_len4 t ht
 have hf := flt_len t
 have hp1 := pcP_len true t
 have hp0 := pcP_len false t
 have hi := inP_len t
 have hs := sty_len t
 unfold plQ
 by_cases k1 : e = 1
 · rw [if_pos (by omega)]
   subst k1
   exact KC_of h7 h9 hE (by rw [cM1]; exact esc_clean t)
 by_cases k2 : e = 2
 · rw [if_pos (by omega)]
   subst k2
   exact KC_of h7 h9 hE (by rw [cM2]; exact esc_clean t)
 by_cases k3 : e = 3
 · rw [if_pos (by omega)]
   subst k3
   exact KC_of h7 h9 hE (by rw [cM3]; exact esc_clean t)
 rw [if_neg (by omega)]
 by_cases k4 : e = 4
 · rw [if_pos k4]
   subst k4
   have hl := escA_len (fltA t)
   refine KC_of h7 h9 (by omega) ?_
   rw [cM4, esc_clean, dec_escP (fltA t) (by omega)]
   exact flt_sch t
 rw [if_neg k4]
 by_cases k5 : e = 5
 · rw [if_pos k5]
   subst k5
   have hl := escA_len (pcA true t)
   exact KC_of h7 h9 (by omega) (by rw [cM5]; exact esc_clean _)
 rw [if_neg k5]
 by_cases k6 : e = 6
 · rw [if_pos k6]
   subst k6
   have hl := escA_len (pcA false t)
   exact KC_of h7 h9 (by omega) (by rw [cM6]; exact esc_clean _)
 rw [if_neg k6]
 by_cases k8 : e = 8
 · rw [if_pos k8]
   subst k8
   exact KC_of h7 h9 (by omega) (by rw [cM8]; exact in_safe t)
 rw [if_neg k8]
 by_cases k10 : e = 10
 · rw [if_pos k10]
   subst k10
   have hl := escA_len (inP_asc t)
   refine KC_of h7 h9 (by omega) ?_
   rw [cM10, esc_clean, dec_escP (inP_asc t) (by omega)]
   exact in_safe t
 rw [if_neg k10]
 by_cases k11 : e = 11
 · rw [if_pos k11]
   subst k11
   exact KC_of h7 h9 (by omega) (by rw [cM11]; exact sty_plain t)
 rw [if_neg k11]
 by_cases k12 : e = 12
 · rw [if_pos k12]
   subst k12
   have hA := plain_asc (sty_plain t)
   have hl := escA_len hA
   refine KC_of h7 h9 (by omega) ?_
   rw [cM12, esc_clean, dec_escP hA (by omega)]
   exact sty_plain t
 omega
def apA (d : Nat) (e : Int) (x : List AVal) : Oc := apQ d e (decVa x)
def apX (d : Nat) (e : Int) (x : List AVal) : Int := apE d e (decVa x)
theorem raTold_ok (d : Nat) : ∀ xs H k out, raTold (WvD d) (apA d) (apX d) xs H k = some out → ∃ o, CallOK Tryz.prog 11 xs H o ∧ k o = some out := mkF_ok fun x h => ⟨_, fun k => rfl, by
 have h1 : x.2 = encVa (decVa x.2) := h.1
 have key := ap_ok d x.1 (decVa x.2) (by rw [← h1]; exact h)
 rw [← h1] at key
 exact key⟩
theorem layFc_ok (d : Nat) : (layFc (WvD d) (apA d) (apX d) (vplR d) KC).OK Tryz.prog := (((Lay.nil_ok.addF alive35Told_ok).addF (raTold_ok d)).addF (vpTold_ok d)).addF ctTold_ok
theorem ap_cont (d : Nat) (e : Int) (v : VaD) (h : WvD d (encVa v)) (hX : apE d e v = 0) (hp : vplV d v = true) : KC e (apQ d e v) := by
 have h3 : szV d v ≤ 16777216 := by have := h.2.2; rwa [decVa_enc] at this
 have h2 : wfVal d v := by have := h.2.1; rwa [decVa_enc] at this
 have hl := litQ_len d v
 have hr := prQ_len4 d v
 have ht : (toQ d v).length ≤ 4194304 := by
  unfold toQ
  cases v.kind == 0
  · rw [cond_false]; omega
  · simp
 have hE := hX
 unfold apE at hE
 cases hd : (bif decide (e < 1) then true else decide (e > 12)) with
 | true => rw [hd] at hE; exact absurd hE (show ¬ (4 : Int) = 0 by decide)
 | false =>
  rw [hd, cond_false] at hE
  have h1 : 1 ≤ e ∧ e ≤ 12 := by
   cases hx : decide (e < 1) with
   | true => rw [hx] at hd; cases hd
   | false =>
    rw [hx, cond_false] at hd
    have := of_decide_eq_false hx
    have := of_decide_eq_false hd
    omega
  have hg := good_of d v 0 (by decide) (by decide) h2 hE hp
  have hk : v.kind ≤ 6 := by
   cases d with
   | zero => exact h2.elim
   | succ d => exact hg.2.1
  have hs : safB e v.kind = false := by
   unfold safB
   rw [beq_false_of_ne (show v.kind ≠ 7 by omega), beq_false_of_ne (show v.kind ≠ 8 by omega), beq_false_of_ne (show v.kind ≠ 9 by omega), beq_false_of_ne (show v.kind ≠ 10 by omega), beq_false_of_ne (show v.kind ≠ 11 by omega)]
   rfl
  have hb : (blkQ (litQ d v)).length = (litQ d v).length + 2 := by unfold blkQ; simp
  have hJ : KJ (blkQ (litQ d v)) := jl_ok d v hg (by omega)
  have hQ : allQ (blkQ (litQ d v)) := blk_Q (lit_Q d v)
  unfold apQ
  rw [hX, hs]
  show KC e (bif e == 7 then blkQ (litQ d v) else bif e == 9 then escP (blkQ (litQ d v)) else plQ e (toQ d v))
  by_cases k7 : e = 7
  · subst k7
    show KC 7 (blkQ (litQ d v))
    exact KC7 hJ hQ (by omega)
  rw [beq_false_of_ne k7, cond_false]
  by_cases k9 : e = 9
  · subst k9
    show KC 9 (escP (blkQ (litQ d v)))
    have hA := allQ_asc hQ
    have := escA_len hA
    exact KC9 hJ hA (by omega) (by omega)
  rw [beq_false_of_ne k9, cond_false]
  exact pl_cont e (toQ d v) h1.1 h1.2 k7 k9 ht
theorem fc_ok (d : Nat) (e : Int) (v : VaD) (h : WvD d (encVa v)) : CallOK Tryz.prog 4 [.int .i64 e, .agg (encVa v)] [] (.ret (.bool true) []) := (layFc_ok d).callF (G := []) rfl (fun k => (fc_fun (WvD d) (apA d) (apX d) (vplR d) KC e v k).trans (by
 refine cT (tst_true ⟨h, .refl _, rfl⟩) ?_
 refine cT (tst_true ⟨h, .refl _, rfl⟩) ?_
 have eA : apA d e (encVa v) = apQ d e v := by unfold apA; rw [decVa_enc]
 have eX : apX d e (encVa v) = apE d e v := by unfold apX; rw [decVa_enc]
 have eB : vplR d (encVa v) = vplV d v := vplR_enc d v
 cases hX : apE d e v != 0 with
 | true =>
  refine (congrArg (fun c => cond c _ _) (show (bif apX d e (encVa v) != 0 then true else !vplR d (encVa v)) = true by rw [eX, hX]; rfl)).trans ?_
  rfl
 | false =>
  cases hp : vplV d v with
  | false =>
   refine (congrArg (fun c => cond c _ _) (show (bif apX d e (encVa v) != 0 then true else !vplR d (encVa v)) = true by rw [eX, hX, eB, hp]; rfl)).trans ?_
   rfl
  | true =>
   refine cF (show (bif apX d e (encVa v) != 0 then true else !vplR d (encVa v)) = false by rw [eX, hX, eB, hp]; rfl) ?_
   have hX0 : apE d e v = 0 := by simpa using hX
   refine (congrArg (fun c => cond c _ none) (tst_true ⟨?_, .refl _, rfl⟩)).trans (cond_true _ _)
   show KC e (apA d e (encVa v))
   rw [eA]
   exact ap_cont d e v h hX0 hp))
end Go.Mu
namespace Go.Mu
open Go
variable {H : Type}
mutual
theorem size_bulk : ∀ d : DataW H, (tOf d).size ≤ Go.Proofs.YthbdcgfaklnelaaGreatDoor.Rows.uptoBulk d
 | .lit (.bool _) => by simp [tOf, T.size, Go.Proofs.YthbdcgfaklnelaaGreatDoor.Rows.uptoBulk]
 | .lit (.int _ _) => by simp [tOf, T.size, Go.Proofs.YthbdcgfaklnelaaGreatDoor.Rows.uptoBulk]
 | .lit (.string _) => by simp [tOf, T.size, Go.Proofs.YthbdcgfaklnelaaGreatDoor.Rows.uptoBulk]
 | .lit (.float _ _) => by simp [tOf, T.size, T.sizes, Go.Proofs.YthbdcgfaklnelaaGreatDoor.Rows.uptoBulk]
 | .lit .nil => by simp [tOf, T.size, T.sizes, Go.Proofs.YthbdcgfaklnelaaGreatDoor.Rows.uptoBulk]
 | .nil => by simp [tOf, T.size, T.sizes, Go.Proofs.YthbdcgfaklnelaaGreatDoor.Rows.uptoBulk]
 | .ptr d => by simp [tOf, T.size, T.sizes, Go.Proofs.YthbdcgfaklnelaaGreatDoor.Rows.uptoBulk]
 | .slice es sp => by
  have := size_bulks es
  simp only [tOf, T.size, Go.Proofs.YthbdcgfaklnelaaGreatDoor.Rows.uptoBulk]
  omega
 | .agg ps => by
  have := size_bulks ps
  simp only [tOf, T.size, Go.Proofs.YthbdcgfaklnelaaGreatDoor.Rows.uptoBulk]
  omega
 | .iface _ d => by simp [tOf, T.size, T.sizes, Go.Proofs.YthbdcgfaklnelaaGreatDoor.Rows.uptoBulk]
 | .map _ => by simp [tOf, T.size, T.sizes, Go.Proofs.YthbdcgfaklnelaaGreatDoor.Rows.uptoBulk]
 | .held _ => by simp [tOf, T.size, T.sizes, Go.Proofs.YthbdcgfaklnelaaGreatDoor.Rows.uptoBulk]
theorem size_bulks : ∀ ds : List (DataW H), T.sizes (tOfs ds) ≤ Go.Proofs.YthbdcgfaklnelaaGreatDoor.Rows.uptoBulkAll ds
 | [] => by simp [tOfs, T.sizes, Go.Proofs.YthbdcgfaklnelaaGreatDoor.Rows.uptoBulkAll]
 | d :: ds => by
  have := size_bulk d
  have := size_bulks ds
  simp only [tOfs, T.sizes, Go.Proofs.YthbdcgfaklnelaaGreatDoor.Rows.uptoBulkAll]
  omega
end
theorem small_size {ds : List (DataW H)} (h : Go.Proofs.YthbdcgfaklnelaaGreatDoor.Rows.uptoSmall H ds = true) : T.sizes (tOfs ds) ≤ 1048576 := by
 unfold Go.Proofs.YthbdcgfaklnelaaGreatDoor.Rows.uptoSmall at h
 have := size_bulks ds
 have := of_decide_eq_true h
 omega
end Go.Mu
namespace Go.Proofs
open Go.Shelf
theorem Tryz.uRen_260 : Lays.n260 Tryz.prog Tryz.uRen := { Tryz.uRen_197 with }
theorem Tryz.u8Extra : U8Extra Tryz.prog Tryz.uRen where
 n3 := by kernel_rfl
 n4 := by kernel_rfl
 y3 := by kernel_rfl
 y4 := by kernel_rfl
 c5 := by kernel_rfl
 c119 := by kernel_rfl
 c138 := by kernel_rfl
end Go.Proofs
namespace Go.Mu
open Go Go.Proofs
theorem tabs_glob {W : World} {laid : List (String × DataW Unit)} (hl : laidMet Tryz.prog laid W) (h1 : ("unicode/utf8.first", Lib.firstData) ∈ laid) (h2 : ("unicode/utf8.acceptRanges", Lib.acceptData) ∈ laid) : ∀ g cells, gvals g = some cells → RepP W (oldB W) (.rptr cells) (.pointer (some ⟨g, 0, none⟩)) := by
 have hT : Lib.Utf8Tabs 1 2 W := utf8Tabs_of_reads Tryz.uRen_260 Tryz.u8Extra (Lib.laidMet.reads hl h1) (Lib.laidMet.reads hl h2)
 obtain ⟨t1, t2⟩ := hT
 have lt : ∀ {g j v}, W.cell? ⟨g, j, none⟩ = some v → oldB W g := fun {g j v} h => by
  show g < W.heap.size
  unfold World.cell? at h
  by_cases hlt : g < W.heap.size
  · exact hlt
  · have hle : W.heap.size ≤ (Addr.mk g j none).block := by show W.heap.size ≤ g; omega
    rw [Array.getElem?_eq_none hle] at h
    simp at h
 intro g cells hg
 unfold gvals at hg
 split at hg
 · rename_i e
   have e : g = 1 := by simpa using e
   subst e
   simp only [Option.some.injEq] at hg
   subst hg
   refine .rptr _ _ 0 (fun j => .int .u8 (Lib.firstT j)) (lt (t1 0 (by omega))) (fun j hj => ?_) (fun j hj => ?_)
   · simp only [List.length_map, List.length_range] at hj
     rw [Nat.zero_add]
     exact ⟨t1 j hj, rfl⟩
   · simp only [List.length_map, List.length_range] at hj
     rw [List.getD_eq_getElem?_getD, List.getElem?_map, List.getElem?_range hj]
     exact .int _ _
 · split at hg
   · rename_i e
     have e : g = 2 := by simpa using e
     subst e
     simp only [Option.some.injEq] at hg
     subst hg
     refine .rptr _ _ 0 (fun j => .int .u8 ((if j % 2 = 0 then Lib.accLo (j / 2) else Lib.accHi (j / 2) : Nat) : Int)) (lt (t2 0 (by omega)).1) (fun j hj => ?_) (fun j hj => ?_)
     · simp only [List.length_map, List.length_range] at hj
       rw [Nat.zero_add]
       refine ⟨?_, rfl⟩
       have h3 := t2 (j / 2) (by omega)
       by_cases hp : j % 2 = 0
       · rw [if_pos hp]
         have : 2 * (j / 2) = j := by omega
         rw [this] at h3
         exact h3.1
       · rw [if_neg hp]
         have : 2 * (j / 2) + 1 = j := by omega
         rw [this] at h3
         exact h3.2
     · simp only [List.length_map, List.length_range] at hj
       rw [List.getD_eq_getElem?_getD, List.getElem?_map, List.getElem?_range hj]
       simp only [Option.map_some, Option.getD_some]
       split <;> exact .int _ _
   · cases hg
end Go.Mu
