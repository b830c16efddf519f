/-
  Lemmas on the given program (part 6).
-/
import Derived.Test.YtchpbmjhpeghoaaGreatDoorTP5
import Derived.Lib.LaidU8
import Derived.Lib.LaidTab
set_option linter.unusedVariables false
set_option linter.unusedSimpArgs false
set_option maxRecDepth 100000
namespace Go.Proofs
open Go.Shelf
theorem Tryz.uRen_260 : Lays.n260 Tryz.prog Tryz.uRen := { Tryz.uRen_197 with }
theorem Tryz.u8Extra : U8Extra Tryz.prog Tryz.uRen where
 n3 := by kernel_rfl
 n4 := by kernel_rfl
 y3 := by kernel_rfl
 y4 := by kernel_rfl
 c5 := by kernel_rfl
 c119 := by kernel_rfl
 c138 := by kernel_rfl
end Go.Proofs
namespace Go.Mu
open Go Go.Proofs
theorem tabIs_of_reads {P : Program} {W : World} {name : String} {k : IntKind} {zs : List Int} {g : Nat} {t e : TypeId} {n : Nat}
 (hg : P.globalNamed name = some g) (hty : (P.globals[g]?).map (·.type) = some t) (ht : P.underlying t = some (.array n e)) (he : P.underlying e = some (.int k)) (hce : P.cellsOf e = 1) (hct : P.cellsOf t = n)
 (h : Lib.VarReads P W name (Lib.tabData k zs)) : Lib.TabIs P W name k zs := by
 obtain ⟨g', t', cs, fuel, p, hg', ht', hvar, hd⟩ := h
 obtain rfl := Option.some.inj (hg.symm.trans hg')
 obtain rfl := Option.some.inj (hty.symm.trans ht')
 unfold Lib.TabIs
 rw [hvar, ← Lib.cells_of_tab ht he hce hct hd]
theorem asc_rep {W : World} {imm : Nat → Prop} (h : Lib.TabIs Tryz.prog W "strings.asciiSpace" .u8 Lib.asciiSpaceTab) (hi : imm 3) : RepP W imm (.rptr (Lib.asciiSpaceTab.map (AVal.int .u8))) (.pointer (some ⟨3, 0, none⟩)) := by
 refine .rptr _ _ 0 (fun j => .int .u8 (Lib.asciiSpaceTab.getD j 0)) hi (fun j hj => ?_) (fun j hj => ?_)
 · rw [List.length_map] at hj
   rw [Nat.zero_add]
   exact ⟨h.cell (by kernel_rfl) j hj, rfl⟩
 · rw [List.length_map] at hj
   rw [List.getD_eq_getElem?_getD, List.getElem?_map, List.getElem?_eq_getElem hj, List.getD_eq_getElem?_getD, List.getElem?_eq_getElem hj]
   exact .int _ _
theorem asc_reads {W : World} {laid : List (String × DataW Unit)} (hl : laidMet Tryz.prog laid W) (h3 : ("strings.asciiSpace", Lib.tabData .u8 Lib.asciiSpaceTab) ∈ laid) : Lib.TabIs Tryz.prog W "strings.asciiSpace" .u8 Lib.asciiSpaceTab :=
 tabIs_of_reads (g := 3) (by kernel_rfl) (by kernel_rfl) (t := 358) (e := 5) (n := 256) (by kernel_rfl) (by kernel_rfl) (by kernel_rfl) (by kernel_rfl) (Lib.laidMet.reads hl h3)
theorem asc_old {W : World} (h : Lib.TabIs Tryz.prog W "strings.asciiSpace" .u8 Lib.asciiSpaceTab) : oldB W 3 := by
 have h : W.cell? ⟨3, 0, none⟩ = some (.int .u8 (Lib.asciiSpaceTab.getD 0 0)) := h.cell (by kernel_rfl) 0 (by rw [Lib.asciiSpaceTab_length]; omega)
 show 3 < W.heap.size
 unfold World.cell? at h
 by_cases hlt : 3 < W.heap.size
 · exact hlt
 · have hle : W.heap.size ≤ (Addr.mk 3 0 none).block := by show W.heap.size ≤ 3; omega
   rw [Array.getElem?_eq_none hle] at h
   simp at h
theorem tabs_glob {W : World} {laid : List (String × DataW Unit)} (hl : laidMet Tryz.prog laid W) (h1 : ("unicode/utf8.first", Lib.firstData) ∈ laid) (h2 : ("unicode/utf8.acceptRanges", Lib.acceptData) ∈ laid) (h3 : ("strings.asciiSpace", Lib.tabData .u8 Lib.asciiSpaceTab) ∈ laid) : ∀ g cells, gvals g = some cells → RepP W (oldB W) (.rptr cells) (.pointer (some ⟨g, 0, none⟩)) := by
 have hT : Lib.Utf8Tabs 1 2 W := utf8Tabs_of_reads Tryz.uRen_260 Tryz.u8Extra (Lib.laidMet.reads hl h1) (Lib.laidMet.reads hl h2)
 obtain ⟨t1, t2⟩ := hT
 have lt : ∀ {g j v}, W.cell? ⟨g, j, none⟩ = some v → oldB W g := fun {g j v} h => by
  show g < W.heap.size
  unfold World.cell? at h
  by_cases hlt : g < W.heap.size
  · exact hlt
  · have hle : W.heap.size ≤ (Addr.mk g j none).block := by show W.heap.size ≤ g; omega
    rw [Array.getElem?_eq_none hle] at h
    simp at h
 intro g cells hg
 unfold gvals at hg
 split at hg
 · rename_i e
   have e : g = 1 := by simpa using e
   subst e
   simp only [Option.some.injEq] at hg
   subst hg
   refine .rptr _ _ 0 (fun j => .int .u8 (Lib.firstT j)) (lt (t1 0 (by omega))) (fun j hj => ?_) (fun j hj => ?_)
   · simp only [List.length_map, List.length_range] at hj
     rw [Nat.zero_add]
     exact ⟨t1 j hj, rfl⟩
   · simp only [List.length_map, List.length_range] at hj
     rw [List.getD_eq_getElem?_getD, List.getElem?_map, List.getElem?_range hj]
     exact .int _ _
 · split at hg
   · rename_i e
     have e : g = 2 := by simpa using e
     subst e
     simp only [Option.some.injEq] at hg
     subst hg
     refine .rptr _ _ 0 (fun j => .int .u8 ((if j % 2 = 0 then Lib.accLo (j / 2) else Lib.accHi (j / 2) : Nat) : Int)) (lt (t2 0 (by omega)).1) (fun j hj => ?_) (fun j hj => ?_)
     · simp only [List.length_map, List.length_range] at hj
       rw [Nat.zero_add]
       refine ⟨?_, rfl⟩
       have h3 := t2 (j / 2) (by omega)
       by_cases hp : j % 2 = 0
       · rw [if_pos hp]
         have : 2 * (j / 2) = j := by omega
         rw [this] at h3
         exact h3.1
       · rw [if_neg hp]
         have : 2 * (j / 2) + 1 = j := by omega
         rw [this] at h3
         exact h3.2
     · simp only [List.length_map, List.length_range] at hj
       rw [List.getD_eq_getElem?_getD, List.getElem?_map, List.getElem?_range hj]
       simp only [Option.map_some, Option.getD_some]
       split <;> exact .int _ _
   · split at hg
     · rename_i e
       have e : g = 3 := by simpa using e
       subst e
       simp only [Option.some.injEq] at hg
       subst hg
       exact asc_rep (asc_reads hl h3) (asc_old (asc_reads hl h3))
     · cases hg
end Go.Mu
