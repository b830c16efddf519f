/-
  Mu: from an evaluation to a row's call.
-/
import Derived.Test.YtlbmedmddoljnaaDoorMuPost
set_option linter.unusedVariables false
set_option linter.unusedSimpArgs false
namespace Go.Mu
open Go
variable {P : Program} {W W' : World} {H : Type} {enc : TypeId × Value → H} {ts : List TypeId}

def oldE (W : World) : Env := ⟨oldB W, id, fun _ => 0⟩
/-- an evaluation out of an empty heap, as a call in any world -/
theorem calls_of_eval (hg : GlobOK W (oldB W)) {h : Hd} (hh : HOK P h) {f : FuncId} {xs : List AVal} {v : AVal} {Hn : Heap} (hev : h f xs [] some = some (.ret v Hn)) {args : Array Value} (hr : RepL W (oldE W) [] xs args.toList) :
    Calls P f args W (fun e W' => ∃ c E', e = .returned c ∧ Rep W' E' Hn v c ∧ (∀ b, b < W.heap.size → W'.heap[b]? = W.heap[b]?) ∧ W'.os = W.os ∧ W'.output = W.output) := by
  obtain ⟨o, ho, hk⟩ := hh _ _ _ _ _ hev
  cases Option.some.inj hk
  have := ho W (oldE W) args.toList (sim_nil (fun b hb => hb) hg _ _) hr.1 hr.2
  rw [Array.toArray_toList] at this
  refine Calls.mono this (fun e W' hp => ?_)
  cases e with
  | returned c =>
    obtain ⟨E', ev, _, hrep⟩ := hp
    exact ⟨c, E', rfl, hrep, fun b hb => ev.kept b hb (fun h => h) (fun k hk => absurd hk live_nil), ev.os, ev.output⟩
  | panicked _ => exact hp.elim
  | outgrown => exact hp.elim
theorem calls_true (hg : GlobOK W (oldB W)) {h : Hd} (hh : HOK P h) {f : FuncId} {xs : List AVal} {Hn : Heap} (hev : h f xs [] some = some (.ret (.bool true) Hn)) {args : Array Value} (hr : RepL W (oldE W) [] xs args.toList) :
    Calls P f args W (fun e W' => e = .returned (.bool true) ∧ (∀ b, b < W.heap.size → W'.heap[b]? = W.heap[b]?) ∧ W'.os = W.os ∧ W'.output = W.output) :=
  (calls_of_eval hg hh hev hr).mono fun e W' ⟨c, E', h1, h2, h3⟩ => ⟨by rw [h1, rep_bool h2], h3⟩

/-- a scalar or a slice that is handed in -/
theorem arg_rep (hc : closedOk P ts = true) {t : TypeId} {v : Value} {d : DataW H} {ps : List MemPlace} (ht : ts.contains t = true) (h1 : v.cells = #[v]) (h : DataW.Trod enc P W 0 (fun _ => true) true t v d ps) :
    ∃ fuel, CellsP W (aOf P fuel t d) [v] := by
  obtain ⟨n, hn⟩ := h
  refine ⟨n, ?_⟩
  have := trod_rep hc n t _ d ps ht hn
  rw [h1] at this
  exact this
theorem cells_one {A : List AVal} {v : Value} (h : CellsP W A [v]) : ∃ x, A = [x] ∧ RepP W (oldB W) x v := by
  obtain ⟨h1, h2⟩ := h
  match A, h1 with
  | [x], _ => exact ⟨x, rfl, (h2 0 (by simp)).2⟩
end Go.Mu
