/- For any facts compared and any lists of facts merged, the program answers as the document says, or refuses as it does (FactMerges). Conditions: what comes in is of bulk at most 1048576 (the second form of the statement). -/
import Derived.Test.YtbkmjmhoclflnaaF12
import Derived.Test.YtbkmjmhoclflnaaF14
namespace Go.Proofs.Ytbkmjmhoclflnaa.Fw
open Go Go.RowKit Go.ChangeShapes
set_option linter.unusedVariables false
set_option linter.unusedSimpArgs false
set_option maxRecDepth 20000

/-! ### FactMerges -/
theorem merges_contract (H : Type) (enc : TypeId × Value → H) (W : World) (base : Nat) (args : Array Value) (ds gs : List (DataW H)) (before : List MemPlace)
    (hval : ∀ (j : Nat) t v, Try.f3.params[j]? = some t → args[j]? = some v → Value.okWide Try.prog W .any base t v)
    (hW : DataW.Whole enc Try.prog Try.f3.params.toList Rows.factMergesSpec.vars false W args.toList ds gs before) (hk : Rows.uptoSmall H (ds ++ gs) = true) :
    Calls Try.prog 3 args W fun e W' => ∃ v, e = .returned v ∧ Rows.factMergesSpec.post enc Try.prog Try.f3 false true false false W args v W' := by
  have hW' := hW
  obtain ⟨p, q, hA0, hV, rfl, hfz, hnd⟩ := hW
  have hA : DataW.TrodAll enc Try.prog W 0 (fun _ => true) true Try.f3.params.toList args.toList ds p := hA0
  rw [Try.params3] at hA hval
  obtain ⟨v0, v1, v2, d0, d1, d2, p0, p1, p2, rfl, rfl, rfl, h0, h1, h2⟩ := trodAll_three hA
  obtain ⟨rfl, rfl⟩ := trodVars_none hV
  have hb : Rows.uptoBulkAll [d0, d1, d2] ≤ 1048576 := by
    have h : Rows.uptoBulkAll ([d0, d1, d2] ++ []) ≤ 1048576 := of_decide_eq_true hk
    simpa using h
  simp only [Rows.uptoBulkAll] at hb
  obtain ⟨cs0, rfl, hs0⟩ := WideShapes.okWide_struct Try.underlying25 (hval 0 25 v0 rfl rfl)
  obtain ⟨cs1, rfl, hs1⟩ := WideShapes.okWide_struct Try.underlying25 (hval 1 25 v1 rfl rfl)
  have hc3 : Try.prog.cellsOf 25 = 3 := by kernel_rfl
  rw [hc3] at hs0 hs1
  obtain ⟨n0, h0⟩ := h0
  obtain ⟨n1, h1⟩ := h1
  obtain ⟨n2, h2⟩ := h2
  obtain ⟨a, a1, a2⟩ := op_fact h0 (by simpa [Value.cells] using hs0)
  obtain ⟨b, b1, b2⟩ := op_fact h1 (by simpa [Value.cells] using hs1)
  obtain ⟨ls, l1, l2⟩ := op_lists h2
  dsimp only at a2 b2 l2
  obtain ⟨q1, q2, q3⟩ := sum_mem l2
  have hvr : VRs (frozAll W) [.agg (encF a), .agg (encF b), .im 1 (encLs ls) .ro] (#[Value.agg cs0, Value.agg cs1, v2] : Array Value).toList := by
    have l1' : VR (frozAll W) (.im 1 (encLs ls) .ro) v2 := by
      have : v2.cells.toList = [v2] ∨ ∃ cs, v2 = .agg cs := by cases v2 <;> simp [Value.cells]
      rcases this with h | ⟨cs, rfl⟩
      · rw [h] at l1; cases l1 with
        | cons x t => exact x
      · have := hval 2 26 (.agg cs) rfl rfl
        simp [Value.okWide, Try.underlying26, Cell.okWide, Cell.ok] at this
    exact .cons (.agg (by simpa [Value.cells] using a1)) (.cons (.agg (by simpa [Value.cells] using b1)) (.cons l1' .nil))
  refine (calls_of mixed (noGlobs W) hvr (merges_walk a b ls (by omega) (by omega) (fun l hl => by have := q3 l hl; omega) (fun _ => rfl))).mono fun e W' ⟨he, hg⟩ => ?_
  subst he
  exact ⟨_, rfl, post_below laid Try.underlying4 (by kernel_rfl) (by kernel_rfl) rfl hW' hg rfl rfl rfl⟩

set_option maxRecDepth 100000 in
theorem merges_lifted (os : Os) (started : os.Started) (H : Type) (enc : TypeId × Value → H) (F : Stop.Interp) :
    ReturnsInHanded {} Try.checked os 3 .any ((Rows.OpenSpec.upto Rows.factMergesSpec).pre6 enc Try.prog Try.f3 Rows.factMergesUptoRow.domain false) (((Rows.OpenSpec.upto Rows.factMergesSpec).at F).post enc Try.prog Try.f3 false true false false) := by
  refine returnsInHanded_of_cond (C := Try.checked) (s := Rows.OpenSpec.upto Rows.factMergesSpec) (k := Rows.uptoSmall) rfl own started (by kernel_rfl) Try.func3
    (OpenSpec.witness (enc := enc) (C := Try.checked) (s := Rows.OpenSpec.upto Rows.factMergesSpec) (k := Rows.uptoSmall) rfl false ⟨#[], #[.agg #[.string .empty, .int .u64 0, .slice none 0 0], .agg #[.string .empty, .int .u64 0, .slice none 0 0], .slice none 0 0], []⟩ 8 (by kernel_rfl) (by kernel_rfl) (by kernel_rfl)
      (x := ([.agg [.lit (.string []), .lit (.int .u64 0), .nil], .agg [.lit (.string []), .lit (.int .u64 0), .nil], .nil], [], [])) (by kernel_rfl) rfl (by kernel_rfl)) ?_
  intro W base args ds gs before hval hW _ hk _
  exact merges_contract H enc W base args ds gs before hval hW hk

theorem factMergesUpto : Rows.FactMergesUptoSaid :=
  OpenClaim.holds_of_cond 3 Try.f3 rfl rfl rfl rfl rfl rfl rfl ⟨rfl, rfl, rfl, rfl, rfl⟩ rfl rfl rfl rfl rfl (by kernel_rfl) Try.func3 (by kernel_rfl)
    (of_decide_eq_true (by kernel_rfl)) (by unfold Func.isWrapper; first | (rw [if_pos (by decide +kernel)]; kernel_rfl) | (rw [if_neg (by decide +kernel)]; exact ⟨rfl, rfl⟩))
    (fun os started H enc _ F => merges_lifted os started H enc F)
end Go.Proofs.Ytbkmjmhoclflnaa.Fw
