/- Merging lists of facts in steps, from the left or from the right, is merging them all at once (FactSteps). Conditions: what comes in is of bulk at most 1048576 (the second form of the statement). -/
import Derived.Test.YtbkmjmhoclflnaaF13
import Derived.Test.YtbkmjmhoclflnaaF14
namespace Go.Proofs.Ytbkmjmhoclflnaa.Fw
open Go Go.RowKit Go.ChangeShapes
set_option linter.unusedVariables false
set_option linter.unusedSimpArgs false
set_option maxRecDepth 20000

theorem op_slv {H : Type} {W : World} {base : Nat} {t e : TypeId} {r : Reach} {l : List AV} {v : Value} (ht : Try.prog.underlying t = some (.slice e)) (hval : Value.okWide Try.prog W r base t v) (h : VRs (frozAll W) l v.cells.toList) : VRs (frozAll W) l [v] := by
  have : v.cells.toList = [v] ∨ ∃ cs, v = .agg cs := by cases v <;> simp [Value.cells]
  rcases this with h2 | ⟨cs, rfl⟩
  · rw [h2] at h; exact h
  · simp [Value.okWide, ht, Cell.okWide, Cell.ok] at hval

theorem steps_contract (H : Type) (enc : TypeId × Value → H) (W : World) (base : Nat) (args : Array Value) (ds gs : List (DataW H)) (before : List MemPlace)
    (hval : ∀ (j : Nat) t v, Try.f4.params[j]? = some t → args[j]? = some v → Value.okWide Try.prog W .any base t v)
    (hW : DataW.Whole enc Try.prog Try.f4.params.toList Rows.factStepsSpec.vars false W args.toList ds gs before) (hk : Rows.uptoSmall H (ds ++ gs) = true) :
    Calls Try.prog 4 args W fun e W' => ∃ v, e = .returned v ∧ Rows.factStepsSpec.post enc Try.prog Try.f4 false true false false W args v W' := by
  have hW' := hW
  obtain ⟨p, q, hA0, hV, rfl, hfz, hnd⟩ := hW
  have hA : DataW.TrodAll enc Try.prog W 0 (fun _ => true) true Try.f4.params.toList args.toList ds p := hA0
  rw [Try.params4] at hA hval
  obtain ⟨v0, v1, v2, d0, d1, d2, p0, p1, p2, rfl, rfl, rfl, h0, h1, h2⟩ := trodAll_three hA
  obtain ⟨rfl, rfl⟩ := trodVars_none hV
  have hb : Rows.uptoBulkAll [d0, d1, d2] ≤ 1048576 := by
    have h : Rows.uptoBulkAll ([d0, d1, d2] ++ []) ≤ 1048576 := of_decide_eq_true hk
    simpa using h
  simp only [Rows.uptoBulkAll] at hb
  obtain ⟨n0, h0⟩ := h0
  obtain ⟨n1, h1⟩ := h1
  obtain ⟨n2, h2⟩ := h2
  obtain ⟨a, a1, a2⟩ := op_facts h0
  obtain ⟨b, b1, b2⟩ := op_facts h1
  obtain ⟨c, c1, c2⟩ := op_facts h2
  dsimp only at a2 b2 c2
  have a3 := op_slv (H := H) Try.underlying28 (hval 0 28 v0 rfl rfl) a1
  have b3 := op_slv (H := H) Try.underlying28 (hval 1 28 v1 rfl rfl) b1
  have c3 := op_slv (H := H) Try.underlying28 (hval 2 28 v2 rfl rfl) c1
  have hvr : VRs (frozAll W) [.im 3 (encFs a) .ro, .im 3 (encFs b) .ro, .im 3 (encFs c) .ro] (#[v0, v1, v2] : Array Value).toList := by
    cases a3 with
    | cons x t => cases b3 with
      | cons y t => cases c3 with
        | cons z t => exact .cons x (.cons y (.cons z .nil))
  refine (calls_of mixed (noGlobs W) hvr (steps_walk a b c (by omega) (by omega) (by omega) (by omega) (by omega) (by omega) (fun _ => rfl))).mono fun e W' ⟨he, hg⟩ => ?_
  subst he
  exact ⟨_, rfl, post_below laid Try.underlying4 (by kernel_rfl) (by kernel_rfl) rfl hW' hg rfl rfl rfl⟩

set_option maxRecDepth 100000 in
theorem steps_lifted (os : Os) (started : os.Started) (H : Type) (enc : TypeId × Value → H) (F : Stop.Interp) :
    ReturnsInHanded {} Try.checked os 4 .any ((Rows.OpenSpec.upto Rows.factStepsSpec).pre6 enc Try.prog Try.f4 Rows.factStepsUptoRow.domain false) (((Rows.OpenSpec.upto Rows.factStepsSpec).at F).post enc Try.prog Try.f4 false true false false) := by
  refine returnsInHanded_of_cond (C := Try.checked) (s := Rows.OpenSpec.upto Rows.factStepsSpec) (k := Rows.uptoSmall) rfl own started (by kernel_rfl) Try.func4
    (OpenSpec.witness (enc := enc) (C := Try.checked) (s := Rows.OpenSpec.upto Rows.factStepsSpec) (k := Rows.uptoSmall) rfl false ⟨#[], #[.slice none 0 0, .slice none 0 0, .slice none 0 0], []⟩ 8 (by kernel_rfl) (by kernel_rfl) (by kernel_rfl)
      (x := ([.nil, .nil, .nil], [], [])) (by kernel_rfl) rfl (by kernel_rfl)) ?_
  intro W base args ds gs before hval hW _ hk _
  exact steps_contract H enc W base args ds gs before hval hW hk

theorem factStepsUpto : Rows.FactStepsUptoSaid :=
  OpenClaim.holds_of_cond 4 Try.f4 rfl rfl rfl rfl rfl rfl rfl ⟨rfl, rfl, rfl, rfl, rfl⟩ rfl rfl rfl rfl rfl (by kernel_rfl) Try.func4 (by kernel_rfl)
    (of_decide_eq_true (by kernel_rfl)) (by unfold Func.isWrapper; first | (rw [if_pos (by decide +kernel)]; kernel_rfl) | (rw [if_neg (by decide +kernel)]; exact ⟨rfl, rfl⟩))
    (fun os started H enc _ F => steps_lifted os started H enc F)
end Go.Proofs.Ytbkmjmhoclflnaa.Fw
