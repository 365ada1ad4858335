/- Facts that come in: opened. -/
import Derived.Test.YtbkmjmhoclflnaaF11
import Derived.Test.YtbkmjmhoclflnaaFw29
import Derived.Test.YtbkmjmhoclflnaaChecked
import Derived.WalkKit
import Derived.ProofKit
import Derived.Lib.SmallJoins
namespace Go.Proofs.Ytbkmjmhoclflnaa.Fw
open Go Go.RowKit Go.ChangeShapes
set_option linter.unusedVariables false
set_option linter.unusedSimpArgs false
set_option maxRecDepth 20000

section
variable {H : Type} {enc : TypeId × Value → H} {W : World} {base : Nat} {spare : Nat → Bool} {held : Bool}

theorem op_fact {n : Nat} {cs : List Value} {x : DataW H × List MemPlace} (h : DataW.trod enc Try.prog W base spare held n 25 cs = some x) (hl : cs.length = 3) :
    ∃ f : FactD, VRs (frozAll W) (encF f) cs ∧ (f.key.length + f.val.length) + 1 ≤ Rows.uptoBulk x.1 := by
  obtain ⟨y0, y1, y2, n', rfl, _, h0, h1, h2⟩ := Deep.trod_struct3 Try.underlying25 h
  have e0 : Try.prog.cellsOf 9 = 1 := by kernel_rfl
  have e1 : Try.prog.cellsOf 22 = 1 := by kernel_rfl
  have e2 : Try.prog.cellsOf 23 = 1 := by kernel_rfl
  dsimp only at h0 h1 h2
  rw [e0] at h0
  rw [e1] at h1
  rw [e2] at h2
  match cs, hl with
  | [c0, c1, c2], _ =>
    have h0' : DataW.trod enc Try.prog W base spare held n' 9 [c0] = some y0 := h0
    have h1' : DataW.trod enc Try.prog W base spare held n' 22 [c1] = some y1 := h1
    have h2' : DataW.trod enc Try.prog W base spare held n' 23 [c2] = some y2 := h2
    obtain ⟨k, k1, k2⟩ := op_str Try.underlying9 h0'
    obtain ⟨s, s1, s2⟩ := op_int Try.underlying22 h1'
    obtain ⟨v, v1, v2⟩ := op_bytes Try.underlying23 Try.underlying5 (by kernel_rfl) h2'
    refine ⟨⟨k, s, v⟩, ?_, ?_⟩
    · cases k1 with
      | cons a t => cases t; cases s1 with
        | cons b t => cases t; cases v1 with
          | cons c t => cases t; exact .cons a (.cons b (.cons c .nil))
    · simp only [Rows.uptoBulk, Rows.uptoBulkAll]
      omega

theorem sum_wt (l : List FactD) : (l.map fun f => (f.key.length + f.val.length) + 1).sum = sumLen l + l.length := by
  induction l with
  | nil => rfl
  | cons f l ih => rw [List.map_cons, List.sum_cons, ih]; simp [sumLen]; omega

theorem op_facts {n : Nat} {cs : List Value} {x : DataW H × List MemPlace} (h : DataW.trod enc Try.prog W base spare held n 28 cs = some x) :
    ∃ l : List FactD, VRs (frozAll W) [.im 3 (encFs l) .ro] cs ∧ (sumLen l + l.length) + 1 ≤ Rows.uptoBulk x.1 := by
  obtain ⟨l, h1, _, h2⟩ := op_im Try.underlying28 (k := 3) (by kernel_rfl) (by decide) encF (fun _ => rfl) (fun f => f.key.length + f.val.length) (fun _ => True) (fun n cs x h hl => by
    obtain ⟨f, h1, h2⟩ := op_fact h hl
    exact ⟨f, h1, trivial, h2⟩) h
  rw [sum_wt] at h2
  exact ⟨l, h1, h2⟩

theorem op_lists {n : Nat} {cs : List Value} {x : DataW H × List MemPlace} (h : DataW.trod enc Try.prog W base spare held n 26 cs = some x) :
    ∃ ls : List (List FactD), VRs (frozAll W) [.im 1 (encLs ls) .ro] cs ∧ (ls.map fun l => (sumLen l + l.length) + 1).sum + 1 ≤ Rows.uptoBulk x.1 := by
  obtain ⟨l, h1, _, h2⟩ := op_im Try.underlying26 (k := 1) (by kernel_rfl) (by decide) (fun l : List FactD => [.im 3 (encFs l) .ro]) (fun _ => rfl) (fun l => sumLen l + l.length) (fun _ => True) (fun n cs x h hl => by
    obtain ⟨f, h1, h2⟩ := op_facts h
    exact ⟨f, h1, trivial, h2⟩) h
  exact ⟨l, h1, h2⟩
end

theorem sum_mem {ls : List (List FactD)} {B : Nat} (h : (ls.map fun l => (sumLen l + l.length) + 1).sum + 1 ≤ B) : ls.length ≤ B ∧ (ls.map List.length).sum ≤ B ∧ ∀ l ∈ ls, sumLen l ≤ B := by
  induction ls generalizing B with
  | nil => exact ⟨by simp, by simp, fun l hl => by cases hl⟩
  | cons l ls ih =>
    simp only [List.map_cons, List.sum_cons] at h ⊢
    obtain ⟨h1, h2, h3⟩ := ih (B := B - (sumLen l + l.length + 1)) (by omega)
    refine ⟨by simp only [List.length_cons]; omega, by omega, fun l' hl' => ?_⟩
    rcases List.mem_cons.1 hl' with rfl | hl'
    · omega
    · have := h3 l' hl'; omega

theorem own : ownKnob Try.prog.godebug = none := by kernel_rfl
theorem mixed : Try.prog.follows .mixedOrders = true := by kernel_rfl
theorem laid : laidOutB Try.prog = true := by kernel_rfl
theorem noGlobs (W : World) : Globs (frozAll W) := fun g row e => by cases e
end Go.Proofs.Ytbkmjmhoclflnaa.Fw
