/- What an operation gives hangs on its operands alone; what was read stays when the store grows. -/
import Derived.Test.YtbkmjmhoclflnaaFw13
namespace Go.Proofs.Ytbkmjmhoclflnaa.Fw
open Go Go.RowKit
set_option linter.unusedVariables false
set_option linter.unusedSimpArgs false

section
variable {P : Program}

theorem map_congrL {α β : Type} {f g : α → β} {l : List α} (h : ∀ x ∈ l, f x = g x) : l.map f = l.map g := List.map_congr_left h

theorem opt_congr {ρ ρ' : Operand → AV} (x : Option Operand) (h : ∀ y ∈ x.toArray, ρ y = ρ' y) : x.map ρ = x.map ρ' := by
  cases x with
  | none => rfl
  | some y => simp [h y (by simp)]

theorem aval_congr {ρ ρ' : Operand → AV} {o : Op} (h : ∀ x ∈ o.operands, ρ x = ρ' x) (σ : Store) : aval P ρ o σ = aval P ρ' o σ := by
  cases o <;> simp only [aval] <;> simp only [Op.operands] at h
  case move x => rw [h x (by simp)]
  case assign x => rw [h x (by simp)]
  case pick c a b => rw [h c (by simp), h a (by simp), h b (by simp)]
  case load t a => rw [h a (by simp)]
  case nilCheck x => rw [h x (by simp)]
  case binOp op t x y yt => rw [h x (by simp), h y (by simp)]
  case unOp op t x => rw [h x (by simp)]
  case convert s d x => rw [h x (by simp)]
  case makeInterface t x => rw [h x (by simp)]
  case makeFunc fn first captured =>
    rw [map_congrL fun x hx => h x (by simp only [Array.mem_append]; exact .inl (by simpa using hx)), map_congrL (l := captured.toList) fun x hx => h x (by simp only [Array.mem_append]; exact .inr (by simpa using hx))]
  case slice t x lo hi mx =>
    rw [h x (by simp), opt_congr lo fun y hy => h y (by simp [hy]), opt_congr hi fun y hy => h y (by simp [hy]), opt_congr mx fun y hy => h y (by simp [hy])]
  case fieldAddr s x f => rw [h x (by simp)]
  case field s x f => rw [h x (by simp)]
  case indexAddr t x ix => rw [h x (by simp), h ix (by simp)]
  case index t x ix => rw [h x (by simp), h ix (by simp)]
  case lookup t m k ok => rw [h m (by simp), h k (by simp)]
  case extract t i => rw [h t (by simp)]
  case build t parts =>
    rw [map_congrL (l := parts.toList) (g := fun p => (p.1, ρ' p.2)) fun x hx => by rw [h x.2 (by simp only [List.mem_toArray, List.mem_map]; exact ⟨x, hx, rfl⟩)]]
  case entry it => rw [h it (by simp)]
  case typeAssert x xt asserted ok => rw [h x (by simp)]
  case call c =>
    obtain ⟨callee, args, argTypes⟩ := c
    cases callee <;> simp only
    rw [map_congrL (l := args.toList) fun x hx => h x (by simp only [Call.operands, Array.mem_append]; exact .inr (by simpa using hx))]

theorem aalloc_congr {ρ ρ' : Operand → AV} {o : Op} (h : ∀ x ∈ o.operands, ρ x = ρ' x) : aalloc P ρ o = aalloc P ρ' o := by
  cases o <;> simp only [aalloc] <;> simp only [Op.operands] at h
  case makeMap t r => cases r <;> rfl
  case box t x => rw [h x (by simp)]
  case buildSlice t n parts =>
    rw [map_congrL (l := parts.toList) (g := fun p => (p.1, ρ' p.2)) fun x hx => by rw [h x.2 (by simp only [List.mem_toArray, List.mem_map]; exact ⟨x, hx, rfl⟩)]]
  case makeSlice t l c => rw [h l (by simp), h c (by simp)]
  case convert s d x => rw [h x (by simp)]

theorem get_more {σ : Store} {i : Nat} {o : AObj} (h : σ[i]? = some o) (l : List AObj) : (σ ++ l)[i]? = some o := by
  rw [List.getElem?_append_left (List.getElem?_eq_some_iff.1 h).1]
  exact h

theorem rdCell_more {σ : Store} {i o : Nat} {v : AV} (h : rdCell σ i o = some v) (l : List AObj) : rdCell (σ ++ l) i o = some v := by
  unfold rdCell at h ⊢
  split at h
  · rename_i e; rw [get_more e]; exact h
  · rename_i e; rw [get_more e]; exact h
  · rename_i e; rw [get_more e]; exact h
  · cases h

theorem rdCells_more {σ : Store} {i : Nat} (l : List AObj) : ∀ (n o : Nat) {vs : List AV}, rdCells σ i o n = some vs → rdCells (σ ++ l) i o n = some vs
  | 0, _, _, h => h
  | n + 1, o, vs, h => by
    unfold rdCells at h ⊢
    split at h
    · rename_i v hv
      split at h
      · rename_i r hr
        rw [rdCell_more hv, rdCells_more l n (o + 1) hr]
        exact h
      · cases h
    · cases h

theorem aLoad_more {t : TypeId} {v x : AV} {σ : Store} (h : aLoad P t v σ = some x) (l : List AObj) : aLoad P t v (σ ++ l) = some x := by
  unfold aLoad at h ⊢
  split at h
  · split at h
    · split at h
      · obtain ⟨vs, hr, rfl⟩ := Option.map_eq_some_iff.1 h
        rw [rdCells_more l _ _ hr]
        rfl
      · cases h
    · exact rdCell_more h l
    · cases h
  · exact h
  · cases h

theorem entries_more {σ : Store} {m : AV} {es : List (AV × AV × Nat)} (h : mapEntries σ m = some es) (l : List AObj) : mapEntries (σ ++ l) m = some es := by
  unfold mapEntries at h ⊢
  split at h
  · exact h
  · split at h
    · rename_i e; rw [get_more e]; exact h
    · cases h
  · cases h

theorem aval_more {ρ : Operand → AV} {o : Op} {σ : Store} {v : AV} (h : aval P ρ o σ = some v) (l : List AObj) : aval P ρ o (σ ++ l) = some v := by
  cases o <;> simp only [aval] at h ⊢ <;> try (exact h)
  case load t a => exact aLoad_more h l
  case convert s d x =>
    unfold aConv at h ⊢
    split at h
    · exact h
    · exact h
    · exact h
    · split at h
      · rename_i hu
        simp only [hu, if_true]
        split at h
        · rename_i vs hr
          rw [rdCells_more l _ _ hr]
          exact h
        · cases h
      · cases h
    · exact h
    · cases h
  case lookup t m k ok =>
    unfold aLookup at h ⊢
    split at h
    · split at h
      · rename_i hk
        simp only [hk, if_true]
        split at h
        · rename_i es he
          rw [entries_more he]
          exact h
        · cases h
      · cases h
    · cases h
  case entry it =>
    unfold aEntry at h ⊢
    split at h
    · split at h
      · rename_i e
        rw [get_more e]
        dsimp only
        split at h
        · rename_i e2 e3
          rw [e2, get_more e3]
          exact h
        · cases h
      · cases h
    · cases h
  case call c =>
    obtain ⟨callee, args, argTypes⟩ := c
    cases callee <;> simp only at h ⊢ <;> try (cases h; done)
    unfold aBuiltin at h ⊢
    split at h <;> try (exact h)
    split at h
    · unfold aLen at h ⊢
      split at h <;> try (exact h)
      obtain ⟨es, he, rfl⟩ := Option.map_eq_some_iff.1 h
      rw [entries_more he]
      rfl
    · cases h

def memOp : Op → Bool
  | .load .. | .lookup .. | .entry _ | .convert .. | .call _ => true
  | _ => false

theorem aval_pure {ρ : Operand → AV} {o : Op} (h : memOp o = false) (σ σ' : Store) : aval P ρ o σ = aval P ρ o σ' := by
  cases o <;> first | rfl | (simp [memOp] at h)

end
end Go.Proofs.Ytbkmjmhoclflnaa.Fw
