/- Slices that are grown by append. -/
import Derived.Test.YtbkmjmhoclflnaaFw22
namespace Go.Proofs.Ytbkmjmhoclflnaa.Fw
open Go Go.RowKit
set_option linter.unusedVariables false
set_option linter.unusedSimpArgs false

/-- A slice of n elements of k cells each that append has made (or none yet): its cells. -/
inductive Row (σ : Store) (ty : TypeId) (k : Nat) : AV → Nat → List AV → Prop
  | nil : Row σ ty k .slNil 0 []
  | row {r n : Nat} {cs : List AV} (hl : cs.length = n * k) (h : σ[r]? = some (.cells cs ty)) : Row σ ty k (.sl r 0 n (.spare k)) n cs

/-- What append leaves behind. -/
def kill (v : AV) (σ : Store) : Store := match v with
  | .sl r _ _ _ => σ.set r .dead
  | _ => σ
theorem kill_length (v : AV) (σ : Store) : (kill v σ).length = σ.length := by
  unfold kill; split <;> simp
theorem kill_new {σ g : Store} {v : AV} (h : ∀ r o n c, v = .sl r o n c → σ.length ≤ r) : ∃ g', kill v (σ ++ g) = σ ++ g' ∧ g'.length = g.length := by
  unfold kill
  split
  · rename_i r o n c
    have := h r o n c rfl
    exact ⟨g.set (r - σ.length) .dead, by rw [List.set_append_right _ _ this], by simp⟩
  · exact ⟨g, rfl, rfl⟩
theorem kill_get {σ : Store} {v : AV} {i : Nat} (h : ∀ r o n c, v = .sl r o n c → i ≠ r) : (kill v σ)[i]? = σ[i]? := by
  unfold kill
  split
  · rename_i r o n c
    exact List.getElem?_set_ne (Ne.symm (h r o n c rfl))
  · rfl

section
variable {P : Program}

theorem rdCells_length {σ : Store} {i : Nat} : ∀ (n o : Nat) {cs : List AV}, rdCells σ i o n = some cs → cs.length = n
  | 0, _, cs, h => by simp only [rdCells, Option.some.injEq] at h; subst h; rfl
  | n + 1, o, cs, h => by
    unfold rdCells at h
    split at h
    · split at h
      · rename_i r hr
        cases h
        simp [rdCells_length n (o + 1) hr]
      · cases h
    · cases h

theorem aSrc_sl {k : Nat} {e t' d : TypeId} (hu' : P.underlying t' = some (.slice d)) {σ : Store} {j o q : Nat} {cap : Cap} {new : List AV} (hr : rdCells σ j o (q * k) = some new) :
    aSrc P k e (some t') (.sl j o q cap) σ = some (q, new) := by
  unfold aSrc
  simp only [Option.bind_some, hu', hr, Option.map_some]

theorem row_append {tys : Array TypeId} {t t' e d : TypeId} {k b n q j o : Nat} {z cs new : List AV} {σ : Store} {v : AV} {cap : Cap}
    (ht : tys[0]? = some t) (hu : P.underlying t = some (.slice e)) (hk : tySize P e = some k) (hz : zeroCellsOf P e = some z) (hb : tyBytes P e = some b) (hzl : z.length = k)
    (ht' : tys[1]? = some t') (hu' : P.underlying t' = some (.slice d)) (h : Row σ e k v n cs) (hq : 0 < q) (hr : rdCells σ j o (q * k) = some new) (hone : new.all AV.one = true)
    (hroom : (n + q) * b ≤ 2 ^ 45 ∧ n + q ≤ 2 ^ 45 ∧ b ≤ 2 ^ 32) :
    aAppend P tys v (.sl j o q cap) σ = some (.sl σ.length 0 (n + q) (.spare k), kill v σ ++ [.cells (cs ++ new) e]) := by
  have hroom' : aRoom P e (n + q) = true := by
    unfold aRoom
    rw [hb]
    simp only [Bool.and_eq_true, decide_eq_true_eq]
    exact ⟨⟨hroom.1, hroom.2.1⟩, hroom.2.2⟩
  have hsrc := aSrc_sl (P := P) (k := k) (e := e) hu' (cap := cap) hr
  have hq0 : ¬ q = 0 := by omega
  unfold aAppend
  simp only [ht, Option.bind_some, hu, hk, hz, hzl, ne_eq, not_true_eq_false, if_false, ht', hsrc]
  cases h with
  | nil =>
    simp only [hq0, if_false, Nat.zero_add] at hroom' ⊢
    simp only [hroom', if_true, kill, List.nil_append]
  | @row r n cs hl h =>
    have hold : rdCells σ r 0 (n * k) = some cs := by
      rw [rdCells_get h _ _ (by omega)]
      simp [← hl]
    simp only [hq0, if_false, h, hold, hone, hroom', and_self, if_true, kill, true_and]

theorem row_len {σ : Store} {ty : TypeId} {k n : Nat} {v : AV} {cs : List AV} (h : Row σ ty k v n cs) : cs.length = n * k := by
  cases h with
  | nil => simp
  | row hl _ => exact hl
theorem row_app {σ g : Store} {ty : TypeId} {k n : Nat} {v : AV} {cs : List AV} (h : Row σ ty k v n cs) : Row (σ ++ g) ty k v n cs := by
  cases h with
  | nil => exact .nil
  | @row r n cs hl h => exact .row hl (by rw [get_old (List.getElem?_eq_some_iff.1 h).1]; exact h)
/-- A slice of just what was laid. -/
theorem row_new {σ : Store} {ty : TypeId} {k n : Nat} {cs : List AV} (hl : cs.length = n * k) : Row (σ ++ [.cells cs ty]) ty k (.sl σ.length 0 n (.spare k)) n cs := .row hl (by simp)
theorem aLen_row {t e : TypeId} (hu : P.underlying t = some (.slice e)) {σ σ' : Store} {ty : TypeId} {k n : Nat} {v : AV} {cs : List AV} (h : Row σ ty k v n cs) : aBuiltin P .len #[t] [v] σ' = some (.int .i64 n) := by
  cases h <;> simp [aBuiltin, aLen, hu]
end
end Go.Proofs.Ytbkmjmhoclflnaa.Fw
