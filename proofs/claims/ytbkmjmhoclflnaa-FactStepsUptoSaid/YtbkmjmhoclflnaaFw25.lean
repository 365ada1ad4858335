/- Rules for frozen slices; what a call leaves behind, dropped. -/
import Derived.Test.YtbkmjmhoclflnaaFw24
namespace Go.Proofs.Ytbkmjmhoclflnaa.Fw
open Go Go.RowKit
set_option linter.unusedVariables false
set_option linter.unusedSimpArgs false

abbrev T0 : Table := fun _ => none

/-! ### Bytes, numbers as rows -/
def encB (l : List UInt8) : List (List AV) := l.map fun b => [.int .u8 b.toNat]
def enc1 {α : Type} (e : α → AV) (l : List α) : List (List AV) := l.map fun x => [e x]
theorem encB_length (l : List UInt8) : (encB l).length = l.length := by simp [encB]
theorem encB_append (a b : List UInt8) : encB (a ++ b) = encB a ++ encB b := by simp [encB]
theorem encB_nil : encB [] = [] := rfl
theorem encB_get (l : List UInt8) (i : Nat) : (encB l)[i]? = (l[i]?).map fun b => [AV.int .u8 b.toNat] := by simp [encB]
theorem encB_take (l : List UInt8) (n : Nat) : (encB l).take n = encB (l.take n) := by simp [encB, List.map_take]
theorem encB_drop (l : List UInt8) (n : Nat) : (encB l).drop n = encB (l.drop n) := by simp [encB, List.map_drop]
theorem bytesOf_encB : ∀ l : List UInt8, bytesOf (encB l).flatten = some l
  | [] => rfl
  | b :: l => by
    show bytesOf (.int .u8 b.toNat :: (encB l).flatten) = _
    unfold bytesOf
    rw [bytesOf_encB l]
    simp
theorem encB_flat (l : List UInt8) : (encB l).flatten = l.map fun b => AV.int .u8 b.toNat := by
  induction l with
  | nil => rfl
  | cons b l ih =>
    simp only [encB, List.map_cons, List.flatten_cons] at ih ⊢
    rw [ih]; rfl
theorem encB_row {l : List UInt8} : ∀ r ∈ encB l, r.length = 1 := by
  intro r hr
  obtain ⟨b, _, rfl⟩ := List.mem_map.1 hr
  rfl
theorem Clos.encB (N : Nat) (l : List UInt8) : Clos N (encB l).flatten := Clos.flat fun r hr => by
  obtain ⟨b, _, rfl⟩ := List.mem_map.1 hr
  exact Clos.cons (Clo.int N _ _) (Clos.nil N)
theorem Clo.bytes (N : Nat) (l : List UInt8) : Clo N (.im 1 (encB l) .ro) := Clo.im (Clos.encB N l) trivial
theorem Clos.map {α : Type} {N : Nat} {f : α → List AV} (h : ∀ x, Clos N (f x)) (l : List α) : Clos N (l.map f).flatten := Clos.flat fun r hr => by
  obtain ⟨x, _, rfl⟩ := List.mem_map.1 hr
  exact h x

section
variable {P : Program} {σ g : Store}

/-! ### Rules -/
theorem rd_1f {vs : List AV} {ty : TypeId} {r : Store} (o : Nat) : rdCell (.frozen vs ty :: r) 0 o = vs[o]? := (rfl)
theorem rds_1f {vs : List AV} {ty : TypeId} {r : Store} (n o : Nat) (h : o + n ≤ vs.length) : rdCells (.frozen vs ty :: r) 0 o n = some ((vs.drop o).take n) := by
  have gen : ∀ (n o : Nat), o + n ≤ vs.length → rdCells (.frozen vs ty :: r) 0 o n = some ((vs.drop o).take n) := by
    intro n
    induction n with
    | zero => intro o h; simp [rdCells]
    | succ n ih =>
      intro o h
      unfold rdCells
      have hlt : o < vs.length := by omega
      rw [rd_1f, List.getElem?_eq_getElem hlt, ih (o + 1) (by omega)]
      rw [List.drop_eq_getElem_cons hlt, List.take_succ_cons]
  exact gen n o h
theorem aNil_imp (r : List AV) (o : Nat) : aNil (.imp r o) = some (.imp r o) := (rfl)
theorem stK_im (i o k : Nat) (rows : List (List AV)) (c : Cap) : aStoreK 1 i o (.im k rows c) σ = wrCells σ i o [.im k rows c] := (rfl)
theorem stK_imp (i o : Nat) (r : List AV) (q : Nat) : aStoreK 1 i o (.imp r q) σ = wrCells σ i o [.imp r q] := (rfl)
theorem stK_iface (i o : Nat) (t : TypeId) (v : AV) : aStoreK 1 i o (.iface t v) σ = wrCells σ i o [.iface t v] := (rfl)
theorem ac_im (k : Nat) (rows : List (List AV)) (c : Cap) : acells (.im k rows c) = some [.im k rows c] := (rfl)
theorem ac_imp (r : List AV) (q : Nat) : acells (.imp r q) = some [.imp r q] := (rfl)
theorem ac_iface (t : TypeId) (v : AV) : acells (.iface t v) = some [.iface t v] := (rfl)
theorem ac_ifaceNil : acells .ifaceNil = some [.ifaceNil] := (rfl)
theorem ac_mapNil : acells .mapNil = some [.mapNil] := (rfl)
theorem ac_fnNil : acells .fnNil = some [.fnNil] := (rfl)

def aSliceIm (k : Nat) (rows : List (List AV)) (cap : Cap) (lo hi mx : Option AV) : Option AV :=
  match aBounds rows.length (imKnown rows.length cap) lo hi mx with
  | some (l, h, m) => if h ≤ rows.length then some (.im k ((rows.take h).drop l) (imCut cap mx.isSome l h m rows.length)) else none
  | none => none
theorem aSlice_im {t e : TypeId} {k : Nat} (hu : P.underlying t = some (.slice e)) (hk : tySize P e = some k) (rows : List (List AV)) (cap : Cap) (lo hi mx : Option AV) : aSlice P t (.im k rows cap) lo hi mx = aSliceIm k rows cap lo hi mx := by
  unfold aSlice aSliceIm
  rw [hu]
  dsimp only
  rw [hk]
  cases h : aBounds rows.length (imKnown rows.length cap) lo hi mx with
  | none => rfl
  | some r => obtain ⟨l, h, m⟩ := r; simp
theorem sli_ab {k : Nat} {rows : List (List AV)} {cap : Cap} {q q' : IntKind} {a b : Int} (h0 : 0 ≤ a) (h1 : a ≤ b) (h2 : b ≤ rows.length) (h3 : rows.length ≤ imKnown rows.length cap) :
    aSliceIm k rows cap (some (.int q a)) (some (.int q' b)) none = some (.im k ((rows.take b.toNat).drop a.toNat) (imCut cap false a.toNat b.toNat (imKnown rows.length cap) rows.length)) := by
  have e1 : 0 ≤ b ∧ b ≤ (imKnown rows.length cap : Int) := ⟨by omega, by omega⟩
  have e2 : 0 ≤ a ∧ a ≤ (b.toNat : Int) := ⟨h0, by omega⟩
  have e3 : b.toNat ≤ rows.length := by omega
  simp only [aSliceIm, aBounds, aInt, e1, and_self, if_true, e2, e3, Option.isSome_none]
theorem sli_a {k : Nat} {rows : List (List AV)} {cap : Cap} {q : IntKind} {a : Int} (h0 : 0 ≤ a) (h1 : a ≤ rows.length) : aSliceIm k rows cap (some (.int q a)) none none = some (.im k (rows.drop a.toNat) (imCut cap false a.toNat rows.length (imKnown rows.length cap) rows.length)) := by
  have e2 : 0 ≤ a ∧ a ≤ (rows.length : Int) := ⟨h0, h1⟩
  simp only [aSliceIm, aBounds, aInt, e2, and_self, if_true, Option.isSome_none, Bool.false_eq_true, if_false, Nat.le_refl, List.take_length]
theorem sli_b {k : Nat} {rows : List (List AV)} {cap : Cap} {q : IntKind} {b : Int} (h0 : 0 ≤ b) (h2 : b ≤ rows.length) (h3 : rows.length ≤ imKnown rows.length cap) : aSliceIm k rows cap none (some (.int q b)) none = some (.im k (rows.take b.toNat) (imCut cap false 0 b.toNat (imKnown rows.length cap) rows.length)) := by
  have e1 : 0 ≤ b ∧ b ≤ (imKnown rows.length cap : Int) := ⟨by omega, by omega⟩
  have e3 : b.toNat ≤ rows.length := by omega
  simp only [aSliceIm, aBounds, aInt, e1, and_self, if_true, e3, Option.isSome_none, List.drop_zero]
theorem sli_abc {k : Nat} {rows : List (List AV)} {cap : Cap} {q q' q2 : IntKind} {a b c : Int} (h0 : 0 ≤ a) (h1 : a ≤ b) (h2 : b ≤ c) (h4 : c ≤ rows.length) (h3 : rows.length ≤ imKnown rows.length cap) :
    aSliceIm k rows cap (some (.int q a)) (some (.int q' b)) (some (.int q2 c)) = some (.im k ((rows.take b.toNat).drop a.toNat) (.exact (c.toNat - a.toNat))) := by
  have e1 : 0 ≤ c ∧ c ≤ (imKnown rows.length cap : Int) := ⟨by omega, by omega⟩
  have e2 : 0 ≤ b ∧ b ≤ (c.toNat : Int) := ⟨by omega, by omega⟩
  have e4 : 0 ≤ a ∧ a ≤ (b.toNat : Int) := ⟨h0, by omega⟩
  have e3 : b.toNat ≤ rows.length := by omega
  simp only [aSliceIm, aBounds, aInt, e1, and_self, if_true, e2, e3, e4, Option.isSome_some, imCut]
theorem sli_bc {k : Nat} {rows : List (List AV)} {cap : Cap} {q' q2 : IntKind} {b c : Int} (h1 : 0 ≤ b) (h2 : b ≤ c) (h4 : c ≤ rows.length) (h3 : rows.length ≤ imKnown rows.length cap) :
    aSliceIm k rows cap none (some (.int q' b)) (some (.int q2 c)) = some (.im k (rows.take b.toNat) (.exact c.toNat)) := by
  have e1 : 0 ≤ c ∧ c ≤ (imKnown rows.length cap : Int) := ⟨by omega, by omega⟩
  have e2 : 0 ≤ b ∧ b ≤ (c.toNat : Int) := ⟨by omega, by omega⟩
  have e3 : b.toNat ≤ rows.length := by omega
  simp only [aSliceIm, aBounds, aInt, e1, and_self, if_true, e2, e3, Option.isSome_some, imCut, List.drop_zero, Nat.sub_zero]

/-! ### Stretches of rows that are written -/
theorem sls_a {t e : TypeId} {k : Nat} (hu : P.underlying t = some (.slice e)) (hk : tySize P e = some k) {i o n : Nat} {q : IntKind} {a : Int} (h0 : 0 ≤ a) (h1 : a ≤ n) : aSlice P t (.sl i o n (.spare k)) (some (.int q a)) none none = some (.sl i (o + a.toNat * k) (n - a.toNat) (.spare k)) := by
  have e2 : 0 ≤ a ∧ a ≤ (n : Int) := ⟨h0, h1⟩
  simp only [aSlice, hu, hk, aBounds, aInt, e2, and_self, if_true, Option.isSome_none, Bool.false_eq_true, if_false]
theorem sls_b {t e : TypeId} {k : Nat} (hu : P.underlying t = some (.slice e)) (hk : tySize P e = some k) {i o n : Nat} {q : IntKind} {b : Int} (h0 : 0 ≤ b) (h1 : b ≤ n) : aSlice P t (.sl i o n (.spare k)) none (some (.int q b)) none = some (.sl i o b.toNat (.spare k)) := by
  have e2 : 0 ≤ b ∧ b ≤ (n : Int) := ⟨h0, h1⟩
  simp only [aSlice, hu, hk, aBounds, aInt, e2, and_self, if_true, Option.isSome_none, Bool.false_eq_true, if_false, Nat.zero_mul, Nat.add_zero, Nat.sub_zero]
theorem sls_ab {t e : TypeId} {k : Nat} (hu : P.underlying t = some (.slice e)) (hk : tySize P e = some k) {i o n : Nat} {q q' : IntKind} {a b : Int} (h0 : 0 ≤ a) (h2 : a ≤ b) (h1 : b ≤ n) : aSlice P t (.sl i o n (.spare k)) (some (.int q a)) (some (.int q' b)) none = some (.sl i (o + a.toNat * k) (b.toNat - a.toNat) (.spare k)) := by
  have e2 : 0 ≤ b ∧ b ≤ (n : Int) := ⟨by omega, h1⟩
  have e3 : 0 ≤ a ∧ a ≤ (b.toNat : Int) := ⟨h0, by omega⟩
  simp only [aSlice, hu, hk, aBounds, aInt, e2, e3, and_self, if_true, Option.isSome_none, Bool.false_eq_true, if_false]
theorem clear_sl {t e : TypeId} {k : Nat} {z : List AV} (hu : P.underlying t = some (.slice e)) (hk : tySize P e = some k) (hz : zeroCellsOf P e = some z) (hzl : z.length = k) (hz1 : z.all AV.one = true) {σ : Store} {i o n : Nat} {cap : Cap} {vs : List AV} {ty : TypeId} (h : σ[i]? = some (.cells vs ty)) (hl : o + n * k ≤ vs.length) :
    ∃ vs', aClear P t (.sl i o n cap) σ = some (σ.set i (.cells vs' ty)) ∧ vs'.length = vs.length ∧ vs'.take o = vs.take o := by
  by_cases hn : n = 0
  · subst hn
    refine ⟨vs, ?_, rfl, rfl⟩
    simp only [aClear, hu, if_true]
    obtain ⟨hlt, e⟩ := List.getElem?_eq_some_iff.1 h
    rw [← e]; simp
  · have hzs : (azeros z (n * k)).length = n * k := by simp [azeros]
    have hone : (azeros z (n * k)).all AV.one = true := by
      by_cases hk0 : k = 0
      · subst hk0; simp [azeros]
      · rw [List.all_eq_true]
        intro x hx
        obtain ⟨j, hj, rfl⟩ := List.mem_map.1 hx
        have hlt : j % z.length < z.length := Nat.mod_lt _ (by omega)
        rw [List.getD_eq_getElem?_getD, List.getElem?_eq_getElem hlt]
        exact List.all_eq_true.1 hz1 _ (List.getElem_mem hlt)
    refine ⟨aput vs o (azeros z (n * k)), ?_, aput_length _ _ _, ?_⟩
    · simp only [aClear, hu, hn, if_false, hz, hk, hzl, if_true]
      rw [wrCells_get h (by rw [hzs]; exact hl) hone]
    · have gen : ∀ (cs vs : List AV) (o d : Nat), d ≤ o → (aput vs o cs).take d = vs.take d := by
        intro cs
        induction cs with
        | nil => intros; rfl
        | cons c cs ih =>
          intro vs o d hd
          simp only [aput]
          rw [ih _ _ _ (by omega)]
          apply List.ext_getElem?
          intro j
          rw [List.getElem?_take, List.getElem?_take]
          split
          · rw [List.getElem?_set_ne (by omega)]
          · rfl
      exact gen _ _ _ _ (Nat.le_refl _)

/-! ### Growing -/
/-- More may be laid behind a frozen slice of n elements; the right lies behind the first N objects. -/
def Own (N : Nat) (cap : Cap) (n : Nat) (τ : Store) : Prop := match cap with
  | .exact c => c = n
  | .tok t => N ≤ t ∧ τ[t]? = some .tok
  | _ => False
theorem Own.take {cap : Cap} {n : Nat} {g : Store} (h : Own σ.length cap n (σ ++ g)) : ∃ g', imTake cap n (σ ++ g) = some (σ ++ g') ∧ g'.length = g.length := by
  cases cap with
  | exact c => have h' : c = n := h; exact ⟨g, by simp [imTake, h'], rfl⟩
  | tok t =>
    obtain ⟨h1, h2⟩ := h
    exact ⟨g.set (t - σ.length) .dead, by simp only [imTake, h2]; rw [List.set_append_right _ _ h1], by simp⟩
  | ro => exact h.elim
  | spare s => exact h.elim
theorem Own.more {N n : Nat} {cap : Cap} {τ : Store} (h : Own N cap n τ) (g : Store) : Own N cap n (τ ++ g) := by
  cases cap with
  | exact c => exact h
  | tok t => exact ⟨h.1, get_more h.2 g⟩
  | ro => exact h.elim
  | spare s => exact h.elim
theorem Own.new {N n : Nat} {τ : Store} (h : N ≤ τ.length) : Own N (.tok τ.length) n (τ ++ [.tok]) := ⟨h, by simp⟩

/-- One element more. -/
theorem app_one {t t' e d : TypeId} {k b : Nat} {z : List AV} {rows : List (List AV)} {cap : Cap} {i : Nat} {cs : List AV} {ty : TypeId} {c2 : Cap} {σ σ1 : Store}
    (hu : P.underlying t = some (.slice e)) (hk : tySize P e = some k) (hz : zeroCellsOf P e = some z) (hb : tyBytes P e = some b) (hzl : z.length = k) (hu' : P.underlying t' = some (.slice d))
    (hi : σ[i]? = some (.cells cs ty)) (hl : cs.length = k) (hone : cs.all AV.one = true) (hroom : (rows.length + 1) * b ≤ 2 ^ 45 ∧ rows.length + 1 ≤ 2 ^ 45 ∧ b ≤ 2 ^ 32) (ht : imTake cap rows.length σ = some σ1) :
    aAppend P #[t, t'] (.im k rows cap) (.sl i 0 1 c2) σ = some (.im k (rows ++ [cs]) (.tok σ.length), σ1 ++ [.tok]) := by
  have hr : rdCells σ i 0 (1 * k) = some cs := by
    rw [rdCells_get hi _ _ (by omega), Nat.one_mul, List.drop_zero, ← hl, List.take_length]
  have hsrc := aSrc_sl (P := P) (k := k) (e := e) (o := 0) (q := 1) hu' (cap := c2) hr
  have hroom' : aRoom P e (rows.length + 1) = true := by
    unfold aRoom; rw [hb]
    simp only [Bool.and_eq_true, decide_eq_true_eq]
    exact ⟨⟨hroom.1, hroom.2.1⟩, hroom.2.2⟩
  have hch : chunk k 1 cs = [cs] := by simp [chunk, List.range_succ, ← hl]
  unfold aAppend
  simp only [List.getElem?_toArray, List.getElem?_cons_zero, List.getElem?_cons_succ, Option.bind_some, hu, hk, hz, hzl, ne_eq, not_true_eq_false, if_false, hsrc, hone, hroom', and_self, if_true, ht, aRows, hch, Nat.one_ne_zero]
/-- More elements, of a frozen slice. -/
theorem app_im {t t' e : TypeId} {u : TypeDesc} {k b : Nat} {z : List AV} {rows rows2 : List (List AV)} {cap c2 : Cap} {σ σ1 : Store}
    (hu : P.underlying t = some (.slice e)) (hk : tySize P e = some k) (hz : zeroCellsOf P e = some z) (hb : tyBytes P e = some b) (hzl : z.length = k) (hu' : P.underlying t' = some u) (hui : isIntD u = false)
    (hone : rows2.flatten.all AV.one = true) (hroom : (rows.length + rows2.length) * b ≤ 2 ^ 45 ∧ rows.length + rows2.length ≤ 2 ^ 45 ∧ b ≤ 2 ^ 32) (hne : rows2 ≠ []) (ht : imTake cap rows.length σ = some σ1) :
    aAppend P #[t, t'] (.im k rows cap) (.im k rows2 c2) σ = some (.im k (rows ++ rows2) (.tok σ.length), σ1 ++ [.tok]) := by
  have hsrc : aSrc P k e (some t') (.im k rows2 c2) σ = some (rows2.length, rows2.flatten) := by
    unfold aSrc
    simp only [Option.bind_some, hu']
    cases u <;> first | (simp [isIntD] at hui; done) | simp
  have hroom' : aRoom P e (rows.length + rows2.length) = true := by
    unfold aRoom; rw [hb]
    simp only [Bool.and_eq_true, decide_eq_true_eq]
    exact ⟨⟨hroom.1, hroom.2.1⟩, hroom.2.2⟩
  have hn0 : ¬ rows2.length = 0 := by intro h; exact hne (List.eq_nil_of_length_eq_zero h)
  unfold aAppend
  simp only [List.getElem?_toArray, List.getElem?_cons_zero, List.getElem?_cons_succ, Option.bind_some, hu, hk, hz, hzl, ne_eq, not_true_eq_false, if_false, hsrc, hone, hroom', and_self, if_true, ht, aRows, hn0]
theorem app_none {t t' e : TypeId} {u : TypeDesc} {k : Nat} {z : List AV} {rows : List (List AV)} {cap c2 : Cap} {σ : Store}
    (hu : P.underlying t = some (.slice e)) (hk : tySize P e = some k) (hz : zeroCellsOf P e = some z) (hzl : z.length = k) (hu' : P.underlying t' = some u) (hui : isIntD u = false) :
    aAppend P #[t, t'] (.im k rows cap) (.im k [] c2) σ = some (.im k rows cap, σ) := by
  have hsrc : aSrc P k e (some t') (.im k [] c2) σ = some (0, []) := by
    unfold aSrc
    simp only [Option.bind_some, hu']
    cases u <;> first | (simp [isIntD] at hui; done) | simp
  unfold aAppend
  simp only [List.getElem?_toArray, List.getElem?_cons_zero, List.getElem?_cons_succ, Option.bind_some, hu, hk, hz, hzl, ne_eq, not_true_eq_false, if_false, hsrc, if_true]

/-- A slice that a function grows: one element more. -/
theorem grow1 {t t' e d : TypeId} {k b : Nat} {z : List AV} (hu : P.underlying t = some (.slice e)) (hk : tySize P e = some k) (hz : zeroCellsOf P e = some z) (hb : tyBytes P e = some b) (hzl : z.length = k) (hu' : P.underlying t' = some (.slice d))
    {σ g : Store} {rows : List (List AV)} {cap : Cap} (hown : Own σ.length cap rows.length (σ ++ g)) {cs : List AV} {ty : TypeId} (hl : cs.length = k) (hone : cs.all AV.one = true) (hroom : (rows.length + 1) * b ≤ 2 ^ 45 ∧ rows.length + 1 ≤ 2 ^ 45 ∧ b ≤ 2 ^ 32) :
    ∃ g' cap', aAppend P #[t, t'] (.im k rows cap) (.sl (σ.length + g.length) 0 1 (.exact 1)) (σ ++ (g ++ [.cells cs ty])) = some (.im k (rows ++ [cs]) cap', σ ++ g') ∧ Own σ.length cap' (rows.length + 1) (σ ++ g') := by
  have hown' := hown.more [AObj.cells cs ty]
  rw [List.append_assoc] at hown'
  obtain ⟨g', h1, h2⟩ := hown'.take
  have hi : (σ ++ (g ++ [AObj.cells cs ty]))[σ.length + g.length]? = some (.cells cs ty) := by
    rw [get_new]; exact get_new0
  have hap := app_one (P := P) (c2 := .exact 1) hu hk hz hb hzl hu' hi hl hone hroom h1
  refine ⟨g' ++ [.tok], .tok (σ ++ (g ++ [AObj.cells cs ty])).length, ?_, ?_⟩
  · rw [← List.append_assoc σ g' [AObj.tok]]; exact hap
  · have : (σ ++ (g ++ [AObj.cells cs ty])).length = (σ ++ g').length := by simp [h2]
    rw [this, ← List.append_assoc σ g' [AObj.tok]]
    exact Own.new (by simp)
/-- A slice that a function grows: a frozen slice behind it. -/
theorem growM {t t' e : TypeId} {u : TypeDesc} {k b : Nat} {z : List AV} (hu : P.underlying t = some (.slice e)) (hk : tySize P e = some k) (hz : zeroCellsOf P e = some z) (hb : tyBytes P e = some b) (hzl : z.length = k) (hu' : P.underlying t' = some u) (hui : isIntD u = false)
    {σ g : Store} {rows rows2 : List (List AV)} {cap c2 : Cap} (hown : Own σ.length cap rows.length (σ ++ g)) (hone : rows2.flatten.all AV.one = true) (hroom : (rows.length + rows2.length) * b ≤ 2 ^ 45 ∧ rows.length + rows2.length ≤ 2 ^ 45 ∧ b ≤ 2 ^ 32) :
    ∃ g' cap', aAppend P #[t, t'] (.im k rows cap) (.im k rows2 c2) (σ ++ g) = some (.im k (rows ++ rows2) cap', σ ++ g') ∧ Own σ.length cap' (rows.length + rows2.length) (σ ++ g') := by
  by_cases hne : rows2 = []
  · subst hne
    refine ⟨g, cap, ?_, by simpa using hown⟩
    rw [List.append_nil]
    exact app_none hu hk hz hzl hu' hui
  · obtain ⟨g', h1, h2⟩ := hown.take
    refine ⟨g' ++ [.tok], .tok (σ ++ g).length, ?_, ?_⟩
    · rw [← List.append_assoc σ g' [AObj.tok]]; exact app_im hu hk hz hb hzl hu' hui hone hroom hne h1
    · have : (σ ++ g).length = (σ ++ g').length := by simp [h2]
      rw [this, ← List.append_assoc σ g' [AObj.tok]]
      exact Own.new (by simp)

/-- A row that a function grows, to be written in later: one element more. -/
theorem rowgrow1 {t t' e d : TypeId} {k b : Nat} {z : List AV} (hu : P.underlying t = some (.slice e)) (hk : tySize P e = some k) (hz : zeroCellsOf P e = some z) (hb : tyBytes P e = some b) (hzl : z.length = k) (hu' : P.underlying t' = some (.slice d))
    {σ g : Store} {v : AV} {n : Nat} {cs new : List AV} {ty : TypeId} (hrow : Row (σ ++ g) e k v n cs) (hf : ∀ r o n c, v = .sl r o n c → σ.length ≤ r) (hl : new.length = k) (hone : new.all AV.one = true) (hroom : (n + 1) * b ≤ 2 ^ 45 ∧ n + 1 ≤ 2 ^ 45 ∧ b ≤ 2 ^ 32) :
    ∃ g', aAppend P #[t, t'] v (.sl (σ.length + g.length) 0 1 (.exact 1)) (σ ++ (g ++ [.cells new ty])) = some (.sl (σ.length + (g.length + 1)) 0 (n + 1) (.spare k), σ ++ g') ∧ g'.length = g.length + 2 ∧ Row (σ ++ g') e k (.sl (σ.length + (g.length + 1)) 0 (n + 1) (.spare k)) (n + 1) (cs ++ new) := by
  have hrow' := row_app (g := [AObj.cells new ty]) hrow
  rw [List.append_assoc] at hrow'
  have hr : rdCells (σ ++ (g ++ [AObj.cells new ty])) (σ.length + g.length) 0 (1 * k) = some new := by
    have hi : (σ ++ (g ++ [AObj.cells new ty]))[σ.length + g.length]? = some (.cells new ty) := by rw [get_new]; exact get_new0
    rw [rdCells_get hi _ _ (by omega), Nat.one_mul, List.drop_zero, ← hl, List.take_length]
  have hap := row_append (P := P) (tys := #[t, t']) (t := t) (t' := t') (q := 1) (cap := .exact 1) rfl hu hk hz hb hzl rfl hu' hrow' (by omega) hr hone hroom
  obtain ⟨g', h1, h2⟩ := kill_new (σ := σ) (g := g ++ [AObj.cells new ty]) hf
  refine ⟨g' ++ [.cells (cs ++ new) e], ?_, by simp [h2], ?_⟩
  · rw [hap, h1, List.append_assoc]
    simp
  · have hlen : (σ ++ g').length = σ.length + (g.length + 1) := by simp [h2]
    have := row_new (σ := σ ++ g') (ty := e) (k := k) (n := n + 1) (cs := cs ++ new) (by have := row_len hrow; simp [this, hl, Nat.add_mul])
    rw [hlen, List.append_assoc] at this
    exact this

theorem ax_mark {t e : TypeId} (ht : P.underlying t = some (.slice e)) (he : isU8 P e = true) {call : CallT} {ρ : Operand → AV} {K : Kont} {σ : Store} (x : Operand) :
    aexec P call ρ (.convert t t x) K σ = oB (aMark P t t (ρ x) σ) (fun v => K v σ) ⟨⟩ := by
  have hk : opKind P (.convert t t x) = 2 := by simp [opKind, ht]
  unfold aexec
  simp only [hk, aeff]
  cases aMark P t t (ρ x) σ <;> rfl
/-- A string's bytes, laid. -/
def toStr : AV → Option (List UInt8)
  | .str s => some s
  | _ => none
theorem ax_bytes {src dst e : TypeId} (hs : P.underlying src = some .string) (hd : P.underlying dst = some (.slice e)) (he : isU8 P e = true) {call : CallT} {ρ : Operand → AV} {K : Kont} (x : Operand) :
    aexec P call ρ (.convert src dst x) K σ = oB (toStr (ρ x)) (fun s => K (.sl σ.length 0 s.length (.spare 1)) (σ ++ [.cells (s.map fun b => .int .u8 b.toNat) e])) ⟨⟩ := by
  have hne : src ≠ dst := by rintro rfl; rw [hs] at hd; cases hd
  have hk : opKind P (.convert src dst x) = 1 := by simp [opKind, hd, hne]
  unfold aexec
  simp only [hk, aalloc, hs, hd]
  cases hx : ρ x <;> simp only [toStr] <;> first | rfl | (simp only [he, if_true]; rfl)

theorem aIndexAddr_im {t e : TypeId} {k : Nat} (hu : P.underlying t = some (.slice e)) (hk : tySize P e = some k) (rows : List (List AV)) (cap : Cap) (q : IntKind) (j : Int) : aIndexAddr P t (.im k rows cap) (.int q j) = if 0 ≤ j then (rows[j.toNat]?).map (fun r => AV.imp r 0) else none := by
  simp only [aIndexAddr, aInt, hu, hk, true_and]
theorem aConv_im {s d e : TypeId} (hs : P.underlying s = some (.slice e)) (hd : P.underlying d = some .string) (he : isU8 P e = true) (rows : List (List AV)) (cap : Cap) (σ : Store) : aConv P s d (.im 1 rows cap) σ = (bytesOf rows.flatten).map .str := by
  simp only [aConv, hs, hd, he, and_self, if_true]
theorem aConv_sl {s d e : TypeId} (hs : P.underlying s = some (.slice e)) (hd : P.underlying d = some .string) (he : isU8 P e = true) (i o n : Nat) (cap : Cap) (σ : Store) : aConv P s d (.sl i o n cap) σ = (rdCells σ i o n).bind fun vs => (bytesOf vs).map .str := by
  simp only [aConv, hs, hd, he, if_true]
  cases rdCells σ i o n <;> rfl
def mkArg (b : Nat) (l c : AV) : Option (Nat × Nat) := match l, c with
  | .int _ l, .int _ c => if 0 ≤ l ∧ l ≤ c ∧ b * c ≤ 2 ^ 46 ∧ c ≤ 2 ^ 46 then some (l.toNat, c.toNat) else none
  | _, _ => none
theorem mkArg_ok {b : Nat} {q q' : IntKind} {l c : Int} (h : 0 ≤ l ∧ l ≤ c ∧ b * c ≤ 2 ^ 46 ∧ c ≤ 2 ^ 46) : mkArg b (.int q l) (.int q' c) = some (l.toNat, c.toNat) := if_pos h
theorem ax_mk {t e : TypeId} {k b : Nat} {z : List AV} (hu : P.underlying t = some (.slice e)) (hk : tySize P e = some k) (hz : zeroCellsOf P e = some z) (hb : tyBytes P e = some b) {call : CallT} {ρ : Operand → AV} {K : Kont} (l c : Operand) :
    aexec P call ρ (.makeSlice t l c) K σ = oB (mkArg b (ρ l) (ρ c)) (fun r => K (.sl σ.length 0 r.1 (.exact r.2)) (σ ++ [.cells (azeros (if r.2 * k = 0 then [] else z) (r.2 * k)) e])) ⟨⟩ := by
  have ho : opKind P (.makeSlice t l c) = 1 := rfl
  unfold aexec
  simp only [ho, aalloc, hu]
  cases ρ l <;> cases ρ c <;> first | rfl | skip
  rename_i k1 n1 k2 n2
  simp only [hk, hz, hb, mkArg]
  by_cases hc : 0 ≤ n1 ∧ n1 ≤ n2 ∧ (b : Int) * n2 ≤ 2 ^ 46 ∧ n2 ≤ 2 ^ 46
  · rw [if_pos hc, if_pos hc]; rfl
  · rw [if_neg hc, if_neg hc]; rfl
theorem azeros_one (c : AV) (n : Nat) : azeros (if n * 1 = 0 then [] else [c]) (n * 1) = List.replicate n c := by
  rw [Nat.mul_one]
  by_cases h : n = 0
  · subst h; rfl
  · rw [if_neg h]
    unfold azeros
    apply List.ext_getElem
    · simp
    · intro i h1 h2
      simp [Nat.mod_one]

/-! ### A token kept -/
theorem Ent.tok {σ0 σ1 g : Store} {k t : Nat} {rows : List (List AV)} (hl : σ0.length ≤ σ1.length) (ht : σ1.length ≤ t) (hg : (σ1 ++ g)[t]? = some .tok) (hrows : Clos σ1.length rows.flatten) (ho : ∀ (i : Nat) (o : AObj), σ1[i]? = some o → σ0[i]? = some o ∨ CloO σ1.length o) :
    Ent σ0 (.im k rows (.tok t)) (σ1 ++ g) (.im k rows (.tok σ1.length)) (σ1 ++ [.tok]) := by
  refine ⟨by simp; omega, fun w0 μ0 w00 μ w x R0 hle hext R hvx => ?_⟩
  let μ' : Ren := ⟨fun j => if j < σ1.length then μ j else if j = σ1.length then μ t else none, μ.fz⟩
  have hlt : ∀ i, i < σ1.length → μ' i = μ i := fun i hi => if_pos hi
  have hat : μ' σ1.length = μ t := by show (if σ1.length < σ1.length then _ else if σ1.length = σ1.length then μ t else none) = _; rw [if_neg (Nat.lt_irrefl _), if_pos rfl]
  have hsome : ∀ i L, μ' i = some L → (i < σ1.length ∧ μ i = some L) ∨ (i = σ1.length ∧ μ t = some L) := by
    intro i L e
    have e' : (if i < σ1.length then μ i else if i = σ1.length then μ t else none) = some L := e
    split at e'
    · rename_i hi; exact .inl ⟨hi, e'⟩
    · split at e'
      · rename_i hi; exact .inr ⟨hi, e'⟩
      · cases e'
  have hfl : μ.fle μ' := Ren.fle_of_eq rfl
  have hget : ∀ i (o : AObj), i < σ1.length → (σ1 ++ [AObj.tok])[i]? = some o → σ1[i]? = some o := fun i o hi e => by rwa [List.getElem?_append_left hi] at e
  have hget2 : ∀ i (o : AObj), i < σ1.length → σ1[i]? = some o → (σ1 ++ g)[i]? = some o := fun i o hi e => by rw [List.getElem?_append_left hi]; exact e
  have htokobj : ∀ (o : AObj), (σ1 ++ [AObj.tok])[σ1.length]? = some o → o = .tok := fun o e => by simp at e; exact e.symm
  refine ⟨μ', ⟨fun i L e => ?_, Ren.fle_trans hle.fz hfl⟩, fun i hi => ?_, ?_, ?_⟩
  · rw [hlt i (by have := (R0.dom i L e).1; omega)]; exact hle.ren i L e
  · rw [hlt i (by omega)]; exact hext i hi
  · cases hvx with
    | im hf hv hk hn hc =>
      obtain ⟨L, h1, h2⟩ := hc
      exact .im (hf.mono hfl) (hrows μ μ' _ hlt hfl hv) hk hn ⟨L, by rw [hat]; exact h1, h2⟩
    | imE hc hz => exact hc.elim
  · refine ⟨R.below, ?_, ?_, ?_, R.frz, ?_, ?_, R.glb.fmono hfl⟩
    · intro i L o hi hoi
      rcases hsome i L hi with ⟨h1, h2⟩ | ⟨rfl, h2⟩
      · have hoi' := hget i o h1 hoi
        have hR := R.obj i L o h2 (hget2 i o h1 hoi')
        have hc : CloO σ1.length o := by
          rcases ho i o hoi' with h0 | h0
          · have hi0 : i < σ0.length := (List.getElem?_eq_some_iff.1 h0).1
            have hm0 : μ0 i = some L := by rw [← hext i hi0]; exact h2
            exact (R0.obj i L o hm0 h0).clo fun j Lj e => by have := (R0.dom j Lj e).1; omega
          · exact h0
        exact hc w0 μ _ w L hlt hfl hR
      · rw [htokobj o hoi]
        have := R.obj t L _ h2 hg
        exact this
    · intro i j Li Lj oi oj hne hi hj hoi hoj hmi hmj
      rcases hsome i Li hi with ⟨h1, h2⟩ | ⟨rfl, h2⟩
      · rcases hsome j Lj hj with ⟨h3, h4⟩ | ⟨rfl, h4⟩
        · exact R.inj i j Li Lj oi oj hne h2 h4 (hget2 i oi h1 (hget i oi h1 hoi)) (hget2 j oj h3 (hget j oj h3 hoj)) hmi hmj
        · exact R.inj i t Li Lj oi _ (by omega) h2 h4 (hget2 i oi h1 (hget i oi h1 hoi)) hg hmi rfl
      · rcases hsome j Lj hj with ⟨h3, h4⟩ | ⟨rfl, h4⟩
        · exact R.inj t j Li Lj _ oj (by omega) h2 h4 hg (hget2 j oj h3 (hget j oj h3 hoj)) rfl hmj
        · exact absurd rfl hne
    · intro i L hi
      rcases hsome i L hi with ⟨h1, h2⟩ | ⟨rfl, h2⟩
      · exact ⟨by simp; omega, (R.dom i L h2).2⟩
      · exact ⟨by simp, (R.dom t L h2).2⟩
    · intro i L o hi hoi hm htk
      rcases hsome i L hi with ⟨h1, h2⟩ | ⟨rfl, h2⟩
      · exact R.sep i L o h2 (hget2 i o h1 (hget i o h1 hoi)) hm htk
      · rw [htokobj o hoi] at htk; cases htk
    · intro i L o hi hoi htk
      rcases hsome i L hi with ⟨h1, h2⟩ | ⟨rfl, h2⟩
      · exact R.tok i L o h2 (hget2 i o h1 (hget i o h1 hoi)) htk
      · exact R.tok t L _ h2 hg rfl

/-! ### Calls whose garbage is dropped -/
/-- A frozen slice is answered, with the right to lay more behind it. -/
theorem acall_gcT {T : Table} {f : FuncId} {args : List AV} {K : Kont} {σ : Store} (h : acall P T f args (fun v σ' => ∃ σ1 g k rows t, σ' = σ1 ++ g ∧ σ1.length = σ.length ∧ v = .im k rows (.tok t) ∧ σ.length ≤ t ∧ (σ1 ++ g)[t]? = some .tok ∧ Clos σ.length rows.flatten ∧ (∀ (i : Nat) (o : AObj), σ1[i]? = some o → σ[i]? = some o ∨ CloO σ.length o) ∧ K (.im k rows (.tok σ.length)) (σ1 ++ [.tok])) σ) : acall P T f args K σ := by
  refine acall_ret (acall_mono h ?_)
  rintro v σ' ⟨σ1, g, k, rows, t, rfl, hl, rfl, ht, hg, hc, ho, hK⟩
  rw [← hl] at hK ht hc ho
  exact ⟨_, _, Ent.tok (by omega) ht hg hc ho, hK⟩

theorem acall_gc {T : Table} {f : FuncId} {args : List AV} {K : Kont} (h : acall P T f args (fun v σ' => (∃ g, σ' = σ ++ g) ∧ Clo σ.length v ∧ K v σ) σ) : acall P T f args K σ := by
  refine acall_ret (acall_mono h ?_)
  rintro v σ' ⟨⟨g, rfl⟩, hc, hK⟩
  exact ⟨v, σ, Ent.drop (Nat.le_refl _) hc fun i o e => .inl e, hK⟩
/-- The same, the answer said otherwise. -/
theorem acall_gcW {T : Table} {f : FuncId} {args : List AV} {K : Kont} (h : acall P T f args (fun v σ' => ∃ g v2, Frz σ' (σ ++ g) ∧ Imp (σ ++ g) v v2 ∧ Clo σ.length v2 ∧ K v2 σ) σ) : acall P T f args K σ := by
  refine acall_ret (acall_mono h ?_)
  rintro v σ' ⟨g, v2, hF, hI, hc, hK⟩
  exact ⟨v2, σ, Ent.frz hF hI (Ent.drop (Nat.le_refl _) hc fun i o e => .inl e), hK⟩
/-- The same, old objects changed. -/
theorem acall_gcS {T : Table} {f : FuncId} {args : List AV} {K : Kont} (h : acall P T f args (fun v σ' => ∃ σ1 g v2, Frz σ' (σ1 ++ g) ∧ σ1.length = σ.length ∧ Imp (σ1 ++ g) v v2 ∧ Clo σ.length v2 ∧ (∀ (i : Nat) (o : AObj), σ1[i]? = some o → σ[i]? = some o ∨ CloO σ.length o) ∧ K v2 σ1) σ) : acall P T f args K σ := by
  refine acall_ret (acall_mono h ?_)
  rintro v σ' ⟨σ1, g, v2, hF, hl, hI, hc, ho, hK⟩
  refine ⟨v2, σ1, Ent.frz hF hI (Ent.drop (by omega) (by rw [hl]; exact hc) fun i o e => ?_), hK⟩
  rw [hl]
  exact ho i o e
end
end Go.Proofs.Ytbkmjmhoclflnaa.Fw
