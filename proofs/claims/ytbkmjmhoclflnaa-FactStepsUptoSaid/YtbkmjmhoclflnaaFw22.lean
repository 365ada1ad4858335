/- Maps by their keys. -/
import Derived.Test.YtbkmjmhoclflnaaFw21
namespace Go.Proofs.Ytbkmjmhoclflnaa.Fw
open Go Go.RowKit
set_option linter.unusedVariables false
set_option linter.unusedSimpArgs false
set_option linter.unusedSectionVars false

section
variable {P : Program} {κ α : Type} [DecidableEq κ]

/-- A map's contents: key, value, stamp. -/
abbrev Ents (κ α : Type) := List (κ × α × Nat)

def encE (ke : κ → AV) (ve : α → AV) (l : Ents κ α) : List (AV × AV × Nat) := l.map fun e => (ke e.1, ve e.2.1, e.2.2)

/-- Keys of a kind. -/
structure KeyOf (P : Program) (kt : TypeId) (ke : κ → AV) : Prop where
  eq : ∀ x y, aEq P kt (ke x) (ke y) = some (decide (x = y))
  ok : ∀ x, aKeyOk P kt (ke x) = true
  same : ∀ x, aSame (ke x) (ke x) = true

theorem KeyOf.int {kt : TypeId} {k : IntKind} (h : P.underlying kt = some (.int k)) : KeyOf P kt (AV.int k) := by
  refine ⟨fun x y => ?_, fun x => ?_, fun x => ?_⟩
  · simp [aEq, h, isAggD, aEq1]
    congr 1
  · simp [aKeyOk, h, scalarD, ifaceD, isAggD]
  · simp [aSame, aSame1]

theorem KeyOf.str {kt : TypeId} (h : P.underlying kt = some .string) : KeyOf P kt AV.str := by
  refine ⟨fun x y => ?_, fun x => ?_, fun x => ?_⟩
  · simp [aEq, h, isAggD, aEq1]
    by_cases e : x = y <;> simp [e]
  · simp [aKeyOk, h, scalarD, ifaceD, isAggD]
  · simp [aSame, aSame1]

def mfind (x : κ) : Ents κ α → Nat → Option (Nat × α)
  | [], _ => none
  | e :: r, i => if x = e.1 then some (i, e.2.1) else mfind x r (i + 1)

def mget (x : κ) : Ents κ α → Option α
  | [] => none
  | e :: r => if x = e.1 then some e.2.1 else mget x r

def mhas (x : κ) (l : Ents κ α) : Bool := l.any fun e => decide (x = e.1)

/-- With a value laid in. -/
def mset (x : κ) (v : α) (c : Nat) : Ents κ α → Ents κ α
  | [] => [(x, v, c)]
  | e :: r => if x = e.1 then (x, v, e.2.2) :: r else e :: mset x v c r

/-- Without a key. -/
def mdel (x : κ) : Ents κ α → Ents κ α
  | [] => []
  | e :: r => if x = e.1 then r else e :: mdel x r

theorem mfind_get (x : κ) : ∀ (l : Ents κ α) (i : Nat), (mfind x l i).map (·.2) = mget x l
  | [], _ => rfl
  | e :: r, i => by
    unfold mfind mget
    by_cases h : x = e.1
    · simp [h]
    · simp [h, mfind_get x r]

variable {kt : TypeId} {ke : κ → AV} {ve : α → AV}

theorem aFind_enc (hk : KeyOf P kt ke) (x : κ) : ∀ (l : Ents κ α) (i : Nat), aFind P kt (ke x) (encE ke ve l) i = some ((mfind x l i).map fun p => (p.1, ve p.2))
  | [], _ => rfl
  | e :: r, i => by
    unfold mfind
    simp only [encE, List.map_cons, aFind, hk.eq]
    by_cases h : x = e.1
    · simp [h]
    · simp only [h, decide_false, if_false]
      exact aFind_enc hk x r (i + 1)

theorem mapEntries_map {σ : Store} {m : Nat} {es : List (AV × AV × Nat)} {c : Nat} (h : σ[m]? = some (.map es c)) : mapEntries σ (.map m) = some es := by simp [mapEntries, h]

theorem aLookup_enc (hk : KeyOf P kt ke) {t et : TypeId} (hu : P.underlying t = some (.map kt et)) {z : AV} (hz : tyZero P et = some z) {σ : Store} {m : Nat} {l : Ents κ α} {c : Nat} (h : σ[m]? = some (.map (encE ke ve l) c)) (x : κ) (ok : Bool) :
    aLookup P t (.map m) (ke x) ok σ = some (match mget x l with
      | some v => if ok then .tup [ve v, .bool true] else ve v
      | none => if ok then .tup [z, .bool false] else z) := by
  simp only [aLookup, hu, hk.ok, if_true, mapEntries_map h, aFind_enc hk]
  rw [← mfind_get x l 0]
  cases mfind x l 0 with
  | none => simp [hz]
  | some p => simp

theorem mset_find (x : κ) (v : α) (c : Nat) : ∀ (l : Ents κ α) (i : Nat), (∀ p, mfind x l i = some p → ∃ b, i ≤ p.1 ∧ l[p.1 - i]? = some (x, p.2, b) ∧ mset x v c l = l.set (p.1 - i) (x, v, b)) ∧ (mfind x l i = none → mset x v c l = l ++ [(x, v, c)])
  | [], i => ⟨fun p h => (by cases h), fun _ => rfl⟩
  | e :: r, i => by
    obtain ⟨h1, h2⟩ := mset_find x v c r (i + 1)
    unfold mfind mset
    by_cases h : x = e.1
    · simp only [h, if_true]
      refine ⟨fun p hp => ?_, fun hn => by cases hn⟩
      cases hp
      exact ⟨e.2.2, Nat.le_refl _, by simp, by simp⟩
    · simp only [h, if_false]
      refine ⟨fun p hp => ?_, fun hn => by rw [h2 hn]; rfl⟩
      obtain ⟨b, e1, e2, e3⟩ := h1 p hp
      refine ⟨b, by omega, ?_, ?_⟩
      · rw [show p.1 - i = (p.1 - (i + 1)) + 1 by omega]; simpa using e2
      · rw [e3, show p.1 - i = (p.1 - (i + 1)) + 1 by omega]; rfl

theorem encE_set (l : Ents κ α) (j : Nat) (x : κ) (v : α) (b : Nat) : encE ke ve (l.set j (x, v, b)) = (encE ke ve l).set j (ke x, ve v, b) := by
  simp [encE, List.map_set]

theorem mfind_none (x : κ) : ∀ (l : Ents κ α) (i : Nat), mfind x l i = none ↔ mget x l = none
  | l, i => by rw [← mfind_get x l i]; cases mfind x l i <;> simp

theorem aMapUpd_enc (hk : KeyOf P kt ke) {t et : TypeId} (hu : P.underlying t = some (.map kt et)) {σ : Store} {m : Nat} {l : Ents κ α} {c : Nat} (h : σ[m]? = some (.map (encE ke ve l) c)) (x : κ) (v : α) :
    aMapUpd P t (.map m) (ke x) (ve v) σ = some (σ.set m (.map (encE ke ve (mset x v c l)) (if (mget x l).isSome then c else c + 1))) := by
  obtain ⟨h1, h2⟩ := mset_find x v c l 0
  simp only [aMapUpd, hu, h, hk.ok, if_true, aFind_enc hk]
  cases hf : mfind x l 0 with
  | none =>
    have hg : mget x l = none := (mfind_none x l 0).1 hf
    simp only [Option.map_none, hg, Option.isSome_none, Bool.false_eq_true, if_false, h2 hf]
    simp [encE]
  | some p =>
    have hg : (mget x l).isSome = true := by rw [← mfind_get x l 0, hf]; rfl
    obtain ⟨b, e1, e2, e3⟩ := h1 p hf
    simp only [Nat.sub_zero] at e2 e3
    have : (encE ke ve l)[p.1]? = some (ke x, ve p.2, b) := by simp [encE, e2]
    simp only [Option.map_some, this, hk.same, if_true, hg, e3, encE_set]

omit [DecidableEq κ] in
theorem map_eraseIdx' {β : Type} (f : α → β) : ∀ (l : List α) (i : Nat), (l.eraseIdx i).map f = (l.map f).eraseIdx i
  | [], _ => rfl
  | _ :: _, 0 => rfl
  | a :: l, i + 1 => by simp [map_eraseIdx' f l i]

theorem mdel_find (x : κ) : ∀ (l : Ents κ α) (i : Nat), (∀ p, mfind x l i = some p → i ≤ p.1 ∧ mdel x l = l.eraseIdx (p.1 - i)) ∧ (mfind x l i = none → mdel x l = l)
  | [], i => ⟨fun p h => (by cases h), fun _ => rfl⟩
  | e :: r, i => by
    obtain ⟨h1, h2⟩ := mdel_find x r (i + 1)
    unfold mfind mdel
    by_cases h : x = e.1
    · simp only [h, if_true]
      refine ⟨fun p hp => ?_, fun hn => by cases hn⟩
      cases hp
      exact ⟨Nat.le_refl _, by simp⟩
    · simp only [h, if_false]
      refine ⟨fun p hp => ?_, fun hn => by rw [h2 hn]⟩
      obtain ⟨e1, e3⟩ := h1 p hp
      refine ⟨by omega, ?_⟩
      rw [e3, show p.1 - i = (p.1 - (i + 1)) + 1 by omega]; rfl

theorem aDelete_enc (hk : KeyOf P kt ke) {t et : TypeId} (hu : P.underlying t = some (.map kt et)) {σ : Store} {m : Nat} {l : Ents κ α} {c : Nat} (h : σ[m]? = some (.map (encE ke ve l) c)) (x : κ) :
    aDelete P t (.map m) (ke x) σ = some (σ.set m (.map (encE ke ve (mdel x l)) c)) := by
  obtain ⟨h1, h2⟩ := mdel_find x l 0
  simp only [aDelete, hu, h, hk.ok, if_true, aFind_enc hk]
  cases hf : mfind x l 0 with
  | none => simp only [Option.map_none, h2 hf]
  | some p =>
    obtain ⟨e1, e3⟩ := h1 p hf
    simp only [Option.map_some, e3, Nat.sub_zero]
    simp only [encE, map_eraseIdx']

/-! ### Going over a map that is not turned meanwhile -/
/-- Stamps are of their map's clock, and unlike. -/
def Stamped (l : Ents κ α) (c : Nat) : Prop := (∀ e ∈ l, e.2.2 < c) ∧ (l.map (·.2.2)).Nodup

/-- What is left to be gone over. -/
def mleft (seen : List Nat) (l : Ents κ α) : Ents κ α := l.filter fun e => !seen.contains e.2.2

theorem aNext_enc {σ : Store} {r m : Nat} {l : Ents κ α} {c : Nat} {seen : List Nat} (hr : σ[r]? = some (.mit (some m) c seen c)) (h : σ[m]? = some (.map (encE ke ve l) c)) (hs : Stamped l c) :
    aNext (.ptr r 0) false σ = some (if (mleft seen l).isEmpty then [(.tup [.bool false], σ)] else (mleft seen l).map fun e => (.tup [.bool true, ke e.1, ve e.2.1], σ.set r (.mit (some m) c (seen ++ [e.2.2]) c))) := by
  have hno : (!seen.isEmpty && !(encE ke ve l).isEmpty && (encE ke ve l).all (fun e => decide (e.2.2 ≥ c))) = false := by
    cases l with
    | nil => simp [encE]
    | cons e r =>
      have := hs.1 e (by simp)
      simp only [encE, List.map_cons, List.isEmpty_cons, Bool.not_false, Bool.and_true, List.all_cons]
      have hd : decide (e.2.2 ≥ c) = false := by simp; omega
      rw [hd]; simp
  have hleft : (encE ke ve l).filter (fun e => !seen.contains e.2.2) = encE ke ve (mleft seen l) := by
    simp only [encE, mleft, List.filter_map]
    rfl
  have hold : (encE ke ve (mleft seen l)).filter (fun e => decide (e.2.2 < c)) = encE ke ve (mleft seen l) := by
    apply List.filter_eq_self.2
    intro e he
    simp only [encE, List.mem_map] at he
    obtain ⟨a, ha, rfl⟩ := he
    have := hs.1 a (List.mem_filter.1 ha).1
    simpa using this
  have hnew : (encE ke ve (mleft seen l)).filter (fun e => decide (e.2.2 ≥ c)) = [] := by
    apply List.filter_eq_nil_iff.2
    intro e he
    simp only [encE, List.mem_map] at he
    obtain ⟨a, ha, rfl⟩ := he
    have := hs.1 a (List.mem_filter.1 ha).1
    simp; omega
  simp only [aNext, hr, h, hno, Bool.false_eq_true, if_false, hleft, hold, hnew]
  cases hl : mleft seen l with
  | nil => simp [encE]
  | cons a b => simp [encE]

theorem find_stamp {l : Ents κ α} (hn : (l.map (·.2.2)).Nodup) {e : κ × α × Nat} (he : e ∈ l) : (encE ke ve l).find? (fun x => x.2.2 == e.2.2) = some (ke e.1, ve e.2.1, e.2.2) := by
  induction l with
  | nil => cases he
  | cons a l ih =>
    simp only [List.map_cons, List.nodup_cons] at hn
    simp only [encE, List.map_cons, List.find?_cons]
    by_cases h : a.2.2 = e.2.2
    · cases he with
      | head => simp
      | tail _ he => exact absurd (List.mem_map.2 ⟨e, he, h.symm⟩) hn.1
    · have hb : (a.2.2 == e.2.2) = false := by simpa using h
      simp only [hb]
      cases he with
      | head => exact absurd rfl h
      | tail _ he => exact ih hn.2 he

theorem aEntry_enc {σ : Store} {r m : Nat} {l : Ents κ α} {c : Nat} {seen : List Nat} {e : κ × α × Nat} (hr : σ[r]? = some (.mit (some m) c (seen ++ [e.2.2]) c)) (h : σ[m]? = some (.map (encE ke ve l) c)) (hs : Stamped l c) (he : e ∈ l) :
    aEntry (.ptr r 0) σ = some (.tup [ke e.1, ve e.2.1]) := by
  unfold aEntry
  simp only [hr, h, List.getLast?_append, List.getLast?_singleton, Option.some_or, if_true, find_stamp hs.2 he]

theorem mleft_lt {seen : List Nat} {l : Ents κ α} {e : κ × α × Nat} (he : e ∈ mleft seen l) : (mleft (seen ++ [e.2.2]) l).length < (mleft seen l).length := by
  have h1 : mleft (seen ++ [e.2.2]) l = (mleft seen l).filter fun x => !(x.2.2 == e.2.2) := by
    simp only [mleft, List.filter_filter]
    congr 1
    funext x
    cases h1 : seen.contains x.2.2 <;> simp_all <;> rfl
  rw [h1]
  refine Nat.lt_of_le_of_ne (List.length_filter_le _ _) fun h => ?_
  have := List.length_filter_eq_length_iff.1 h e he
  simp at this

theorem aRange_enc {P : Program} {t kt et : TypeId} (hu : P.underlying t = some (.map kt et)) {σ : Store} {m : Nat} {es : List (AV × AV × Nat)} {c : Nat} (h : σ[m]? = some (.map es c)) : aRange P t (.map m) σ = some (.mit (some m) c [] c) := by
  simp only [aRange, hu, h]

end
end Go.Proofs.Ytbkmjmhoclflnaa.Fw
