/- Structs built, maps looked up, lengths, assertions. -/
import Derived.Test.YtbkmjmhoclflnaaFw5
import Derived.Laws.Tables
namespace Go.Proofs.Ytbkmjmhoclflnaa.Fw
open Go Go.RowKit
set_option linter.unusedVariables false
set_option linter.unusedSimpArgs false

section
variable {P : Program}

/-! ### build -/
def acells : AV → Option (List AV)
  | .agg cs => some cs
  | .bad => none
  | .tup _ => none
  | v => some [v]

theorem acells_sim {μ : Ren} {v : AV} {v' : Value} (hv : VR μ v v') {cs : List AV} (h : acells v = some cs) : VRs μ cs v'.cells.toList := by
  have hv0 := hv
  cases hv <;> simp only [acells, Option.some.injEq] at h <;> first
    | (cases h; done)
    | (subst h; first
        | (rename_i hh; exact hh)
        | exact .cons hv0 .nil)

def aput : List AV → Nat → List AV → List AV
  | zs, _, [] => zs
  | zs, o, c :: r => aput (zs.set o c) (o + 1) r
def vput : List Value → Nat → List Value → List Value
  | zs, _, [] => zs
  | zs, o, c :: r => vput (zs.set o c) (o + 1) r

theorem aput_sim {μ : Ren} : ∀ {cs : List AV} {cs' : List Value}, VRs μ cs cs' → ∀ {zs : List AV} {zs' : List Value} (o : Nat), VRs μ zs zs' → VRs μ (aput zs o cs) (vput zs' o cs')
  | _, _, .nil, _, _, _, h => h
  | _, _, .cons hx t, _, _, o, h => aput_sim t (o + 1) (h.set o hx)

theorem vput_foldl : ∀ (l : List Value) (k off : Nat) (zs : Array Value), ((l.zipIdx k).foldl (fun cs (c, j) => cs.setIfInBounds (off + j) c) zs).toList = vput zs.toList (off + k) l
  | [], _, _, _ => rfl
  | c :: l, k, off, zs => by
    simp only [List.zipIdx_cons, List.foldl_cons, vput]
    rw [vput_foldl l (k + 1) off]
    simp [Nat.add_assoc]

def afill (place : Nat → Option (Nat × Nat)) (zs : List AV) : List (Nat × AV) → Option (List AV)
  | [] => some zs
  | (i, v) :: r => match place i, acells v with
    | some (off, size), some cs => if cs.length ≠ size || off + cs.length > zs.length then none else afill place (aput zs off cs) r
    | _, _ => none

inductive VRp (μ : Ren) : List (Nat × AV) → List (Nat × Value) → Prop
  | nil : VRp μ [] []
  | cons {i : Nat} {v : AV} {v' : Value} {l : List (Nat × AV)} {l' : List (Nat × Value)} (h : VR μ v v') (t : VRp μ l l') : VRp μ ((i, v) :: l) ((i, v') :: l')

theorem aput_length : ∀ (cs zs : List AV) (o : Nat), (aput zs o cs).length = zs.length
  | [], _, _ => rfl
  | c :: cs, zs, o => by simp [aput, aput_length cs]

theorem afill_sim {μ : Ren} (place : Nat → Option (Nat × Nat)) : ∀ {l : List (Nat × AV)} {l' : List (Nat × Value)}, VRp μ l l' → ∀ {zs : List AV} {zs' : Array Value}, VRs μ zs zs'.toList → ∀ {r : List AV}, afill place zs l = some r →
    ∃ r', Instr.fill place zs' l' = some r' ∧ VRs μ r r'.toList
  | _, _, .nil, zs, zs', hz, r, h => by simp only [afill, Option.some.injEq] at h; subst h; exact ⟨zs', rfl, hz⟩
  | _, _, .cons (i := i) (v := v) (v' := v') hv t, zs, zs', hz, r, h => by
    unfold afill at h
    split at h
    · rename_i off size cs hp hc
      split at h
      · cases h
      · rename_i hcond
        have hcs := acells_sim hv hc
        have e1 : cs.length = v'.cells.size := by simpa using hcs.length
        have e2 : zs.length = zs'.size := by simpa using hz.length
        have hcond' : ¬ ((v'.cells.size ≠ size || off + v'.cells.size > zs'.size) = true) := by rw [← e1, ← e2]; exact hcond
        obtain ⟨r', h1, h2⟩ := afill_sim place t (zs' := v'.cells.zipIdx.foldl (fun cs (c, j) => cs.setIfInBounds (off + j) c) zs') (by
          rw [← Array.foldl_toList, Array.toList_zipIdx, vput_foldl]
          simpa using aput_sim hcs off hz) h
        refine ⟨r', ?_, h2⟩
        unfold Instr.fill
        simp only [hp]
        rw [if_neg hcond']
        exact h1
    · cases h

def ofZero (v : Value) : List AV := v.cells.toList.map ofV1

theorem ofZero_sim (μ : Ren) (v : Value) : VRs μ (ofZero v) v.cells.toList := VRs_ofV1 μ _

def aBuilt (P : Program) (t : TypeId) (parts : List (Nat × AV)) : Option (List AV) :=
  match P.info? t, P.underlying t with
  | some it, some (.array _ e) =>
    match it.zero, P.info? e with
    | some z, some ie => afill (fun i => some (i * ie.size, ie.size)) (ofZero z) parts
    | _, _ => none
  | some it, some (.struct fields) =>
    match it.zero, fields.toList.mapM (fun f => (P.info? f.type).map fun i => (f.offset, i.size)) with
    | some z, some places => afill (places.toArray[·]?) (ofZero z) parts
    | _, _ => none
  | _, _ => none

theorem aBuilt_sim {μ : Ren} {t : TypeId} {l : List (Nat × AV)} {l' : Array (Nat × Value)} (hl : VRp μ l l'.toList) {cs : List AV} (h : aBuilt P t l = some cs) (w : World) :
    ∃ cs', (Instr.build t l').run P w = .ok (.agg cs') w ∧ VRs μ cs cs'.toList := by
  suffices H : ∃ cs', P.built t l'.toList = some cs' ∧ VRs μ cs cs'.toList by
    obtain ⟨cs', h1, h2⟩ := H
    exact ⟨cs', run_build w t l' cs' h1, h2⟩
  unfold aBuilt at h
  unfold Program.built
  split at h
  · rename_i it n e hit hu
    split at h
    · rename_i z ie hz hie
      obtain ⟨r', h1, h2⟩ := afill_sim _ hl (ofZero_sim μ z) h
      refine ⟨r', ?_, h2⟩
      simp only [hit, hu, hz, hie]
      exact h1
    · cases h
  · rename_i it fields hit hu
    split at h
    · rename_i z places hz hp
      obtain ⟨r', h1, h2⟩ := afill_sim _ hl (ofZero_sim μ z) h
      refine ⟨r', ?_, h2⟩
      simp only [hit, hu, hz, hp]
      exact h1
    · cases h
  · cases h

/-! ### Maps -/
def aFind (P : Program) (kt : TypeId) (k : AV) : List (AV × AV × Nat) → Nat → Option (Option (Nat × AV))
  | [], _ => some none
  | (k', v, _) :: r, i => match aEq P kt k k' with
    | some true => some (some (i, v))
    | some false => aFind P kt k r (i + 1)
    | none => none

def scalarD : TypeDesc → Bool
  | .bool | .int _ | .string => true
  | _ => false

def VRf (μ : Ren) : Option (Nat × AV) → Option (Nat × Value) → Prop
  | none, none => True
  | some (i, v), some (j, v') => i = j ∧ VR μ v v'
  | _, _ => False

theorem sameNow_sim {μ : Ren} {d : TypeDesc} (hd : scalarD d = true) {x y : AV} {x' y' : Value} (hx : VR μ x x') (hy : VR μ y y') {r : Bool} (h : aEq1 d x y = some r) : Instr.sameNow d x' y' = some r := by
  unfold aEq1 at h
  split at h
  case h_1 => cases hx; cases hy; cases h; rfl
  case h_2 =>
    cases hx; cases hy
    split at h
    · rename_i e; subst e; cases h; simp [Instr.sameNow]
    · cases h
  case h_3 =>
    cases hx with
    | str e1 => cases hy with
      | str e2 => cases h; subst e1; subst e2; simp [Instr.sameNow, beq_toListBytes, ByteArray.toList_eq]
  all_goals first | (simp [scalarD] at hd; done) | (cases h; done)

theorem aEq_scalar {t : TypeId} {d : TypeDesc} (hu : P.underlying t = some d) (hd : scalarD d = true) (x y : AV) : aEq P t x y = aEq1 d x y := by
  unfold aEq
  rw [hu]
  cases d <;> first | (simp [scalarD] at hd; done) | (simp [isAggD])

theorem findNow_sim {μ : Ren} {t : TypeId} {d : TypeDesc} (hu : P.underlying t = some d) (hd : scalarD d = true) {k : AV} {k' : Value} (hk : VR μ k k') : ∀ {es : List (AV × AV × Nat)} {es' : List MapEntry}, MRs μ es es' → ∀ (i : Nat) {r : Option (Nat × AV)},
    aFind P t k es i = some r → ∃ r', Instr.findNow d k' es' i = some r' ∧ VRf μ r r'
  | _, _, .nil, i, r, h => by simp only [aFind, Option.some.injEq] at h; subst h; exact ⟨none, rfl, trivial⟩
  | _, _, .cons hk2 hv t, i, r, h => by
    unfold aFind at h
    rw [aEq_scalar hu hd] at h
    unfold Instr.findNow
    split at h
    · rename_i e
      cases h
      rw [sameNow_sim hd hk hk2 e]
      exact ⟨_, rfl, rfl, hv⟩
    · rename_i e
      rw [sameNow_sim hd hk hk2 e]
      exact findNow_sim hu hd hk t (i + 1) h
    · cases h

theorem findAsking_sim {μ : Ren} {t : TypeId} {k : AV} {k' : Value} (hk : VR μ k k') (w : World) : ∀ {es : List (AV × AV × Nat)} {es' : List MapEntry}, MRs μ es es' → ∀ (i : Nat) {r : Option (Nat × AV)},
    aFind P t k es i = some r → ∃ r', (Instr.findAsking t k' es' i).run P w = .ok r' w ∧ VRf μ r r'
  | _, _, .nil, i, r, h => by simp only [aFind, Option.some.injEq] at h; subst h; exact ⟨none, rfl, trivial⟩
  | _, _, .cons hk2 hv t, i, r, h => by
    unfold aFind at h
    unfold Instr.findAsking
    simp only [Sem.run_bind, Sem.run_ite]
    split at h
    · rename_i e
      cases h
      rw [aEq_sim hk hk2 e w]
      exact ⟨_, rfl, rfl, hv⟩
    · rename_i e
      rw [aEq_sim hk hk2 e w]
      simp only [Result.andThen_ok, Bool.false_eq_true, if_false]
      exact findAsking_sim hk w t (i + 1) h
    · cases h

theorem findNow_other {d : TypeDesc} (hd : scalarD d = false) (k : Value) (e : MapEntry) (es : List MapEntry) (i : Nat) : Instr.findNow d k (e :: es) i = none := by
  unfold Instr.findNow
  have : Instr.sameNow d k e.key = none := by
    unfold Instr.sameNow
    split <;> first | (simp [scalarD] at hd; done) | rfl
  rw [this]

theorem findKey_sim {μ : Ren} {t : TypeId} {k : AV} {k' : Value} (hk : VR μ k k') (w : World) {es : List (AV × AV × Nat)} {es' : List MapEntry} (he : MRs μ es es') {r : Option (Nat × AV)}
    (h : aFind P t k es 0 = some r) (hu : (P.underlying t).isSome = true) : ∃ r', (Instr.findKey t k' es').run P w = .ok r' w ∧ VRf μ r r' := by
  obtain ⟨d, hd⟩ := Option.isSome_iff_exists.1 hu
  simp only [Instr.findKey, Sem.run_bind, run_underlying hd, Result.andThen_ok]
  cases hs : scalarD d with
  | true =>
    obtain ⟨r', h1, h2⟩ := findNow_sim hd hs hk he 0 h
    rw [h1]
    exact ⟨r', rfl, h2⟩
  | false =>
    cases he with
    | nil =>
      simp only [aFind, Option.some.injEq] at h
      subst h
      exact ⟨none, rfl, trivial⟩
    | cons hk2 hv t2 =>
      rw [findNow_other hs]
      exact findAsking_sim hk w (.cons hk2 hv t2) 0 h

def ifaceD : TypeDesc → Bool
  | .interface _ => true
  | _ => false

/-- A key that can be hashed: scalars, or a struct of them. -/
def aKeyOk (P : Program) (t : TypeId) (k : AV) : Bool :=
  match P.underlying t, k with
  | some (.struct fs), .agg cs => fs.toList.all fun f => f.name == "_" || (match P.underlying f.type with
      | some d => !isAggD d && !ifaceD d && (cs[f.offset]?).isSome
      | none => false)
  | some d, _ => !isAggD d && !ifaceD d
  | none, _ => false

theorem checkKey_scalar {t : TypeId} {d : TypeDesc} (hu : P.underlying t = some d) (h1 : isAggD d = false) (h2 : ifaceD d = false) (b : Bool) (n : Nat) (v : Value) (w : World) : (Instr.checkKey b (n + 1) t v).run P w = .ok () w := by
  unfold Instr.checkKey
  simp only [Sem.run_bind, run_underlying hu, Result.andThen_ok]
  cases d <;> first | (simp [isAggD] at h1; done) | (simp [ifaceD] at h2; done) | rfl

theorem checkKey_fields {μ : Ren} {cs : List AV} {cs' : Array Value} (hc : VRs μ cs cs'.toList) (b : Bool) (n : Nat) (w : World) : ∀ (fs : List Field), (fs.all fun f => f.name == "_" || (match P.underlying f.type with
      | some d => !isAggD d && !ifaceD d && (cs[f.offset]?).isSome
      | none => false)) = true →
    (forIn fs PUnit.unit fun f (_ : PUnit) => (do
      if f.name ≠ "_" then Instr.checkKey b (n + 1) f.type (← part f.type cs' f.offset)
      pure (ForInStep.yield PUnit.unit) : Sem (ForInStep PUnit))).run P w = .ok PUnit.unit w
  | [], _ => rfl
  | f :: fs, h => by
    simp only [List.all_cons, Bool.and_eq_true] at h
    simp only [List.forIn_cons, Sem.run_bind]
    have ih := checkKey_fields hc b n w fs h.2
    have h0 := h.1
    by_cases hn : f.name = "_"
    · simp [hn]
      simpa using ih
    · have hne : (f.name == "_") = false := by simpa using hn
      rw [hne, Bool.false_or] at h0
      split at h0
      · rename_i d hd
        simp only [Bool.and_eq_true, Bool.not_eq_true'] at h0
        obtain ⟨x, hx⟩ := Option.isSome_iff_exists.1 h0.2
        obtain ⟨x', hx', hv⟩ := hc.get hx
        have hp := part1 hd h0.1.1 (show cs'[f.offset]? = some x' by simpa using hx') w
        simp only [hn, ne_eq, not_false_eq_true, if_true, Sem.run_bind, hp, Result.andThen_ok, checkKey_scalar hd h0.1.1 h0.1.2]
        simpa using ih
      · cases h0

theorem checkKey_sim {μ : Ren} {t : TypeId} {k : AV} {k' : Value} (hk : VR μ k k') (h : aKeyOk P t k = true) (b : Bool) (n : Nat) (w : World) : (Instr.checkKey b (n + 2) t k').run P w = .ok () w := by
  unfold aKeyOk at h
  split at h
  · rename_i fs cs hu
    cases hk with
    | agg hc =>
      unfold Instr.checkKey
      simp only [Sem.run_bind, run_underlying hu, Result.andThen_ok]
      rw [← Array.forIn_toList]
      have := checkKey_fields hc b n w fs.toList h
      simp at this ⊢
      rw [this]
      rfl
  · rename_i d hu hne
    simp only [Bool.and_eq_true, Bool.not_eq_true'] at h
    exact checkKey_scalar hu h.1 h.2 b (n + 1) k' w
  · cases h

def mapEntries (σ : Store) : AV → Option (List (AV × AV × Nat))
  | .mapNil => some []
  | .map i => match σ[i]? with
    | some (.map es _) => some es
    | _ => none
  | _ => none

def aLookup (P : Program) (t : TypeId) (m k : AV) (ok : Bool) (σ : Store) : Option AV :=
  match P.underlying t with
  | some (.map kt et) => if aKeyOk P kt k then (match mapEntries σ m with
      | some es => match aFind P kt k es 0 with
        | some (some (_, v)) => some (if ok then .tup [v, .bool true] else v)
        | some none => match tyZero P et with
          | some z => some (if ok then .tup [z, .bool false] else z)
          | none => none
        | none => none
      | none => none) else none
  | _ => none

theorem aKeyOk_some {t : TypeId} {k : AV} (h : aKeyOk P t k = true) : (P.underlying t).isSome = true := by
  unfold aKeyOk at h
  split at h <;> simp_all

theorem entries_sim {w0 w : World} {μ : Ren} {σ : Store} (R : Rel w0 μ σ w) {m : AV} {m' : Value} (hm : VR μ m m') {es : List (AV × AV × Nat)} (h : mapEntries σ m = some es) :
    ∃ ces : Array MapEntry, MRs μ es ces.toList ∧ ((m' = .map none ∧ ces = #[]) ∨ ∃ r c, m' = .map (some r) ∧ w.heap[r]? = some (.map ces c)) := by
  unfold mapEntries at h
  split at h
  · cases hm; cases h; exact ⟨#[], .nil, .inl ⟨rfl, rfl⟩⟩
  · rename_i i
    split at h
    · rename_i es0 c e
      cases h
      cases hm with
      | map hi =>
        obtain ⟨h1, ces, h2, h3⟩ := R.obj i _ _ hi e
        exact ⟨ces, h3, .inr ⟨_, c, rfl, h2⟩⟩
    · cases h
  · cases h

theorem run_getMap {w : World} {r : Nat} {ces : Array MapEntry} {c : Nat} (h : w.heap[r]? = some (.map ces c)) : (getObj r).run P w = .ok (.map ces c) w := by
  simp [getObj, Sem.run, h]

theorem aLookup_sim {w0 w : World} {μ : Ren} {σ : Store} (R : Rel w0 μ σ w) {t : TypeId} {m k v : AV} {m' k' : Value} (hm : VR μ m m') (hk : VR μ k k') {ok : Bool} (h : aLookup P t m k ok σ = some v) :
    ∃ v', (Instr.lookup t m' k' ok).run P w = .ok v' w ∧ VR μ v v' := by
  unfold aLookup at h
  split at h
  · rename_i kt et hu
    split at h
    · rename_i hko
      split at h
      · rename_i es hes
        obtain ⟨ces, hM, hcase⟩ := entries_sim R hm hes
        have hck : ∀ b, (Instr.checkKey b 10000 kt k').run P w = .ok () w := fun b => checkKey_sim hk hko b 9998 w
        split at h
        · rename_i i v0 hf
          obtain ⟨r', h1, h2⟩ := findKey_sim hk w hM hf (aKeyOk_some hko)
          cases r' with
          | none => exact h2.elim
          | some jv =>
            obtain ⟨j, v1⟩ := jv
            obtain ⟨_, h3⟩ := h2
            cases h
            refine ⟨if ok then .tuple #[v1, .bool true] else v1, ?_, ?_⟩
            · simp only [Instr.lookup, Sem.run_bind, run_underlying hu, Result.andThen_ok]
              rcases hcase with ⟨rfl, rfl⟩ | ⟨r, c, rfl, hr⟩
              · simp only [Sem.run_bind, Sem.run_pure, Result.andThen_ok, hck, h1]
              · simp only [Sem.run_bind, run_getMap hr, Sem.run_pure, Result.andThen_ok, hck, h1]
            · cases ok
              · exact h3
              · exact .tup (.cons h3 (.cons (.bool _) .nil))
        · rename_i hf
          split at h
          · rename_i z hz
            obtain ⟨z', hz1, hz2⟩ := run_zero' hz w μ
            obtain ⟨r', h1, h2⟩ := findKey_sim hk w hM hf (aKeyOk_some hko)
            cases r' with
            | some jv => exact h2.elim
            | none =>
              cases h
              refine ⟨if ok then .tuple #[z', .bool false] else z', ?_, ?_⟩
              · simp only [Instr.lookup, Sem.run_bind, run_underlying hu, Result.andThen_ok]
                rcases hcase with ⟨rfl, rfl⟩ | ⟨r, c, rfl, hr⟩
                · simp only [Sem.run_bind, Sem.run_pure, Result.andThen_ok, hck, h1, hz1]
                · simp only [Sem.run_bind, run_getMap hr, Sem.run_pure, Result.andThen_ok, hck, h1, hz1]
              · cases ok
                · exact hz2
                · exact .tup (.cons hz2 (.cons (.bool _) .nil))
          · cases h
        · cases h
      · cases h
    · cases h
  · cases h

end
end Go.Proofs.Ytbkmjmhoclflnaa.Fw
