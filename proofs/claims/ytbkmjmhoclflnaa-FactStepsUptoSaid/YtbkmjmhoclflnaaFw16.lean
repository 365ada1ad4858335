/- Regions whose order is drawn: what only reads, or lays an object, is run as early as it may be; what calls or writes, one behind the other; behind each of those all that may still be to be read is read again. -/
import Derived.Test.YtbkmjmhoclflnaaFw15
namespace Go.Proofs.Ytbkmjmhoclflnaa.Fw
open Go Go.RowKit
set_option linter.unusedVariables false
set_option linter.unusedSimpArgs false

def isEff (P : Program) (o : Op) : Bool := opKind P o == 2 || (match o with
  | .assign _ => true
  | _ => false)

def waits (ops : Array Oper) (i j : Nat) : Bool := match ops[i]? with
  | some o => o.after.any fun e => Region.binds .any e && e.on == j
  | none => false

/-- What is asked of a region's text. -/
def drawOk (P : Program) (ops : Array Oper) : Bool :=
  (List.range ops.size).all fun i => match ops[i]? with
    | none => true
    | some oi => (isEff P oi.op || (match oi.dst with
        | some d => !(oi.looksAt ops).contains d
        | none => false)) && (oi.after.all fun e => !(Region.binds .any e) || decide (e.on < i)) &&
      (List.range ops.size).all fun j => j == i || match ops[j]? with
        | none => true
        | some oj => match oj.dst with
          | none => true
          | some d => oi.dst != some d && (!(oi.looksAt ops).contains d || waits ops i j || (isEff P oj.op && waits ops j i))

def avId : AV → Option Nat
  | .ptr i _ => some i
  | .sl i _ _ _ => some i
  | .map i => some i
  | _ => none

section
variable (P : Program) (call : CallT) (n : Nat) (ops : Array Oper)

/-- Must j be read again behind i? -/
def again (listed : Array Bool) (i j : Nat) : Bool := listed.getD j false && !waits ops i j && match ops[j]? with
  | some o => !isEff P o.op && (memOp o.op || opKind P o.op == 1)
  | none => false

def againOne (env : Env) (σ σ' : Store) (j : Nat) : Prop := match ops[j]? with
  | some o => match guardOf ops o env, o.dst with
    | some true, some d => if opKind P o.op = 1 then (match avId (env d) with
        | some id => σ'[id]? = σ[id]?
        | none => False)
      else aval P (aeval env) o.op σ' = some (env d)
    | some false, _ => True
    | _, _ => False
  | none => True

def againAll (env : Env) (σ σ' : Store) : List Nat → Prop
  | [] => True
  | j :: r => againOne P ops env σ σ' j ∧ againAll env σ σ' r

def floatAt (i : Nat) : Bool := match ops[i]? with
  | some o => !isEff P o.op
  | none => false

def adraw : Nat → Array Bool → (Env → Store → Prop) → Env → Store → Prop
  | 0, _, _, _, _ => False
  | f + 1, listed, K, env, σ =>
    match (Region.ready .any ops listed).find? (floatAt P ops), Region.ready .any ops listed with
    | some i, _ => match ops[i]? with
      | some o => match guardOf ops o env with
        | some true => if opKind P o.op = 1 then (match aalloc P (aeval env) o.op with
            | some r => putK n env o.dst (r.2 σ.length) fun env' => adraw f (listed.setIfInBounds i true) K env' (σ ++ [r.1])
            | none => False)
          else match aval P (aeval env) o.op σ with
            | some v => putK n env o.dst v fun env' => adraw f (listed.setIfInBounds i true) K env' σ
            | none => False
        | some false => putK n env o.dst (.tup []) fun env' => adraw f (listed.setIfInBounds i true) K env' σ
        | none => False
      | none => False
    | none, [] => K env σ
    | none, [i] => match ops[i]? with
      | some o => match guardOf ops o env with
        | some true => aexec P call (aeval env) o.op (fun v σ' => againAll P ops env σ σ' ((List.range ops.size).filter (again P ops listed i)) ∧
            putK n env o.dst v fun env' => adraw f (listed.setIfInBounds i true) K env' σ') σ
        | some false => putK n env o.dst (.tup []) fun env' => adraw f (listed.setIfInBounds i true) K env' σ
        | none => False
      | none => False
    | none, _ => False
end

section
variable {P : Program} {call : CallT} {n : Nat} {ops : Array Oper}

theorem againAll_mem {env : Env} {σ σ' : Store} : ∀ {l : List Nat}, againAll P ops env σ σ' l → ∀ j ∈ l, againOne P ops env σ σ' j
  | _ :: _, h, _, .head _ => h.1
  | _ :: _, h, j, .tail _ hm => againAll_mem h.2 j hm

structure OkAt (P : Program) (ops : Array Oper) : Prop where
  dstF : ∀ (i : Nat) (o : Oper), ops[i]? = some o → isEff P o.op = false → ∃ d, o.dst = some d ∧ d ∉ o.looksAt ops
  lt : ∀ i j, waits ops i j = true → j < i
  dst : ∀ (i j : Nat) (oi oj : Oper) (d : Tmp), i ≠ j → ops[i]? = some oi → ops[j]? = some oj → oj.dst = some d → oi.dst ≠ some d
  look : ∀ (i j : Nat) (oi oj : Oper) (d : Tmp), i ≠ j → ops[i]? = some oi → ops[j]? = some oj → oj.dst = some d → d ∈ oi.looksAt ops → waits ops i j = true ∨ (isEff P oj.op = true ∧ waits ops j i = true)

theorem lt_of_get {i : Nat} {o : Oper} (h : ops[i]? = some o) : i < ops.size := (Array.getElem?_eq_some_iff.1 h).1

theorem drawOk_spec (h : drawOk P ops = true) : OkAt P ops := by
  unfold drawOk at h
  simp only [List.all_eq_true, List.mem_range] at h
  have key := fun (i : Nat) (o : Oper) (ho : ops[i]? = some o) => show _ from by
    have := h i (lt_of_get ho)
    rw [ho] at this
    exact this
  refine ⟨?_, ?_, ?_, ?_⟩
  · intro i o ho he
    have := key i o ho
    simp only [he, Bool.false_or, Bool.and_eq_true] at this
    have h1 := this.1.1
    cases hd : o.dst with
    | none => simp [hd] at h1
    | some d => simp [hd] at h1; exact ⟨d, rfl, h1⟩
  · intro i j hw
    unfold waits at hw
    split at hw
    · rename_i o ho
      have := key i o ho
      simp only [Bool.and_eq_true] at this
      have h2 := this.1.2
      obtain ⟨e, he, hb⟩ := Array.any_eq_true'.1 hw
      simp only [Bool.and_eq_true, beq_iff_eq] at hb
      have h3 := Array.all_eq_true_iff_forall_mem.1 h2 e he
      simp only [hb.1, Bool.not_true, Bool.false_or, decide_eq_true_eq] at h3
      omega
    · cases hw
  · intro i j oi oj d hne ho hj hd
    have := key i oi ho
    simp only [Bool.and_eq_true, List.all_eq_true, List.mem_range] at this
    have h2 := this.2 j (lt_of_get hj)
    rw [hj] at h2
    simp only [hd, Bool.or_eq_true, beq_iff_eq, Ne.symm hne, false_or, Bool.and_eq_true, bne_iff_ne, ne_eq] at h2
    exact h2.1
  · intro i j oi oj d hne ho hj hd hl
    have := key i oi ho
    simp only [Bool.and_eq_true, List.all_eq_true, List.mem_range] at this
    have h2 := this.2 j (lt_of_get hj)
    rw [hj] at h2
    simp only [hd, Bool.or_eq_true, beq_iff_eq, Ne.symm hne, false_or, Bool.and_eq_true, Bool.not_eq_true', List.contains_eq_mem] at h2
    rcases h2.2 with (h3 | h3) | h3
    · exact absurd hl (by simpa using h3)
    · exact .inl h3
    · exact .inr h3

/-- An operation that the abstract has run, and the model has not yet. -/
def Pend (P : Program) (ops : Array Oper) (n N : Nat) (ids : Nat → Nat) (env : Env) (σ : Store) (μ : Ren) (i : Nat) (o : Oper) : Prop :=
  isEff P o.op = false ∧ ∃ d, o.dst = some d ∧ d < n ∧ ((guardOf ops o env = some false ∧ env d = .tup []) ∨
    (guardOf ops o env = some true ∧ opKind P o.op ≠ 1 ∧ aval P (aeval env) o.op σ = some (env d)) ∨
    (guardOf ops o env = some true ∧ opKind P o.op = 1 ∧ ∃ obj mk, aalloc P (aeval env) o.op = some (obj, mk) ∧ env d = mk (ids i) ∧ σ[ids i]? = some obj ∧ μ (ids i) = none ∧ N ≤ ids i))

def isP (D S : Array Bool) (i : Nat) : Prop := D.getD i false = true ∧ S.getD i false = false

structure Inv (P : Program) (ops : Array Oper) (n N : Nat) (μ0 : Ren) (ds : List Deferred) (D S : Array Bool) (ids : Nat → Nat) (env : Env) (σ : Store) (μ : Ren) (a : Act) : Prop where
  sizeD : D.size = ops.size
  sizeS : S.size = ops.size
  sub : ∀ i, S.getD i false = true → D.getD i false = true
  pend : ∀ (i : Nat) (o : Oper), isP D S i → ops[i]? = some o → Pend P ops n N ids env σ μ i o
  closed : ∀ i j, D.getD i false = true → waits ops i j = true → D.getD j false = true
  closedS : ∀ i j, S.getD i false = true → waits ops i j = true → S.getD j false = true
  size : a.tmps.size = n
  slots : ∀ t, (∀ (i : Nat) (o : Oper), isP D S i → ops[i]? = some o → o.dst ≠ some t) → VR μ (env t) (a.tmps.getD t undef)
  inj : ∀ (i j : Nat) (oi oj : Oper), isP D S i → isP D S j → ops[i]? = some oi → ops[j]? = some oj → opKind P oi.op = 1 → opKind P oj.op = 1 → guardOf ops oi env = some true → guardOf ops oj env = some true → ids i = ids j → i = j
  defers : a.defers = ds
  le : μ0.le μ
  ext : Ext N μ0 μ
  hN : N ≤ σ.length

theorem guardOf_congr {o : Oper} {env env' : Env} (h : ∀ t ∈ o.looksAt ops, env' t = env t) : guardOf ops o env' = guardOf ops o env := by
  unfold guardOf
  cases hg : o.guard with
  | none => rfl
  | some jw =>
    obtain ⟨j, want⟩ := jw
    cases ht : (ops[j]?).bind (·.dst) with
    | none => simp only [ht]
    | some t =>
      have : env' t = env t := h t (by simp [Oper.looksAt, hg, ht])
      simp only [ht, this]

theorem aeval_congr {o : Oper} {env env' : Env} (h : ∀ t ∈ o.looksAt ops, env' t = env t) : ∀ x ∈ o.op.operands, aeval env' x = aeval env x := by
  intro x hx
  cases x with
  | tmp t => exact h t (List.mem_append_left _ (List.mem_filterMap.2 ⟨.tmp t, by simpa using hx, rfl⟩))
  | _ => rfl

theorem aalloc_id {ρ : Operand → AV} {o : Op} {obj : AObj} {mk : Nat → AV} (h : aalloc P ρ o = some (obj, mk)) (i : Nat) : avId (mk i) = some i := by
  cases o <;> simp only [aalloc] at h <;> try (cases h; done)
  case alloc t => obtain ⟨z, _, e⟩ := Option.map_eq_some_iff.1 h; cases e; rfl
  case box t x => obtain ⟨z, _, e⟩ := Option.map_eq_some_iff.1 h; cases e; rfl
  case makeMap t r => cases r <;> simp at h; obtain ⟨_, rfl⟩ := h; rfl
  all_goals
    repeat' split at h
    all_goals first | (cases h; done) | (cases h; rfl)

theorem ready_spec {i : Nat} {S : Array Bool} (h : i ∈ Region.ready .any ops S) : S.getD i true = false ∧ (∃ o, ops[i]? = some o) ∧ ∀ j, waits ops i j = true → S.getD j false = true := by
  obtain ⟨h1, o, h2, h3⟩ := mem_ready.1 h
  refine ⟨h1, ⟨o, h2⟩, fun j hw => ?_⟩
  unfold waits at hw
  rw [h2] at hw
  obtain ⟨e, he, hb⟩ := Array.any_eq_true'.1 hw
  simp only [Bool.and_eq_true, beq_iff_eq] at hb
  rw [← hb.2]
  exact h3 e he hb.1

theorem getD_bool {S : Array Bool} {i : Nat} (hi : i < S.size) (d d' : Bool) : S.getD i d = S.getD i d' := by
  simp [Array.getD_eq_getD_getElem?, hi]

theorem ready_of {i : Nat} {S : Array Bool} {o : Oper} (hs : S.size = ops.size) (ho : ops[i]? = some o) (h1 : S.getD i false = false) (h2 : ∀ j, waits ops i j = true → S.getD j false = true) : i ∈ Region.ready .any ops S := by
  refine mem_ready.2 ⟨?_, o, ho, fun e he hb => h2 e.on ?_⟩
  · rw [getD_bool (by rw [hs]; exact lt_of_get ho) true false]; exact h1
  · unfold waits
    rw [ho]
    exact Array.any_eq_true'.2 ⟨e, he, by simp [hb]⟩

theorem getD_set_self {S : Array Bool} {i : Nat} (hi : i < S.size) (d : Bool) : (S.setIfInBounds i true).getD i d = true := by
  simp [Array.getD_eq_getD_getElem?, hi]

/-- The slots that an operation looks at hold what the abstract says, when it may come up. -/
theorem Inv.looks (hok : OkAt P ops) {N : Nat} {μ0 μ : Ren} {ds : List Deferred} {D S : Array Bool} {ids : Nat → Nat} {env : Env} {σ : Store} {a : Act} (I : Inv P ops n N μ0 ds D S ids env σ μ a) {i : Nat} {o : Oper} (ho : ops[i]? = some o)
    (hr : ∀ j, waits ops i j = true → S.getD j false = true) (hself : isP D S i → isEff P o.op = false) : ∀ t ∈ o.looksAt ops, VR μ (env t) (a.tmps.getD t undef) := by
  intro t ht
  refine I.slots t fun j oj hj hoj hd => ?_
  by_cases e : j = i
  · subst e
    rw [ho] at hoj
    cases hoj
    obtain ⟨d, h1, h2⟩ := hok.dstF j o ho (hself hj)
    rw [h1] at hd
    cases hd
    exact h2 ht
  · have hpj := I.pend j oj hj hoj
    rcases hok.look i j o oj t (Ne.symm e) ho hoj hd ht with h | h
    · have := hr j h
      rw [hj.2] at this
      cases this
    · rw [hpj.1] at h
      cases h.1

theorem eval_of_looks {μ : Ren} (hg : Globs μ) {env : Env} {a : Act} {o : Oper} (h : ∀ t ∈ o.looksAt ops, VR μ (env t) (a.tmps.getD t undef)) : ∀ x ∈ o.op.operands, VR μ (aeval env x) (a.eval x) := by
  intro x hx
  cases x with
  | tmp t => exact h t (List.mem_append_left _ (List.mem_filterMap.2 ⟨.tmp t, by simpa using hx, rfl⟩))
  | const v => exact VR_ofV μ v
  | func f => exact .fn .nil .nil
  | global g => exact glob_sim hg env a g

theorem guard_of_looks {μ : Ren} {env : Env} {a : Act} {o : Oper} {b : Bool} (hg : guardOf ops o env = some b) (h : ∀ t ∈ o.looksAt ops, VR μ (env t) (a.tmps.getD t undef)) : Region.wanted o (yielded ops a.tmps) = b :=
  guard_sim hg fun j want t h1 h2 => ⟨μ, h t (by simp [Oper.looksAt, h1, h2])⟩

theorem isP_set {D S : Array Bool} {i j : Nat} (h : isP D (S.setIfInBounds j true) i) (hj : j < S.size) : isP D S i ∧ i ≠ j := by
  obtain ⟨h1, h2⟩ := h
  have hne : i ≠ j := by
    intro e
    subst e
    rw [getD_set_self hj] at h2
    cases h2
  exact ⟨⟨h1, by rwa [getD_set_ne false (Ne.symm hne)] at h2⟩, hne⟩

theorem getD_put_ne {a : Act} {d t : Tmp} {v : Value} (h : t ≠ d) : (a.put (some d) v).tmps.getD t undef = a.tmps.getD t undef := by
  simp [Act.put, Array.getD_eq_getD_getElem?, Array.getElem?_setIfInBounds_ne (Ne.symm h)]

/-- Pending operation j, now the model's turn: the invariant behind it. -/
theorem Inv.after (hok : OkAt P ops) {N : Nat} {μ0 μ μ' : Ren} {ds : List Deferred} {D S : Array Bool} {ids : Nat → Nat} {env : Env} {σ : Store} {a : Act} (I : Inv P ops n N μ0 ds D S ids env σ μ a) {j : Nat} {o : Oper} {d : Tmp} (ho : ops[j]? = some o) (hp : isP D S j)
    (hr : ∀ k, waits ops j k = true → S.getD k false = true) (hd : o.dst = some d) (hdn : d < n) {v' : Value} (hv : VR μ' (env d) v') (hle : μ.le μ') (hext : Ext N μ μ') (hother : ∀ (i : Nat) (oi : Oper), isP D S i → i ≠ j → ops[i]? = some oi → opKind P oi.op = 1 → guardOf ops oi env = some true → μ' (ids i) = none) :
    Inv P ops n N μ0 ds D (S.setIfInBounds j true) ids env σ μ' (a.put o.dst v') := by
  have hjS : j < S.size := by rw [I.sizeS]; exact lt_of_get ho
  refine ⟨I.sizeD, by simp [I.sizeS], ?_, ?_, I.closed, ?_, ?_, ?_, ?_, ?_, Ren.le_trans I.le hle, I.ext.trans hext, I.hN⟩
  · intro i hi
    by_cases e : i = j
    · subst e; exact hp.1
    · rw [getD_set_ne false (Ne.symm e)] at hi; exact I.sub i hi
  · intro i oi hi hoi
    obtain ⟨hi', hne⟩ := isP_set hi hjS
    obtain ⟨h1, d', h2, h3, h4⟩ := I.pend i oi hi' hoi
    refine ⟨h1, d', h2, h3, ?_⟩
    rcases h4 with h4 | h4 | ⟨g, k, obj, mk, q1, q2, q3, q4, q5⟩
    · exact .inl h4
    · exact .inr (.inl h4)
    · exact .inr (.inr ⟨g, k, obj, mk, q1, q2, q3, hother i oi hi' hne hoi k g, q5⟩)
  · intro i k hi hw
    by_cases e : i = j
    · subst e; exact getD_set_true (hr k hw)
    · rw [getD_set_ne false (Ne.symm e)] at hi; exact getD_set_true (I.closedS i k hi hw)
  · rw [hd]; simp [Act.put, I.size]
  · intro t ht
    rw [hd]
    by_cases e : t = d
    · subst e
      have : (a.put (some t) v').tmps.getD t undef = v' := by simp [Act.put, Array.getD_eq_getD_getElem?, I.size, hdn]
      rw [this]
      exact hv
    · rw [getD_put_ne e]
      refine (I.slots t fun i oi hi hoi hdi => ?_).mono hle
      by_cases e2 : i = j
      · subst e2; rw [ho] at hoi; cases hoi; rw [hd] at hdi; cases hdi; exact e rfl
      · exact ht i oi ⟨hi.1, by rw [getD_set_ne false (Ne.symm e2)]; exact hi.2⟩ hoi hdi
  · intro i k oi ok hi hk hoi hok2 k1 k2 g1 g2 e
    exact I.inj i k oi ok (isP_set hi hjS).1 (isP_set hk hjS).1 hoi hok2 k1 k2 g1 g2 e
  · rw [← I.defers]; cases o.dst <;> rfl

theorem run_pend (hok : OkAt P ops) {Q : Exit → Act → World → Prop} {w0 w : World} {N : Nat} {μ0 μ : Ren} {ds : List Deferred} {D S : Array Bool} {ids : Nat → Nat} {env : Env} {σ : Store} {a : Act} (I : Inv P ops n N μ0 ds D S ids env σ μ a) (R : Rel w0 μ σ w) {j : Nat} (hp : isP D S j)
    (hr : ∀ k, waits ops j k = true → S.getD k false = true) {o : Oper} (ho : ops[j]? = some o) :
    wpOp P ops Q j (fun a' w' => ∃ μ', Rel w0 μ' σ w' ∧ Inv P ops n N μ0 ds D (S.setIfInBounds j true) ids env σ μ' a') a w := by
  obtain ⟨he, d, hd, hdn, hcase⟩ := I.pend j o hp ho
  have hl := I.looks hok ho hr fun _ => he
  unfold wpOp
  rw [ho]
  simp only
  rcases hcase with ⟨hg, hv⟩ | ⟨hg, hk, hv⟩ | ⟨hg, hk, obj, mk, ha, hv, hσ, hμ, hNid⟩
  · rw [if_neg (by rw [guard_of_looks hg hl]; simp)]
    exact ⟨μ, R, I.after hok ho hp hr hd hdn (by rw [hv]; exact .tup .nil) (Ren.le_refl μ) (Ext.refl N μ) fun i oi hi hne hoi k g => by
      obtain ⟨_, _, _, _, h4⟩ := I.pend i oi hi hoi
      rcases h4 with h4 | h4 | ⟨_, _, obj, mk, _, _, _, q4, _⟩
      · rw [g] at h4; cases h4.1
      · exact absurd k h4.2.1
      · exact q4⟩
  · rw [if_pos (guard_of_looks hg hl)]
    obtain ⟨v', h1, h2⟩ := aval_sim R (eval_of_looks R.glb hl) hv
    refine .inl ?_
    unfold Oper.wp
    rw [h1]
    exact ⟨μ, R, I.after hok ho hp hr hd hdn h2 (Ren.le_refl μ) (Ext.refl N μ) fun i oi hi hne hoi k g => by
      obtain ⟨_, _, _, _, h4⟩ := I.pend i oi hi hoi
      rcases h4 with h4 | h4 | ⟨_, _, obj, mk, _, _, _, q4, _⟩
      · rw [g] at h4; cases h4.1
      · exact absurd k h4.2.1
      · exact q4⟩
  · rw [if_pos (guard_of_looks hg hl)]
    obtain ⟨s, e1, v', w', L, h1, h2, h3, h4, h5⟩ := aalloc_sim (w := w) (eval_of_looks R.glb hl) ha
    refine .inl ?_
    unfold Oper.wp
    rw [e1]
    simp only [Sem.run_bind, h1, Result.andThen_ok, Sem.run_pure]
    have hle := Ren.push_le (L := L) hμ
    obtain ⟨q1, q2⟩ := h5 w0 (μ.push (ids j) L) (ids j) hle Ren.push_self R.below.size
    have hlt : ids j < σ.length := (List.getElem?_eq_some_iff.1 hσ).1
    refine ⟨μ.push (ids j) L, R.new hμ hlt hσ (aalloc_tok ha) h2 h3 h4 q2, ?_⟩
    exact I.after hok ho hp hr hd hdn (by rw [hv]; exact q1) hle (Ext.push hNid) fun i oi hi hne hoi k g => by
      obtain ⟨_, _, _, _, h4⟩ := I.pend i oi hi hoi
      rcases h4 with h4 | h4 | ⟨_, _, obj, mk, _, _, _, q4, _⟩
      · rw [g] at h4; cases h4.1
      · exact absurd k h4.2.1
      · have : ids i ≠ ids j := fun e => hne (I.inj i j oi o hi hp hoi ho k hk g hg e)
        rw [Ren.push_ne this]
        exact q4

/-- A step of the abstract alone: operation i is run, and waits for the model. -/
theorem Inv.float (hok : OkAt P ops) {w0 w : World} {N : Nat} {μ0 μ : Ren} {ds : List Deferred} {D S : Array Bool} {ids : Nat → Nat} {env : Env} {σ : Store} {a : Act} (I : Inv P ops n N μ0 ds D S ids env σ μ a) (R : Rel w0 μ σ w) {i : Nat} {o : Oper} (ho : ops[i]? = some o)
    (hi : i ∈ Region.ready .any ops D) (he : isEff P o.op = false) {d : Tmp} (hd : o.dst = some d) (hdn : d < n) {v : AV} {l : List AObj}
    (hcase : (guardOf ops o env = some false ∧ v = .tup []) ∨ (guardOf ops o env = some true ∧ opKind P o.op ≠ 1 ∧ aval P (aeval env) o.op σ = some v) ∨
      (guardOf ops o env = some true ∧ opKind P o.op = 1 ∧ ∃ obj mk, aalloc P (aeval env) o.op = some (obj, mk) ∧ v = mk σ.length ∧ l = [obj])) :
    Inv P ops n N μ0 ds (D.setIfInBounds i true) S (fun k => if k = i then σ.length else ids k) (upd env d v) (σ ++ l) μ a := by
  obtain ⟨hiD, _, hiw⟩ := ready_spec hi
  have hlt := lt_of_get ho
  have hiD' : D.getD i false = false := by rw [getD_bool (by rw [I.sizeD]; exact hlt) false true]; exact hiD
  have hiS : S.getD i false = false := by
    cases h : S.getD i false with
    | false => rfl
    | true => rw [I.sub i h] at hiD'; cases hiD'
  obtain ⟨d', hd', hself⟩ := hok.dstF i o ho he
  rw [hd] at hd'
  cases hd'
  have hlookI : ∀ t ∈ o.looksAt ops, upd env d v t = env t := fun t ht => by
    unfold upd
    rw [if_neg]
    intro e
    subst e
    exact hself ht
  have hlookJ : ∀ j oj, isP D S j → ops[j]? = some oj → ∀ t ∈ oj.looksAt ops, upd env d v t = env t := fun j oj hj hoj t ht => by
    unfold upd
    rw [if_neg]
    intro e
    subst e
    have hne : j ≠ i := by intro e; subst e; rw [hj.1] at hiD'; cases hiD'
    rcases hok.look j i oj o t hne hoj ho hd ht with h | h
    · have := I.closed j i hj.1 h
      rw [hiD'] at this
      cases this
    · rw [he] at h; cases h.1
  have hpold : ∀ j, isP (D.setIfInBounds i true) S j → j ≠ i → isP D S j := fun j hj hne => ⟨by have := hj.1; rwa [getD_set_ne false (Ne.symm hne)] at this, hj.2⟩
  have hlen : σ.length ≤ (σ ++ l).length := by simp
  have hids : ∀ j oj, isP D S j → ops[j]? = some oj → opKind P oj.op = 1 → guardOf ops oj env = some true → ids j < σ.length := fun j oj hj hoj k g => by
    obtain ⟨_, _, _, _, h4⟩ := I.pend j oj hj hoj
    rcases h4 with h4 | h4 | ⟨_, _, obj, mk, _, _, q3, _, _⟩
    · rw [g] at h4; cases h4.1
    · exact absurd k h4.2.1
    · exact (List.getElem?_eq_some_iff.1 q3).1
  refine ⟨by simp [I.sizeD], I.sizeS, fun j hj => getD_set_true (I.sub j hj), ?_, ?_, I.closedS, I.size, ?_, ?_, I.defers, I.le, I.ext, Nat.le_trans I.hN hlen⟩
  · intro j oj hj hoj
    by_cases e : j = i
    · subst e
      rw [ho] at hoj
      cases hoj
      refine ⟨he, d, hd, hdn, ?_⟩
      have hev : upd env d v d = v := by simp [upd]
      rw [guardOf_congr hlookI, hev, aval_congr (aeval_congr hlookI), aalloc_congr (aeval_congr hlookI)]
      simp only [if_true]
      rcases hcase with h | ⟨g, k, h⟩ | ⟨g, k, obj, mk, h1, h2, h3⟩
      · exact .inl h
      · exact .inr (.inl ⟨g, k, aval_more h l⟩)
      · exact .inr (.inr ⟨g, k, obj, mk, h1, h2, by rw [h3]; simp, R.fresh, I.hN⟩)
    · have hj' := hpold j hj e
      obtain ⟨h1, dj, h2, h3, h4⟩ := I.pend j oj hj' hoj
      refine ⟨h1, dj, h2, h3, ?_⟩
      have hne : dj ≠ d := fun e2 => hok.dst i j o oj dj (Ne.symm e) ho hoj h2 (by rw [e2]; exact hd)
      have hev : upd env d v dj = env dj := by simp [upd, hne]
      have hL := hlookJ j oj hj' hoj
      rw [guardOf_congr hL, hev, aval_congr (aeval_congr hL), aalloc_congr (aeval_congr hL)]
      simp only [if_neg e]
      rcases h4 with h4 | ⟨g, k, h4⟩ | ⟨g, k, obj, mk, q1, q2, q3, q4, q5⟩
      · exact .inl h4
      · exact .inr (.inl ⟨g, k, aval_more h4 l⟩)
      · exact .inr (.inr ⟨g, k, obj, mk, q1, q2, get_more q3 l, q4, q5⟩)
  · intro j k hj hw
    by_cases e : j = i
    · subst e; exact getD_set_true (hiw k hw)
    · rw [getD_set_ne false (Ne.symm e)] at hj; exact getD_set_true (I.closed j k hj hw)
  · intro t ht
    have htd : t ≠ d := by
      intro e
      subst e
      exact ht i o ⟨getD_set_self (by rw [I.sizeD]; exact hlt) false, hiS⟩ ho hd
    have : upd env d v t = env t := by simp [upd, htd]
    rw [this]
    exact I.slots t fun j oj hj hoj => ht j oj ⟨getD_set_true hj.1, hj.2⟩ hoj
  · intro j k oj ok hj hk hoj hok2 k1 k2 g1 g2 e
    by_cases ej : j = i
    · by_cases ek : k = i
      · rw [ej, ek]
      · have hk' := hpold k hk ek
        rw [guardOf_congr (hlookJ k ok hk' hok2)] at g2
        have := hids k ok hk' hok2 k2 g2
        simp only [ej, if_true, if_neg ek] at e
        omega
    · have hj' := hpold j hj ej
      rw [guardOf_congr (hlookJ j oj hj' hoj)] at g1
      by_cases ek : k = i
      · have := hids j oj hj' hoj k1 g1
        simp only [ek, if_true, if_neg ej] at e
        omega
      · have hk' := hpold k hk ek
        rw [guardOf_congr (hlookJ k ok hk' hok2)] at g2
        simp only [if_neg ej, if_neg ek] at e
        exact I.inj j k oj ok hj' hk' hoj hok2 k1 k2 g1 g2 e

end
end Go.Proofs.Ytbkmjmhoclflnaa.Fw
