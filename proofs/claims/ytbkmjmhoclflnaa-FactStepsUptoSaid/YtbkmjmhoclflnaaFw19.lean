/- Code and calls in the abstract are the model's. -/
import Derived.Test.YtbkmjmhoclflnaaFw18
namespace Go.Proofs.Ytbkmjmhoclflnaa.Fw
open Go Go.RowKit
set_option linter.unusedVariables false
set_option linter.unusedSimpArgs false

section
variable {P : Program}

/-- The way round a loop, from the head of a round on. -/
def LoopAt (P : Program) (c : Code) (Q : Exit → Act → World → Prop) (a : Act) (w : World) : Prop :=
  ∀ (b : Frame) (k : List Item) (cs : List Frame), ∃ e a' w', Q e a' w' ∧ Arrives P (lone (b.at a (.code c :: .inLoop c :: k)) cs w) b k cs e a' w'

theorem wp_of_loopAt {c : Code} {Q : Exit → Act → World → Prop} {a : Act} {w : World} (h : LoopAt P c Q a w) : (Code.loop c).wp P Q a w := by
  intro b k cs
  obtain ⟨e, a', w', hq, harr⟩ := h b k cs
  exact ⟨e, a', w', hq, .of_steps (.one step_loop) harr⟩

theorem loopAt_round {c : Code} {Q : Exit → Act → World → Prop} {a : Act} {w : World} (h : c.wp P (Exit.then (LoopAt P c Q) Q) a w) : LoopAt P c Q a w := by
  intro b k cs
  obtain ⟨e, a₁, w₁, hq, harr⟩ := h b (.inLoop c :: k) cs
  cases e with
  | normal =>
    obtain ⟨e₂, a₂, w₂, hq₂, harr₂⟩ := hq b k cs
    exact ⟨e₂, a₂, w₂, hq₂, .of_steps (Steps.trans harr (.one step_inLoop)) harr₂⟩
  | exit id => exact ⟨_, a₁, w₁, hq, .pass (x := .inLoop c) rfl (fun _ _ => .inl (by simp)) harr⟩
  | goto l => exact ⟨_, a₁, w₁, hq, .pass (x := .inLoop c) rfl (fun _ _ => .inl (by simp)) harr⟩
  | ret => exact ⟨_, a₁, w₁, hq, .pass (x := .inLoop c) rfl (fun _ _ => .inl (by simp)) harr⟩
  | panic ch => exact ⟨_, a₁, w₁, hq, .pass (x := .inLoop c) rfl (fun _ _ => .inl (by simp)) harr⟩
  | outgrown => exact ⟨_, a₁, w₁, hq, .pass (x := .inLoop c) rfl (fun _ _ => .inl (by simp)) harr⟩

theorem inv_start {ops : Array Oper} {n N : Nat} {μ : Ren} {μ0 : Ren} {env : Env} {σ : Store} {a : Act} (E : EnvRel μ n env a.tmps) (hN : N ≤ σ.length) (hle : μ0.le μ) (hext : Ext N μ0 μ) :
    Inv P ops n N μ0 a.defers (Array.replicate ops.size false) (Array.replicate ops.size false) (fun _ => 0) env σ μ a := by
  have hf : ∀ i, (Array.replicate ops.size false).getD i false = false := by
    intro i
    simp only [Array.getD_eq_getD_getElem?]
    by_cases h : i < ops.size
    · simp [h]
    · simp [h]
  refine ⟨by simp, by simp, ?_, ?_, ?_, ?_, E.1, fun t _ => E.2 t, ?_, rfl, hle, hext, hN⟩
  · intro i h; rw [hf] at h; cases h
  · intro i o h; have := h.1; rw [hf] at this; cases this
  · intro i j h; rw [hf] at h; cases h
  · intro i j h; rw [hf] at h; cases h
  · intro i j oi oj h; have := h.1; rw [hf] at this; cases this

/-- Code: what the abstract says comes about in the model. -/
theorem awpC_sim {w0 : World} {call : CallT} (hcall : CallsOk P w0 call) (hm : P.follows .mixedOrders = true) {n N : Nat} {μ0 : Ren} {ds : List Deferred} : ∀ (c : Code) {K : KontX} {Q : Exit → Act → World → Prop},
    (∀ e env' σ' μ' a' w', K e env' σ' → Rel w0 μ' σ' w' → EnvRel μ' n env' a'.tmps → N ≤ σ'.length → μ0.le μ' → Ext N μ0 μ' → a'.defers = ds → Q e.exit? a' w') →
    ∀ {env : Env} {σ : Store} {μ : Ren} {a : Act} {w : World}, awpC P call n c K env σ → Rel w0 μ σ w → EnvRel μ n env a.tmps → N ≤ σ.length → μ0.le μ → Ext N μ0 μ → a.defers = ds → c.wp P Q a w := by
  intro c
  induction c with
  | skip => intro K Q hQ env σ μ a w h R E hN hle hext hds; exact wp_skip (hQ .normal _ _ _ _ _ h R E hN hle hext hds)
  | label l => intro K Q hQ env σ μ a w h R E hN hle hext hds; exact wp_label (hQ .normal _ _ _ _ _ h R E hN hle hext hds)
  | region id ops draw =>
    intro K Q hQ env σ μ a w h R E hN hle hext hds
    unfold awpC at h
    cases draw with
    | true =>
      simp only [if_true] at h
      refine wp_region_any hm ?_
      have E' : EnvRel μ n env a.tmps := E
      have hc : cnt ops (Array.replicate ops.size false) ≤ ops.size := by
        unfold cnt
        exact Nat.le_trans (List.length_filter_le _ _) (by simp)
      have hI := inv_start (P := P) (ops := ops) E hN hle hext
      rw [hds] at hI
      exact adraw_sim hcall (drawOk_spec h.1) (fun env' σ' μ' a' w' hk R' E' q1 q2 q3 q4 => hQ .normal env' σ' μ' a' w' hk R' E' q1 q2 q3 q4) _ h.2 ops.size hc R.drew hI
    | false =>
      simp only [Bool.false_eq_true, if_false] at h
      exact wp_region_list (aops_sim hcall ops.toList N μ0 ds h R E hN hle hext hds (fun env' σ' μ' a' w' hk R' E' q1 q2 q3 q4 => hQ .normal env' σ' μ' a' w' hk R' E' q1 q2 q3 q4))
  | seq x y ihx ihy =>
    intro K Q hQ env σ μ a w h R E hN hle hext hds
    unfold awpC at h
    refine wp_seq (ihx (K := contS (awpC P call n y K) K) ?_ h R E hN hle hext hds)
    intro e env' σ' μ' a' w' hk R' E' q1 q2 q3 q4
    cases e with
    | normal => exact ihy hQ hk R' E' q1 q2 q3 q4
    | exit i => exact hQ (.exit i) _ _ _ _ _ hk R' E' q1 q2 q3 q4
    | ret => exact hQ .ret _ _ _ _ _ hk R' E' q1 q2 q3 q4
  | cond c t e iht ihe =>
    intro K Q hQ env σ μ a w h R E hN hle hext hds
    unfold awpC at h
    have hv := aeval_sim R.glb E c
    split at h
    · rename_i hc
      rw [hc] at hv
      generalize hcv : a.eval c = cv at hv
      cases hv
      exact wp_cond_true hcv (iht hQ h R E hN hle hext hds)
    · rename_i hc
      rw [hc] at hv
      generalize hcv : a.eval c = cv at hv
      cases hv
      exact wp_cond_false hcv (ihe hQ h R E hN hle hext hds)
    · exact h.elim
  | block id c ih =>
    intro K Q hQ env σ μ a w h R E hN hle hext hds
    unfold awpC at h
    refine wp_block (ih (K := contB id K) ?_ h R E hN hle hext hds)
    intro e env' σ' μ' a' w' hk R' E' q1 q2 q3 q4
    cases e with
    | normal => exact hQ .normal _ _ _ _ _ hk R' E' q1 q2 q3 q4
    | exit i =>
      simp only [contB] at hk
      simp only [AX.exit?, Exit.inBlock]
      split at hk
      · rename_i hi; rw [if_pos hi]; exact hQ .normal _ _ _ _ _ hk R' E' q1 q2 q3 q4
      · rename_i hi; rw [if_neg hi]; exact hQ (.exit i) _ _ _ _ _ hk R' E' q1 q2 q3 q4
    | ret => exact hQ .ret _ _ _ _ _ hk R' E' q1 q2 q3 q4
  | loop c ih =>
    intro K Q hQ env σ μ a w h R E hN hle hext hds
    unfold awpC at h
    refine wp_of_loopAt (h (fun env σ => ∀ μ a w, Rel w0 μ σ w → EnvRel μ n env a.tmps → N ≤ σ.length → μ0.le μ → Ext N μ0 μ → a.defers = ds → LoopAt P c Q a w) ?_ ?_ μ a w R E hN hle hext hds)
    rotate_left
    · intro env σ env2 σ2 hF hI hh μ a w R E hN hle hext hds
      obtain ⟨μ', k1, k2, k3⟩ := hF.2 w0 μ w R
      exact hh μ' a w k3 ⟨E.1, fun t => hI t w0 μ' w _ k3 ((E.2 t).mono k1)⟩ (by rw [hF.1]; exact hN) (Ren.le_trans hle k1) (fun i hi => (k2 i).trans (hext i hi)) hds
    intro env σ hr μ a w R E hN hle hext hds
    refine loopAt_round (ih (K := contS _ K) ?_ hr R E hN hle hext hds)
    intro e env' σ' μ' a' w' hk R' E' q1 q2 q3 q4
    cases e with
    | normal => exact hk μ' a' w' R' E' q1 q2 q3 q4
    | exit i => exact hQ (.exit i) _ _ _ _ _ hk R' E' q1 q2 q3 q4
    | ret => exact hQ .ret _ _ _ _ _ hk R' E' q1 q2 q3 q4
  | rangeFunc f ps a b _ _ => intro K Q hQ env σ μ a w h; exact h.elim
  | exit id => intro K Q hQ env σ μ a w h R E hN hle hext hds; exact wp_exit (hQ (.exit id) _ _ _ _ _ h R E hN hle hext hds)
  | scope c ih =>
    intro K Q hQ env σ μ a w h R E hN hle hext hds
    unfold awpC at h
    refine wp_scope_straight (ih (K := K) ?_ h R E hN hle hext hds)
    intro e env' σ' μ' a' w' hk R' E' q1 q2 q3 q4
    have := hQ e _ _ _ _ _ hk R' E' q1 q2 q3 q4
    cases e <;> exact this
  | goto l => intro K Q hQ env σ μ a w h; exact h.elim
  | ret => intro K Q hQ env σ μ a w h R E hN hle hext hds; exact wp_ret (hQ .ret _ _ _ _ _ h R E hN hle hext hds)
  | refuse r => intro K Q hQ env σ μ a w h; exact h.elim

/-- One answer's value. -/
def resF (tmps : Array Value) : ResultVar → Sem Value
  | .tmp t => pure (tmps.getD t undef)
  | .cell a t => do loadVar t (← asAddr (tmps.getD a undef))

theorem results_eq (fn : Func) (tmps : Array Value) : results fn tmps = (do
    let vs ← fn.results.mapM (resF tmps)
    pure (if h : vs.size = 1 then vs[0] else .tuple vs)) := by
  unfold results
  congr 1

theorem aresL_sim {w0 w : World} {μ : Ren} {σ : Store} (R : Rel w0 μ σ w) {n : Nat} {env : Env} {tmps : Array Value} (E : EnvRel μ n env tmps) : ∀ (l : List ResultVar) {vs : List AV}, aresL P env σ l = some vs →
    ∃ vs', (l.mapM (resF tmps)).run P w = .ok vs' w ∧ VRs μ vs vs'
  | [], vs, h => by simp only [aresL, Option.some.injEq] at h; subst h; exact ⟨[], rfl, .nil⟩
  | .tmp t :: r, vs, h => by
    unfold aresL at h
    split at h
    · rename_i l hl
      cases h
      obtain ⟨vs', h1, h2⟩ := aresL_sim R E r hl
      refine ⟨tmps.getD t undef :: vs', ?_, .cons (E.2 t) h2⟩
      have h5 : (resF tmps (.tmp t)).run P w = .ok (tmps.getD t undef) w := rfl
      simp only [List.mapM_cons, Sem.run_bind, Sem.run_pure, Result.andThen_ok, h1, h5]
    · cases h
  | .cell a t :: r, vs, h => by
    unfold aresL at h
    split at h
    · rename_i v l hv hl
      cases h
      obtain ⟨vs', h1, h2⟩ := aresL_sim R E r hl
      obtain ⟨v', h3, h4⟩ := aLoad_sim R (E.2 a) hv
      have hadr : ∃ ad, tmps.getD a undef = .pointer (some ad) := by
        have := E.2 a
        unfold aLoad at hv
        split at hv
        · rename_i e
          rw [e] at this
          generalize tmps.getD a undef = x at this
          cases this
          exact ⟨_, rfl⟩
        · rename_i e
          rw [e] at this
          generalize tmps.getD a undef = x at this
          cases this
          exact ⟨_, rfl⟩
        · cases hv
      obtain ⟨ad, had⟩ := hadr
      refine ⟨v' :: vs', ?_, .cons h4 h2⟩
      have h5 : (resF tmps (.cell a t)).run P w = .ok v' w := by
        show ((do loadVar t (← asAddr (tmps.getD a undef)) : Sem Value)).run P w = _
        rw [had] at h3 ⊢
        exact h3
      simp only [List.mapM_cons, Sem.run_bind, Sem.run_pure, Result.andThen_ok, h5, h1]
    · cases h

theorem results_sim {w0 w : World} {μ : Ren} {σ : Store} (R : Rel w0 μ σ w) {n : Nat} {env : Env} {tmps : Array Value} (E : EnvRel μ n env tmps) {fn : Func} {K : Kont} (h : aresults P fn K env σ) :
    ∃ v v', (results fn tmps).run P w = .ok v' w ∧ K v σ ∧ VR μ v v' := by
  have key : ∀ {vs : List AV}, aresL P env σ fn.results.toList = some vs → ∃ vs', (results fn tmps).run P w = .ok (if h : vs'.toArray.size = 1 then vs'.toArray[0] else .tuple vs'.toArray) w ∧ VRs μ vs vs' := by
    intro vs hv
    obtain ⟨vs', h1, h2⟩ := aresL_sim R E _ hv
    refine ⟨vs', ?_, h2⟩
    rw [results_eq]
    simp only [Array.mapM_eq_mapM_toList, Sem.run_bind, Sem.run_map, h1, Result.andThen_ok, Sem.run_pure]
  unfold aresults at h
  split at h
  · rename_i v hv
    obtain ⟨vs', h1, h2⟩ := key hv
    cases h2 with
    | cons q t =>
      cases t
      exact ⟨v, _, h1, h, q⟩
  · rename_i vs hne hv
    obtain ⟨vs', h1, h2⟩ := key hv
    refine ⟨.tup vs, _, h1, h, ?_⟩
    have hl : vs'.toArray.size ≠ 1 := by
      intro e
      have : vs.length = 1 := by rw [h2.length]; simpa using e
      obtain ⟨x, rfl⟩ := List.length_eq_one_iff.1 this
      exact hne x rfl
    rw [dif_neg hl]
    exact .tup (by simpa using h2)
  · exact h.elim

theorem env0_rel {μ : Ren} {args : List AV} {args' : Array Value} (h : VRs μ args args'.toList) (m : Nat) (hm : args.length ≤ m) : EnvRel μ m (env0 args) (args' ++ Array.replicate (m - args'.size) undef) := by
  have hl := h.length
  simp only [Array.length_toList] at hl
  refine ⟨by simp; omega, fun t => ?_⟩
  unfold env0
  by_cases ht : t < args.length
  · have e1 : args.getD t (.tup []) = args[t] := by simp [List.getD_eq_getElem?_getD, ht]
    have ht' : t < args'.size := by omega
    have e2 : (args' ++ Array.replicate (m - args'.size) undef).getD t undef = args'[t] := by
      simp [Array.getD_eq_getD_getElem?, Array.getElem?_append, ht']
    rw [e1, e2]
    obtain ⟨y, hy, hv⟩ := h.get (List.getElem?_eq_getElem ht)
    have : args'[t] = y := by
      have : args'[t]? = some y := by simpa using hy
      rw [Array.getElem?_eq_getElem ht'] at this
      exact Option.some.inj this
    rw [this]
    exact hv
  · have e1 : args.getD t (.tup []) = .tup [] := by simp [List.getD_eq_getElem?_getD, List.getElem?_eq_none (Nat.le_of_not_lt ht)]
    have e2 : (args' ++ Array.replicate (m - args'.size) undef).getD t undef = undef := by
      simp only [Array.getD_eq_getD_getElem?, Array.getElem?_append]
      rw [if_neg (by omega)]
      by_cases h2 : t - args'.size < m - args'.size
      · simp [h2]
      · simp [h2]
    rw [e1, e2]
    exact .tup .nil

theorem abody_sim {w0 : World} {call : CallT} (hcall : CallsOk P w0 call) (hm : P.follows .mixedOrders = true) : CallsOk P w0 (abody P call) := by
  intro f args K σ h μ w args' R hargs
  unfold abody at h
  split at h
  · rename_i fn hf
    split at h
    · rename_i c hc
      split at h
      · rename_i hlen
        have hl := hargs.length
        simp only [Array.length_toList] at hl
        refine calls_of_wp hf hc (awpC_sim hcall hm (n := fn.ntmps) (N := σ.length) (μ0 := μ) (ds := []) c ?_ h R (env0_rel hargs fn.ntmps hlen) (Nat.le_refl _) (Ren.le_refl μ) (Ext.refl _ μ) rfl)
        intro e env' σ' μ' a' w' hk R' E' q1 q2 q3 q4
        cases e with
        | normal =>
          obtain ⟨v, v', h1, h2, h3⟩ := results_sim R' E' hk
          exact ⟨q4, v', h1, v, v', σ', rfl, h2, q1, μ', q2, q3, h3, R'⟩
        | ret =>
          obtain ⟨v, v', h1, h2, h3⟩ := results_sim R' E' hk
          exact ⟨q4, v', h1, v, v', σ', rfl, h2, q1, μ', q2, q3, h3, R'⟩
        | exit i => exact hk.elim
      · exact h.elim
    · exact h.elim
  · exact h.elim

/-- A specification that is true of its function. -/
def SpecOk (P : Program) (w0 : World) (f : FuncId) (s : Spec) : Prop :=
  ∀ args K σ, s.run args K σ → ∀ μ w args', Rel w0 μ σ w → VRs μ args args'.toList →
    Calls P f args' w fun e w' => ∃ v v' σ', e = .returned v' ∧ K v σ' ∧ σ.length ≤ σ'.length ∧ Step w0 μ σ.length v σ' v' w'

theorem acall_ok {w0 : World} {T : Table} (hT : ∀ f s, T f = some s → SpecOk P w0 f s) (hm : P.follows .mixedOrders = true) : CallsOk P w0 (acall P T) := by
  intro f args K σ h
  refine h (fun f args K σ => ∀ μ w args', Rel w0 μ σ w → VRs μ args args'.toList →
    Calls P f args' w fun e w' => ∃ v v' σ', e = .returned v' ∧ K v σ' ∧ σ.length ≤ σ'.length ∧ Step w0 μ σ.length v σ' v' w') ⟨?_, ?_, ?_⟩
  · intro f args K σ hs
    unfold astep at hs
    split at hs
    · rename_i s e
      exact hT f s e args K σ hs
    · exact abody_sim (fun _ _ _ _ q => q) hm f args K σ hs
  · intro f args K σ hs μ w args' R hargs
    refine (hs μ w args' R hargs).mono fun e w' hh => ?_
    obtain ⟨v, v', σ', rfl, ⟨v2, σ2, hE, hK⟩, hlen, μ', k1, k2, k3, k4⟩ := hh
    obtain ⟨μ2, q1, q2, q3, q4⟩ := hE.2 w0 μ w μ' w' v' R k1 k2 k4 k3
    exact ⟨v2, v', σ2, rfl, hK, hE.1, μ2, q1, q2, q3, q4⟩
  · intro f args K σ hF μ w args' R hargs
    obtain ⟨args2, σ2, μ1, k1, k2, k3, k4, k5, hs⟩ := hF w0 μ w _ R hargs
    refine (hs μ1 w args' k3 k4).mono fun e w' hh => ?_
    obtain ⟨v, v', σ', rfl, hK, hlen, μ', q1, q2, q3, q4⟩ := hh
    rw [k5] at hlen q2
    exact ⟨v, v', σ', rfl, hK, hlen, μ', Ren.le_trans k1 q1, fun i hi => (q2 i hi).trans (k2 i), q3, q4⟩

end
end Go.Proofs.Ytbkmjmhoclflnaa.Fw
