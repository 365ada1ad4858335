/- Regions whose order is drawn: the abstract one stands for every order. -/
import Derived.Test.YtbkmjmhoclflnaaFw16
namespace Go.Proofs.Ytbkmjmhoclflnaa.Fw
open Go Go.RowKit
set_option linter.unusedVariables false
set_option linter.unusedSimpArgs false

section
variable {P : Program} {call : CallT} {n : Nat} {ops : Array Oper}

/-- How many have not come up. -/
def cnt (ops : Array Oper) (S : Array Bool) : Nat := ((List.range ops.size).filter fun i => !S.getD i true).length

theorem filter_lt {p q : Nat → Bool} : ∀ (l : List Nat) (i : Nat), (∀ x, q x = true → p x = true) → i ∈ l → p i = true → q i = false → (l.filter q).length < (l.filter p).length
  | x :: l, i, hpq, hm, hp, hq => by
    have hle : (l.filter q).length ≤ (l.filter p).length := by
      have : ∀ l : List Nat, (l.filter q).length ≤ (l.filter p).length := by
        intro l
        induction l with
        | nil => simp
        | cons y l ih =>
          simp only [List.filter_cons]
          by_cases hy : q y = true
          · simp [hy, hpq y hy, ih]
          · by_cases hy2 : p y = true
            · simp [hy, hy2]; omega
            · simp [hy, hy2, ih]
      exact this l
    simp only [List.filter_cons]
    cases hm with
    | head => simp [hp, hq]; omega
    | tail _ hm =>
      have ih := filter_lt l i hpq hm hp hq
      by_cases hy : q x = true
      · simp [hy, hpq x hy]; omega
      · by_cases hy2 : p x = true
        · simp [hy, hy2]; omega
        · simp [hy, hy2]; omega

theorem cnt_set {S : Array Bool} {i : Nat} (hi : i < ops.size) (hs : S.size = ops.size) (h : S.getD i true = false) : cnt ops (S.setIfInBounds i true) < cnt ops S := by
  refine filter_lt _ i (fun x hx => ?_) (List.mem_range.2 hi) (by simp [h]) (by rw [getD_set_self (by omega)]; rfl)
  by_cases e : x = i
  · subst e; rw [getD_set_self (by omega)] at hx; simp at hx
  · rwa [getD_set_ne true (Ne.symm e)] at hx

theorem ready_nil_of_cnt {S : Array Bool} (h : cnt ops S = 0) : Region.ready .any ops S = [] := by
  unfold cnt at h
  have h1 : ((List.range ops.size).filter fun i => !S.getD i true) = [] := List.eq_nil_of_length_eq_zero h
  rw [List.filter_eq_nil_iff] at h1
  unfold Region.ready
  rw [List.filter_eq_nil_iff]
  intro i hi
  have := h1 i hi
  simp only [Bool.not_eq_true, Bool.not_eq_false'] at this
  simp [this]

/-- With nothing that may come up, nothing is pending. -/
theorem no_pend (hok : OkAt P ops) {N : Nat} {μ0 μ : Ren} {ds : List Deferred} {D S : Array Bool} {ids : Nat → Nat} {env : Env} {σ : Store} {a : Act} (I : Inv P ops n N μ0 ds D S ids env σ μ a) (h : Region.ready .any ops S = []) :
    ∀ i o, ops[i]? = some o → ¬ isP D S i := by
  intro i
  induction i using Nat.strongRecOn with
  | _ i ih =>
    intro o ho hp
    have : i ∈ Region.ready .any ops S := ready_of I.sizeS ho hp.2 fun j hw => by
      have hlt := hok.lt i j hw
      have hD := I.closed i j hp.1 hw
      cases hS : S.getD j false with
      | true => rfl
      | false =>
        have hj : j < ops.size := Nat.lt_trans hlt (lt_of_get ho)
        exact absurd ⟨hD, hS⟩ (ih j hlt ops[j] (Array.getElem?_eq_getElem hj))
    rw [h] at this
    cases this

theorem Inv.envRel (hok : OkAt P ops) {N : Nat} {μ0 μ : Ren} {ds : List Deferred} {D S : Array Bool} {ids : Nat → Nat} {env : Env} {σ : Store} {a : Act} (I : Inv P ops n N μ0 ds D S ids env σ μ a) (h : Region.ready .any ops S = []) : EnvRel μ n env a.tmps :=
  ⟨I.size, fun t => I.slots t fun i o hi ho => absurd hi (no_pend hok I h i o ho)⟩

theorem find_none {l : List Nat} {p : Nat → Bool} (h : l.find? p = none) : ∀ i ∈ l, p i = false := by
  intro i hi
  have := List.find?_eq_none.1 h i hi
  simpa using this

theorem adraw_sim {w0 : World} (hcall : CallsOk P w0 call) (hok : OkAt P ops) {Q : Exit → Act → World → Prop} {N : Nat} {μ0 : Ren} {ds : List Deferred} {K : Env → Store → Prop}
    (hQ : ∀ env' σ' μ' a' w', K env' σ' → Rel w0 μ' σ' w' → EnvRel μ' n env' a'.tmps → N ≤ σ'.length → μ0.le μ' → Ext N μ0 μ' → a'.defers = ds → Q .normal a' w') :
    ∀ (f : Nat) {D : Array Bool} {env : Env} {σ : Store}, adraw P call n ops f D K env σ → ∀ (m : Nat) {S : Array Bool} {ids : Nat → Nat} {μ : Ren} {a : Act} {w : World}, cnt ops S ≤ m → Rel w0 μ σ w → Inv P ops n N μ0 ds D S ids env σ μ a →
      wpAny P .any ops Q m S a w := by
  intro f
  induction f with
  | zero => intro D env σ h; exact h.elim
  | succ f ihf =>
    intro D env σ h
    unfold adraw at h
    split at h
    · -- the abstract runs on
      rename_i i hfind
      intro m S ids μ a w hm R I
      have hmem := List.mem_of_find?_eq_some hfind
      have hfl := List.find?_some hfind
      split at h
      · rename_i o ho
        have he : isEff P o.op = false := by unfold floatAt at hfl; rw [ho] at hfl; simpa using hfl
        obtain ⟨d, hd, _⟩ := hok.dstF i o ho he
        split at h
        · rename_i hg
          split at h
          · rename_i hk
            split at h
            · rename_i r hr
              obtain ⟨obj, mk⟩ := r
              obtain ⟨hK, hlt⟩ := putK_spec h
              rw [hd] at hK
              exact ihf hK m hm (R.more [obj]) (I.float hok R ho hmem he hd (hlt d hd) (.inr (.inr ⟨hg, hk, obj, mk, hr, rfl, rfl⟩)))
            · exact h.elim
          · rename_i hk
            split at h
            · rename_i v hv
              obtain ⟨hK, hlt⟩ := putK_spec h
              rw [hd] at hK
              have := I.float (l := []) hok R ho hmem he hd (hlt d hd) (.inr (.inl ⟨hg, hk, hv⟩))
              rw [List.append_nil] at this
              exact ihf hK m hm R this
            · exact h.elim
        · rename_i hg
          obtain ⟨hK, hlt⟩ := putK_spec h
          rw [hd] at hK
          have := I.float (l := []) hok R ho hmem he hd (hlt d hd) (.inl ⟨hg, rfl⟩)
          rw [List.append_nil] at this
          exact ihf hK m hm R this
        · exact h.elim
      · exact h.elim
    · -- nothing is left to the abstract
      rename_i hfind hready
      intro m
      induction m with
      | zero =>
        intro S ids μ a w hm R I
        have hr := ready_nil_of_cnt (ops := ops) (S := S) (by omega)
        exact ⟨hr, hQ _ _ _ _ _ h R (I.envRel hok hr) I.hN I.le I.ext I.defers⟩
      | succ m ihm =>
        intro S ids μ a w hm R I
        refine ⟨fun hr => hQ _ _ _ _ _ h R (I.envRel hok hr) I.hN I.le I.ext I.defers, fun j hj => ?_⟩
        obtain ⟨h1, ⟨o, ho⟩, h3⟩ := ready_spec hj
        have hjS : S.getD j false = false := by rw [getD_bool (by rw [I.sizeS]; exact lt_of_get ho) false true]; exact h1
        have hjD : D.getD j false = true := by
          cases hx : D.getD j false with
          | true => rfl
          | false =>
            have : j ∈ Region.ready .any ops D := ready_of I.sizeD ho hx fun k hw => I.sub k (h3 k hw)
            rw [hready] at this
            cases this
        refine wpOp_mono ?_ (run_pend hok I R ⟨hjD, hjS⟩ h3 ho)
        rintro a' w' ⟨μ', R', I'⟩
        have hc := cnt_set (ops := ops) (lt_of_get ho) I.sizeS h1
        exact ihm (by omega) R' I'
    · -- one that calls or writes
      rename_i i hfind hready
      split at h
      · rename_i oi hoi
        have hiR : i ∈ Region.ready .any ops D := by rw [hready]; simp
        obtain ⟨hiD, _, hiw⟩ := ready_spec hiR
        have heff : isEff P oi.op = true := by
          have := find_none hfind i hiR
          unfold floatAt at this
          rw [hoi] at this
          simpa using this
        intro m
        induction m with
        | zero =>
          intro S ids μ a w hm R I
          have hiS : S.getD i true = false := by
            cases hx : S.getD i true with
            | false => rfl
            | true =>
              have hx' : S.getD i false = true := by rw [getD_bool (by rw [I.sizeS]; exact lt_of_get hoi) false true]; exact hx
              have := I.sub i hx'
              rw [getD_bool (by rw [I.sizeD]; exact lt_of_get hoi) false true, hiD] at this
              cases this
          have := cnt_set (ops := ops) (lt_of_get hoi) I.sizeS hiS
          omega
        | succ m ihm =>
          intro S ids μ a w hm R I
          have hiD' : D.getD i false = false := by rw [getD_bool (by rw [I.sizeD]; exact lt_of_get hoi) false true]; exact hiD
          have hiSf : S.getD i false = false := by
            cases hx : S.getD i false with
            | false => rfl
            | true => have := I.sub i hx; rw [hiD'] at this; cases this
          have hiS : S.getD i true = false := by rw [getD_bool (by rw [I.sizeS]; exact lt_of_get hoi) true false]; exact hiSf
          refine ⟨fun hr => ?_, fun j hj => ?_⟩
          · -- something may come up: what is least among what has not
            exfalso
            have hnp := no_pend hok I hr
            have : i ∈ Region.ready .any ops S := ready_of I.sizeS hoi hiSf fun k hw => by
              have hkD := hiw k hw
              cases hS : S.getD k false with
              | true => rfl
              | false =>
                have hk : k < ops.size := Nat.lt_trans (hok.lt i k hw) (lt_of_get hoi)
                exact absurd ⟨hkD, hS⟩ (hnp k ops[k] (Array.getElem?_eq_getElem hk))
            rw [hr] at this
            cases this
          · obtain ⟨h1, ⟨o, ho⟩, h3⟩ := ready_spec hj
            have hjS : S.getD j false = false := by rw [getD_bool (by rw [I.sizeS]; exact lt_of_get ho) false true]; exact h1
            have hc := cnt_set (ops := ops) (lt_of_get ho) I.sizeS h1
            by_cases e : j = i
            · -- its turn
              subst e
              rw [hoi] at ho
              cases ho
              have hl := I.looks hok hoi h3 (fun hp => by rw [hp.1] at hiD'; cases hiD')
              -- what is pending does not look at its slot
              have hlookJ : ∀ (k : Nat) (ok : Oper) (d : Tmp), isP D S k → ops[k]? = some ok → oi.dst = some d → d ∉ ok.looksAt ops := by
                intro k ok d hk hok2 hd hin
                have hne : k ≠ j := by intro e; subst e; rw [hk.1] at hiD'; cases hiD'
                rcases hok.look k j ok oi d hne hok2 hoi hd hin with q | q
                · have := I.closed k j hk.1 q; rw [hiD'] at this; cases this
                · have := h3 k q.2; rw [hk.2] at this; cases this
              have hstep : ∀ (v : AV) (v' : Value) (σ' : Store) (μ' : Ren), (∀ k ok, isP D S k → ops[k]? = some ok → opKind P ok.op ≠ 1 → guardOf ops ok env = some true → ∀ d, ok.dst = some d → aval P (aeval env) ok.op σ' = some (env d)) →
                  (∀ k ok, isP D S k → ops[k]? = some ok → opKind P ok.op = 1 → guardOf ops ok env = some true → σ'[ids k]? = σ[ids k]?) →
                  μ.le μ' → Ext σ.length μ μ' → VR μ' v v' → σ.length ≤ σ'.length → (∀ d, oi.dst = some d → d < n) →
                  Inv P ops n N μ0 ds (D.setIfInBounds j true) (S.setIfInBounds j true) ids (putE env oi.dst v) σ' μ' (a.put oi.dst v') := by
                intro v v' σ' μ' hre hal hle hext hv hlen hdn
                have hjDs : j < D.size := by rw [I.sizeD]; exact lt_of_get hoi
                have hjSs : j < S.size := by rw [I.sizeS]; exact lt_of_get hoi
                have hpo : ∀ k, isP (D.setIfInBounds j true) (S.setIfInBounds j true) k → isP D S k ∧ k ≠ j := by
                  intro k hk
                  obtain ⟨q1, q2⟩ := isP_set hk hjSs
                  exact ⟨⟨by have := q1.1; rwa [getD_set_ne false (Ne.symm q2)] at this, q1.2⟩, q2⟩
                have hsame : ∀ (k : Nat) (ok : Oper), isP D S k → ops[k]? = some ok → ∀ t ∈ ok.looksAt ops, putE env oi.dst v t = env t := by
                  intro k ok hk hok2 t ht
                  cases hd : oi.dst with
                  | none => rfl
                  | some d =>
                    simp only [putE, upd]
                    rw [if_neg]
                    intro e
                    subst e
                    exact hlookJ k ok t hk hok2 hd ht
                refine ⟨by simp [I.sizeD], by simp [I.sizeS], ?_, ?_, ?_, ?_, ?_, ?_, ?_, ?_, Ren.le_trans I.le hle, I.ext.trans (hext.mono I.hN), Nat.le_trans I.hN hlen⟩
                · intro k hk
                  by_cases e : k = j
                  · subst e; exact getD_set_self hjDs false
                  · rw [getD_set_ne false (Ne.symm e)] at hk; exact getD_set_true (I.sub k hk)
                · intro k ok hk hok2
                  obtain ⟨hk', hne⟩ := hpo k hk
                  obtain ⟨p1, d, p2, p3, p4⟩ := I.pend k ok hk' hok2
                  have hL := hsame k ok hk' hok2
                  have hdk : putE env oi.dst v d = env d := by
                    cases hdi : oi.dst with
                    | none => rfl
                    | some di =>
                      simp only [putE, upd]
                      rw [if_neg]
                      intro e
                      subst e
                      exact hok.dst j k oi ok d (Ne.symm hne) hoi hok2 p2 hdi
                  refine ⟨p1, d, p2, p3, ?_⟩
                  rw [guardOf_congr hL, hdk, aval_congr (aeval_congr hL), aalloc_congr (aeval_congr hL)]
                  rcases p4 with p4 | ⟨g, kk, p4⟩ | ⟨g, kk, obj, mk, q1, q2, q3, q4, q5⟩
                  · exact .inl p4
                  · exact .inr (.inl ⟨g, kk, hre k ok hk' hok2 kk g d p2⟩)
                  · refine .inr (.inr ⟨g, kk, obj, mk, q1, q2, by rw [hal k ok hk' hok2 kk g]; exact q3, ?_, q5⟩)
                    rw [hext _ (List.getElem?_eq_some_iff.1 q3).1]
                    exact q4
                · intro k q hk hw
                  by_cases e : k = j
                  · subst e; exact getD_set_true (hiw q hw)
                  · rw [getD_set_ne false (Ne.symm e)] at hk; exact getD_set_true (I.closed k q hk hw)
                · intro k q hk hw
                  by_cases e : k = j
                  · subst e; exact getD_set_true (h3 q hw)
                  · rw [getD_set_ne false (Ne.symm e)] at hk; exact getD_set_true (I.closedS k q hk hw)
                · cases oi.dst <;> simp [Act.put, I.size]
                · intro t ht
                  have hold : oi.dst ≠ some t → VR μ' (env t) (a.tmps.getD t undef) := fun hd => (I.slots t fun k ok hk hok2 hdk => by
                    by_cases e : k = j
                    · subst e; rw [hk.1] at hiD'; cases hiD'
                    · exact ht k ok ⟨by rw [getD_set_ne false (Ne.symm e)]; exact hk.1, by rw [getD_set_ne false (Ne.symm e)]; exact hk.2⟩ hok2 hdk).mono hle
                  cases hd : oi.dst with
                  | none => exact hold (by rw [hd]; simp)
                  | some d =>
                    by_cases e : t = d
                    · subst e
                      have : (a.put (some t) v').tmps.getD t undef = v' := by simp [Act.put, Array.getD_eq_getD_getElem?, I.size, hdn t hd]
                      rw [this]
                      simpa [putE, upd] using hv
                    · rw [getD_put_ne e]
                      simpa [putE, upd, e] using hold (by rw [hd]; simp [Ne.symm e])
                · intro k q ok oq hk hq hok2 hoq k1 k2 g1 g2 e
                  rw [guardOf_congr (hsame k ok (hpo k hk).1 hok2)] at g1
                  rw [guardOf_congr (hsame q oq (hpo q hq).1 hoq)] at g2
                  exact I.inj k q ok oq (hpo k hk).1 (hpo q hq).1 hok2 hoq k1 k2 g1 g2 e
                · rw [← I.defers]; cases oi.dst <;> rfl
              unfold wpOp
              rw [hoi]
              simp only
              split at h
              · rename_i hg
                rw [if_pos (guard_of_looks hg hl)]
                refine .inl (Oper.wp_mono ?_ (aexec_sim hcall R (eval_of_looks R.glb hl) h))
                rintro a' w' ⟨v, v', σ', rfl, ⟨hag, hK⟩, hlen, μ', k1, k2, k3, k4⟩
                obtain ⟨hK2, hd⟩ := putK_spec hK
                have hagain : ∀ k ok, isP D S k → ops[k]? = some ok → (memOp ok.op || opKind P ok.op == 1) = true → againOne P ops env σ σ' k := by
                  intro k ok hk hok2 hmo
                  refine againAll_mem hag k (List.mem_filter.2 ⟨List.mem_range.2 (lt_of_get hok2), ?_⟩)
                  unfold again
                  have hp := I.pend k ok hk hok2
                  have hw : waits ops j k = false := by
                    cases hx : waits ops j k with
                    | false => rfl
                    | true => have := h3 k hx; rw [hk.2] at this; cases this
                  rw [hok2]
                  simp only [hk.1, hw, hp.1, hmo, Bool.not_false, Bool.and_self]
                have I' := hstep v v' σ' μ' (by
                    intro k ok hk hok2 kk g d hdk
                    cases hmo : memOp ok.op with
                    | true =>
                      have := hagain k ok hk hok2 (by simp [hmo])
                      unfold againOne at this
                      rw [hok2] at this
                      simp only [g, hdk, if_neg kk] at this
                      exact this
                    | false =>
                      obtain ⟨_, d2, p2, _, p4⟩ := I.pend k ok hk hok2
                      rw [hdk] at p2
                      cases p2
                      rcases p4 with p4 | p4 | p4
                      · rw [g] at p4; cases p4.1
                      · rw [← aval_pure hmo σ σ']; exact p4.2.2
                      · exact absurd p4.2.1 kk) (by
                    intro k ok hk hok2 kk g
                    have := hagain k ok hk hok2 (by simp [kk])
                    obtain ⟨_, d2, p2, _, p4⟩ := I.pend k ok hk hok2
                    unfold againOne at this
                    rw [hok2] at this
                    simp only [g, p2, if_pos kk] at this
                    rcases p4 with p4 | p4 | ⟨_, _, obj, mk, q1, q2, q3, q4, q5⟩
                    · rw [g] at p4; cases p4.1
                    · exact absurd kk p4.2.1
                    · rw [q2, aalloc_id q1] at this
                      exact this) k1 k2 k3 hlen hd
                exact ihf hK2 m (by omega) k4 I'
              · rename_i hg
                rw [if_neg (by rw [guard_of_looks hg hl]; simp)]
                obtain ⟨hK2, hd⟩ := putK_spec h
                have I' := hstep (.tup []) undef σ μ (by
                    intro k ok hk hok2 kk g d hdk
                    obtain ⟨_, d2, p2, _, p4⟩ := I.pend k ok hk hok2
                    rw [hdk] at p2
                    cases p2
                    rcases p4 with p4 | p4 | p4
                    · rw [g] at p4; cases p4.1
                    · exact p4.2.2
                    · exact absurd p4.2.1 kk) (fun _ _ _ _ _ _ => rfl) (Ren.le_refl μ) (Ext.refl _ μ) (.tup .nil) (Nat.le_refl _) hd
                exact ihf hK2 m (by omega) R I'
              · exact h.elim
            · have hjD : D.getD j false = true := by
                cases hx : D.getD j false with
                | true => rfl
                | false =>
                  have : j ∈ Region.ready .any ops D := ready_of I.sizeD ho hx fun k hw => I.sub k (h3 k hw)
                  rw [hready] at this
                  simp at this
                  exact absurd this e
              refine wpOp_mono ?_ (run_pend hok I R ⟨hjD, hjS⟩ h3 ho)
              rintro a' w' ⟨μ', R', I'⟩
              exact ihm (by omega) R' I'
      · exact h.elim
    · exact h.elim

end
end Go.Proofs.Ytbkmjmhoclflnaa.Fw
