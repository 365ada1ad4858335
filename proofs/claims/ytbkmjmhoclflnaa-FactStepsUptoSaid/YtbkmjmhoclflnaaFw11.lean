/- append, copy, clear: what the model does. -/
import Derived.Test.YtbkmjmhoclflnaaFw10
namespace Go.Proofs.Ytbkmjmhoclflnaa.Fw
open Go Go.RowKit
set_option linter.unusedVariables false
set_option linter.unusedSimpArgs false

section
variable {P : Program}

/-- A new object over a block that no living object has. -/
theorem Rel.reuse {w0 : World} {μ : Ren} {σ : Store} {w : World} {o : AObj} {L : Loc} (h : Rel w0 μ σ w) (hot : o.isTok = false) (hz : μ.fz L.b = none) (hfree : ∀ j Lj oj, μ j = some Lj → σ[j]? = some oj → oj.mut = true → Lj.b ≠ L.b) (hlt : L.b < w.heap.size)
    (hnew : ORel w0 (μ.push σ.length L) L o w) : Rel w0 (μ.push σ.length L) (σ ++ [o]) w := by
  have hle := Ren.push_le (L := L) h.fresh
  have h2 := h.more [o]
  refine ⟨h.below, ?_, ?_, ?_, h.frz, ?_, ?_, h.glb.mono hle⟩
  · intro j Lj oj hj hoj
    by_cases e : j = σ.length
    · subst e
      rw [Ren.push_self] at hj
      cases hj
      simp at hoj
      subst hoj
      exact hnew
    · have hj' : μ j = some Lj := by rwa [Ren.push_ne e] at hj
      exact (h2.obj j Lj oj hj' hoj).mono hle
  · intro a b La Lb oa ob hne ha hb hoa hob hma hmb
    have old : ∀ j Lj oj, j ≠ σ.length → (μ.push σ.length L) j = some Lj → (σ ++ [o])[j]? = some oj → μ j = some Lj ∧ σ[j]? = some oj := by
      intro j Lj oj e h1 h3
      have h1' : μ j = some Lj := by rwa [Ren.push_ne e] at h1
      exact ⟨h1', by rw [← h3, List.getElem?_append_left (h.dom j Lj h1').1]⟩
    by_cases ea : a = σ.length
    · subst ea
      rw [Ren.push_self] at ha
      cases ha
      obtain ⟨q1, q2⟩ := old b Lb ob (Ne.symm hne) hb hob
      exact Ne.symm (hfree b Lb ob q1 q2 hmb)
    · obtain ⟨p1, p2⟩ := old a La oa ea ha hoa
      by_cases eb : b = σ.length
      · subst eb
        rw [Ren.push_self] at hb
        cases hb
        exact hfree a La oa p1 p2 hma
      · obtain ⟨q1, q2⟩ := old b Lb ob eb hb hob
        exact h.inj a b La Lb oa ob hne p1 q1 p2 q2 hma hmb
  · intro j Lj hj
    by_cases e : j = σ.length
    · subst e
      rw [Ren.push_self] at hj
      cases hj
      exact ⟨by simp, hlt⟩
    · have hj' : μ j = some Lj := by rwa [Ren.push_ne e] at hj
      exact h2.dom j Lj hj'
  · intro j Lj oj hj hoj hm ht
    rw [Ren.push_fz]
    by_cases e : j = σ.length
    · subst e
      rw [Ren.push_self] at hj
      cases hj
      exact hz
    · exact h2.sep j Lj oj (by rwa [Ren.push_ne e] at hj) hoj hm ht
  · intro j Lj oj hj hoj ht
    rw [Ren.push_fz]
    by_cases e : j = σ.length
    · subst e
      simp at hoj
      subst hoj
      rw [hot] at ht
      cases ht
    · exact h2.tok j Lj oj (by rwa [Ren.push_ne e] at hj) hoj ht

/-- A new object, and more frozen. -/
def Ren.lay (μ : Ren) (i : Nat) (L : Loc) (zs : List Value) : Ren := ⟨fun j => if j = i then some L else μ j, fun b => if b = L.b then some zs else μ.fz b⟩
theorem Ren.lay_at (μ : Ren) (i : Nat) (L : Loc) (zs : List Value) (j : Nat) : (μ.lay i L zs) j = if j = i then some L else μ j := rfl
theorem Ren.lay_ne {μ : Ren} {i j : Nat} {L : Loc} {zs : List Value} (h : j ≠ i) : (μ.lay i L zs) j = μ j := by rw [Ren.lay_at, if_neg h]
theorem Ren.lay_self {μ : Ren} {i : Nat} {L : Loc} {zs : List Value} : (μ.lay i L zs) i = some L := by rw [Ren.lay_at, if_pos rfl]
theorem Ren.lay_fz {μ : Ren} {i b : Nat} {L : Loc} {zs : List Value} (h : b ≠ L.b) : (μ.lay i L zs).fz b = μ.fz b := by show (if b = L.b then some zs else μ.fz b) = _; rw [if_neg h]
theorem Ren.lay_fz_self {μ : Ren} {i : Nat} {L : Loc} {zs : List Value} : (μ.lay i L zs).fz L.b = some zs := by show (if L.b = L.b then some zs else μ.fz L.b) = _; rw [if_pos rfl]
theorem Ren.lay_le {μ : Ren} {i : Nat} {L : Loc} {zs : List Value} (h : μ i = none) (hz : ∀ ys, μ.fz L.b = some ys → ∃ xs, zs = ys ++ xs) : μ.le (μ.lay i L zs) := by
  refine ⟨fun j L' e => ?_, fun b ys e => ?_⟩
  · rw [Ren.lay_at]
    split
    · subst_vars; rw [h] at e; cases e
    · exact e
  · by_cases hb : b = L.b
    · subst hb
      obtain ⟨xs, rfl⟩ := hz ys e
      exact ⟨xs, Ren.lay_fz_self⟩
    · exact ⟨[], by rw [Ren.lay_fz hb]; simpa using e⟩

/-- A token: the first cells of a block, which no living object has, are frozen, and more may be laid behind them. -/
theorem Rel.token {w0 : World} {μ : Ren} {σ : Store} {w w' : World} {L : Loc} {zs : List Value} {ccs : Array Value} {ty : TypeId} {fr : Nat × Nat} (h : Rel w0 μ σ w) (hz : ∀ ys, μ.fz L.b = some ys → ∃ xs, zs = ys ++ xs) (hfree : ∀ j Lj oj, μ j = some Lj → σ[j]? = some oj → oj.mut = true → Lj.b ≠ L.b)
    (hb : ∀ k, k ≠ L.b → k < w.heap.size → w'.heap[k]? = w.heap[k]?) (hsz : w.heap.size ≤ w'.heap.size) (ht : w'.tape = w.tape) (hos : w'.os = w.os) (hout : w'.output = w.output) (hge : w0.heap.size ≤ L.b)
    (hc : w'.heap[L.b]? = some (.cells ccs ty fr)) (hcs : ccs.size = L.z) (hfr : Fine fr ccs.size) (hd : zs.length = L.d) (hpre : ∃ ys, ccs.toList = zs ++ ys) : μ.le (μ.lay σ.length L zs) ∧ Rel w0 (μ.lay σ.length L zs) (σ ++ [.tok]) w' := by
  have hle := Ren.lay_le (i := σ.length) h.fresh hz
  have old : ∀ j Lj oj, j ≠ σ.length → (μ.lay σ.length L zs) j = some Lj → (σ ++ [.tok])[j]? = some oj → μ j = some Lj ∧ σ[j]? = some oj := by
    intro j Lj oj e h1 h3
    rw [Ren.lay_ne e] at h1
    exact ⟨h1, by rw [← h3, List.getElem?_append_left (h.dom j Lj h1).1]⟩
  have hlt : L.b < w'.heap.size := (Array.getElem?_eq_some_iff.1 hc).1
  refine ⟨hle, h.below.trans ⟨hos, ht, hout, by have := h.below.size; omega, fun k hk => hb k (by omega) (by have := h.below.size; omega)⟩, ?_, ?_, ?_, ?_, ?_, ?_, h.glb.mono hle⟩
  · intro j Lj oj hj hoj
    by_cases e : j = σ.length
    · subst e
      rw [Ren.lay_self] at hj
      cases hj
      simp at hoj
      subst hoj
      refine ⟨hge, ?_, ccs, ty, fr, hc, hcs, hfr⟩
      obtain ⟨ys, hy⟩ := hpre
      have := congrArg List.length hy
      simp at this
      omega
    · obtain ⟨p1, p2⟩ := old j Lj oj e hj hoj
      exact ((h.obj j Lj oj p1 p2).mono hle).frame fun hm => hb _ (hfree j Lj oj p1 p2 hm) (h.dom j Lj p1).2
  · intro a b La Lb oa ob hne ha hb2 hoa hob hma hmb
    by_cases ea : a = σ.length
    · subst ea
      rw [Ren.lay_self] at ha
      cases ha
      obtain ⟨q1, q2⟩ := old b Lb ob (Ne.symm hne) hb2 hob
      exact Ne.symm (hfree b Lb ob q1 q2 hmb)
    · obtain ⟨p1, p2⟩ := old a La oa ea ha hoa
      by_cases eb : b = σ.length
      · subst eb
        rw [Ren.lay_self] at hb2
        cases hb2
        exact hfree a La oa p1 p2 hma
      · obtain ⟨q1, q2⟩ := old b Lb ob eb hb2 hob
        exact h.inj a b La Lb oa ob hne p1 q1 p2 q2 hma hmb
  · intro j Lj hj
    by_cases e : j = σ.length
    · subst e
      rw [Ren.lay_self] at hj
      cases hj
      exact ⟨by simp, hlt⟩
    · rw [Ren.lay_ne e] at hj
      have := h.dom j Lj hj
      exact ⟨by simp; omega, by omega⟩
  · intro b ys e
    by_cases hbb : b = L.b
    · subst hbb
      rw [Ren.lay_fz_self] at e
      cases e
      exact ⟨ccs, ty, fr, hc, hpre⟩
    · rw [Ren.lay_fz hbb] at e
      obtain ⟨cs, ty2, fr2, h1, h2⟩ := h.frz b ys e
      exact ⟨cs, ty2, fr2, by rw [hb b hbb (h.fzlt e)]; exact h1, h2⟩
  · intro j Lj oj hj hoj hm htk
    by_cases e : j = σ.length
    · subst e
      simp at hoj
      subst hoj
      cases htk
    · obtain ⟨p1, p2⟩ := old j Lj oj e hj hoj
      rw [Ren.lay_fz (hfree j Lj oj p1 p2 hm)]
      exact h.sep j Lj oj p1 p2 hm htk
  · intro j Lj oj hj hoj htk
    by_cases e : j = σ.length
    · subst e
      rw [Ren.lay_self] at hj
      cases hj
      exact ⟨zs, Ren.lay_fz_self, hd⟩
    · obtain ⟨p1, p2⟩ := old j Lj oj e hj hoj
      have hm : oj.mut = true := by cases oj <;> first | rfl | cases htk
      rw [Ren.lay_fz (hfree j Lj oj p1 p2 hm)]
      exact h.tok j Lj oj p1 p2 htk

theorem vput_append : ∀ (a b c : List Value), b.length = c.length → vput (a ++ b) a.length c = a ++ c
  | a, [], [], _ => rfl
  | a, [], _ :: _, h => by simp at h
  | a, _ :: _, [], h => by simp at h
  | a, x :: b, y :: c, h => by
    simp only [vput]
    rw [List.set_append_right _ _ (Nat.le_refl _)]
    simp only [Nat.sub_self, List.set_cons_zero]
    have := vput_append (a ++ [y]) b c (by simpa using h)
    simpa using this

/-- What append does, both ways, its source known. -/
theorem append_run {w : World} {tys : Array TypeId} {ty : TypeId} {e : TypeId} {k m n c : Nat} {base : Option Addr} {x' : Value} {zeros : Bool} {ut : TypeDesc} {z' : Value}
    (ht : tys[0]?.bind P.underlying = some (.slice e)) (hk : tySize P e = some k) (hu : tys[1]?.bind P.underlying = some ut) (hz : zeros = isIntD ut) (hzv : ∀ w, (zeroValue e).run P w = .ok z' w)
    {newA newB : Array Value}
    (hA : if zeros then (∃ q l, x' = .int q l ∧ 0 ≤ l ∧ l ≤ 2 ^ 46 ∧ l.toNat = n ∧ (∀ inf, P.info? e = some inf → ¬ (l * inf.bytes > 2 ^ 48)) ∧ (if n * k = 0 then (pure #[] : Sem (Array Value)) else do pure (Builtin.zeroCells (← zeroValue e).cells n)).run P w = .ok newA w)
        else (Builtin.lenOf x').run P w = .ok n w ∧ (Builtin.firstCells k n x').run P w = .ok newA w)
    (hB : if zeros then (if n * k = 0 then (pure #[] : Sem (Array Value)) else do pure (Builtin.zeroCells (← zeroValue e).cells n)).run P w.drew = .ok newB w.drew
        else (Builtin.firstCells k n x').run P w.drew = .ok newB w.drew) :
    (m + n ≤ c → ∀ w', (match base with | some a => storeCells (a.add (m * k)) newA.toList | none => pure ()).run P w = .ok () w' → (Builtin.append_ tys ty #[.slice base m c, x']).run P w = .ok (.slice base (m + n) c) w') ∧
    (c < m + n → aRoom P e (m + n) = true → ∀ old, (Builtin.firstCells k m (.slice base m c)).run P w.drew = .ok old w.drew → ∃ cap, m + n ≤ cap ∧
      (Builtin.append_ tys ty #[.slice base m c, x']).run P w = .ok (.slice (some ⟨w.heap.size, 0, none⟩) (m + n) cap) { w.drew with heap := w.drew.heap.push (.cells (old ++ newB ++ Builtin.zeroCells z'.cells (cap - (m + n))) e) }) := by
  obtain ⟨st, ht1, ht2⟩ := Option.bind_eq_some_iff.1 ht
  obtain ⟨xt, hu1, hu2⟩ := Option.bind_eq_some_iff.1 hu
  constructor
  · intro hle w' hst
    cases zeros with
    | true =>
      obtain ⟨uk, rfl⟩ : ∃ uk, ut = .int uk := by cases ut <;> first | exact ⟨_, rfl⟩ | (simp [isIntD] at hz)
      simp only [if_true] at hA hB
      obtain ⟨q, l, rfl, h0, h46, hl, hb, hn⟩ := hA
      have hw := wrap_i64 h0 h46
      have hinf : ∃ inf, P.info? e = some inf := by
        unfold tySize at hk
        cases hi : P.info? e with
        | none => simp [hi] at hk
        | some inf => exact ⟨inf, rfl⟩
      obtain ⟨inf, hi⟩ := hinf
      have hb' := hb inf hi
      simp only [Builtin.append_, ht1, hu1, List.getElem?_toArray, List.getElem?_cons_zero, List.getElem?_cons_succ, Sem.run_bind, run_underlying ht2, run_underlying hu2, Result.andThen_ok, run_sizeOf' hk, Sem.run_pure, if_true, asInt, asIntOf, hw,
        if_neg (show ¬ l < 0 by omega), run_typeInfo w hi, if_neg hb', hl, if_pos hle, Bool.not_true, Bool.false_eq_true, if_false]
      by_cases hnk : n * k = 0
      · simp only [hnk, if_true] at hn ⊢
        rw [hn]
        simp only [Result.andThen_ok]
        cases base with
        | none => simp only [Sem.run_pure, Result.ok.injEq] at hst ⊢; simpa using hst
        | some a => (try simp only [Sem.run_bind]); rw [hst]; rfl
      · simp only [hnk, if_false] at hn ⊢
        rw [hn]
        simp only [Result.andThen_ok]
        cases base with
        | none => simp only [Sem.run_pure, Result.ok.injEq] at hst ⊢; simpa using hst
        | some a => (try simp only [Sem.run_bind]); rw [hst]; rfl
    | false =>
      simp only [Bool.false_eq_true, if_false] at hA hB
      obtain ⟨hl, hn⟩ := hA
      have hut : isIntD ut = false := hz.symm
      clear hz hB hu
      cases ut <;> first
        | (simp [isIntD] at hut; done)
        | (simp only [Builtin.append_, ht1, hu1, List.getElem?_toArray, List.getElem?_cons_zero, List.getElem?_cons_succ, Sem.run_bind, run_underlying ht2, run_underlying hu2, Result.andThen_ok, run_sizeOf' hk, Sem.run_pure, Bool.false_eq_true, if_false, hl, if_pos hle, Bool.not_false, if_true, hn]
           cases base with
           | none => simp only [Sem.run_pure, Result.ok.injEq] at hst ⊢; simpa using hst
           | some a => (try simp only [Sem.run_bind]); rw [hst]; rfl)
  · intro hlt hroom old hold
    obtain ⟨inf, hi, hr1, hr2⟩ := aRoom_spec hroom hlt
    generalize hcap : (Question.appendCap (m + n) c e).cut (w.tape w.drawn (Question.appendCap (m + n) c e)) = cap
    have hge : m + n ≤ cap := by rw [← hcap]; simp only [Question.cut]; omega
    have hq : (Question.appendCap (m + n) c e).forced = false := rfl
    refine ⟨cap, hge, ?_⟩
    have hch : (choose (.appendCap (m + n) c e)).run P w = .ok cap w.drew := by rw [run_choose, hq, hcap]; rfl
    have hnl : ¬ (m + n ≤ c) := by omega
    cases zeros with
    | true =>
      obtain ⟨uk, rfl⟩ : ∃ uk, ut = .int uk := by cases ut <;> first | exact ⟨_, rfl⟩ | (simp [isIntD] at hz)
      simp only [if_true] at hA hB
      obtain ⟨q, l, rfl, h0, h46, hl, hb, hn⟩ := hA
      have hw := wrap_i64 h0 h46
      have hb' := hb inf hi
      simp only [Builtin.append_, ht1, hu1, List.getElem?_toArray, List.getElem?_cons_zero, List.getElem?_cons_succ, Sem.run_bind, run_underlying ht2, run_underlying hu2, Result.andThen_ok, run_sizeOf' hk, Sem.run_pure, if_true, asInt, asIntOf, hw,
        if_neg (show ¬ l < 0 by omega), run_typeInfo w hi, if_neg hb', hl, if_neg hnl, Bool.not_true, Bool.false_eq_true, if_false, true_or, and_true, if_neg hr2, if_neg hr1, hch, run_askRoom, run_typeInfo w.drew hi, hold]
      by_cases hnk : n * k = 0
      · simp only [hnk, if_true] at hB ⊢
        rw [hB]
        simp only [Result.andThen_ok, hzv, newRow, Sem.run_bind, run_newObj, Sem.run_pure]
        rfl
      · simp only [hnk, if_false] at hB ⊢
        rw [hB]
        simp only [Result.andThen_ok, hzv, newRow, Sem.run_bind, run_newObj, Sem.run_pure]
        rfl
    | false =>
      simp only [Bool.false_eq_true, if_false] at hA hB
      obtain ⟨hl, hn⟩ := hA
      have hr3 : ¬ ((m + n : Nat) : Int) > IntKind.i64.max := hr2
      have hut : isIntD ut = false := hz.symm
      clear hz hu
      cases ut <;> first
        | (simp [isIntD] at hut; done)
        | (simp only [Builtin.append_, ht1, hu1, List.getElem?_toArray, List.getElem?_cons_zero, List.getElem?_cons_succ, Sem.run_bind, run_underlying ht2, run_underlying hu2, Result.andThen_ok, run_sizeOf' hk, Sem.run_pure, Bool.false_eq_true, if_false, hl, if_neg hnl, Bool.not_false, if_true,
        run_typeInfo w hi, if_neg (show ¬ (((m + n : Nat) : Int) > IntKind.i64.max ∧ (False ∨ inf.bytes = 0)) from fun h => hr3 h.1), if_neg hr1, hch, run_askRoom, run_typeInfo w.drew hi, hold, hB, hzv, newRow, run_newObj]
           rfl)

end
end Go.Proofs.Ytbkmjmhoclflnaa.Fw
