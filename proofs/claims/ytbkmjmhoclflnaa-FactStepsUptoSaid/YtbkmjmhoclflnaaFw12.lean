/- append, copy, clear: the abstract ones are what the model does. -/
import Derived.Test.YtbkmjmhoclflnaaFw11
namespace Go.Proofs.Ytbkmjmhoclflnaa.Fw
open Go Go.RowKit
set_option linter.unusedVariables false
set_option linter.unusedSimpArgs false

section
variable {P : Program}

theorem chunk_spec {k : Nat} : ∀ (n : Nat) {l : List AV}, l.length = n * k → (chunk k n l).flatten = l ∧ (∀ r ∈ chunk k n l, r.length = k) ∧ (chunk k n l).length = n := by
  intro n
  induction n with
  | zero => intro l h; simp at h; subst h; simp [chunk]
  | succ n ih =>
    intro l h
    rw [Nat.add_mul, Nat.one_mul] at h
    have h1 : (l.take (n * k)).length = n * k := by rw [List.length_take]; omega
    obtain ⟨a, b, c⟩ := ih h1
    have e : chunk k (n + 1) l = chunk k n (l.take (n * k)) ++ [l.drop (n * k)] := by
      unfold chunk
      rw [List.range_succ, List.map_append]
      congr 1
      · apply List.map_congr_left
        intro j hj
        have hj := List.mem_range.1 hj
        have : (j + 1) * k ≤ n * k := Nat.mul_le_mul_right k hj
        rw [Nat.add_mul] at this
        rw [List.drop_take, List.take_take]
        congr 1
        omega
      · simp only [List.map_cons, List.map_nil]
        rw [List.take_of_length_le]
        rw [List.length_drop]; omega
    rw [e]
    refine ⟨?_, ?_, by simp [c]⟩
    · rw [List.flatten_append, a]; simp
    · intro r hr
      rcases List.mem_append.1 hr with hr | hr
      · exact b r hr
      · simp at hr; subst hr; rw [List.length_drop]; omega

theorem aRows_spec {w0 w : World} {μ : Ren} {σ : Store} {k : Nat} {e : TypeId} {xt : Option TypeId} {x : AV} {x' : Value} (hx : VR μ x x') {n : Nat} {new : List AV} (h : aSrc P k e xt x σ = some (n, new)) (hl : new.length = n * k) :
    (aRows k n x new).flatten = new ∧ (∀ r ∈ aRows k n x new, r.length = k) ∧ (aRows k n x new).length = n := by
  unfold aRows
  split
  · rename_i k' rows cap
    unfold aSrc at h
    split at h
    · cases h
    · simp only at h; cases h
    · simp only at h
      split at h
      · rename_i hc
        simp only [Option.some.injEq, Prod.mk.injEq] at h
        obtain ⟨rfl, rfl⟩ := h
        refine ⟨rfl, fun r hr => ?_, rfl⟩
        rcases hc with rfl | rfl
        · cases hx with
          | im _ _ hk _ _ => exact hk r hr
          | imE _ _ => cases hr
        · cases hr
      · cases h
  · exact chunk_spec n hl

theorem vput_mid : ∀ (xs zs ys : List Value), xs.length ≤ ys.length → vput (zs ++ ys) zs.length xs = zs ++ xs ++ ys.drop xs.length
  | [], zs, ys, _ => by simp [vput]
  | x :: xs, zs, [], h => by simp at h
  | x :: xs, zs, y :: ys, h => by
    simp only [vput]
    rw [List.set_append_right _ _ (Nat.le_refl _)]
    simp only [Nat.sub_self, List.set_cons_zero]
    have := vput_mid xs (zs ++ [x]) ys (by simpa using h)
    simpa using this

/-- A step of the store: ids that are new lie from N on. -/
def Ext (N : Nat) (μ μ' : Ren) : Prop := ∀ i, i < N → μ' i = μ i

theorem Ext.refl (N : Nat) (μ : Ren) : Ext N μ μ := fun _ _ => rfl
theorem Ext.trans {N : Nat} {a b c : Ren} (h : Ext N a b) (k : Ext N b c) : Ext N a c := fun i hi => (k i hi).trans (h i hi)
theorem Ext.mono {N M : Nat} {a b : Ren} (h : Ext N a b) (hm : M ≤ N) : Ext M a b := fun i hi => h i (Nat.lt_of_lt_of_le hi hm)
theorem Ext.push {N : Nat} {μ : Ren} {i : Nat} {L : Loc} (h : N ≤ i) : Ext N μ (μ.push i L) := fun j hj => Ren.push_ne (by omega)

/-- What a step gives: a related value, a related world, the renaming grown. -/
def Step (w0 : World) (μ : Ren) (N : Nat) (v : AV) (σ' : Store) (v' : Value) (w' : World) : Prop :=
  ∃ μ', μ.le μ' ∧ Ext N μ μ' ∧ VR μ' v v' ∧ Rel w0 μ' σ' w'

theorem Step.same {w0 w : World} {μ : Ren} {σ : Store} {N : Nat} {v : AV} {v' : Value} (hv : VR μ v v') (R : Rel w0 μ σ w) : Step w0 μ N v σ v' w := ⟨μ, Ren.le_refl μ, Ext.refl N μ, hv, R⟩

theorem zeroRun {e : TypeId} {z : List AV} (h : zeroCellsOf P e = some z) : ∃ z', (∀ w, (zeroValue e).run P w = .ok z' w) ∧ z = ofZero z' := by
  unfold zeroCellsOf at h
  cases hi : P.info? e with
  | none => simp [hi] at h
  | some i =>
    simp only [hi, Option.bind_some] at h
    cases hz : i.zero with
    | none => simp [hz] at h
    | some z' =>
      simp only [hz, Option.map_some, Option.some.injEq] at h
      exact ⟨z', fun w => by simp [zeroValue, run_typeInfo w hi, hz], h.symm⟩

theorem below_drew_push (w : World) (o : Obj) : Below w.heap.size w { w.drew with heap := w.drew.heap.push o } := by
  refine ⟨rfl, rfl, rfl, by simp, fun k hk => ?_⟩
  show (w.heap.push o)[k]? = _
  rw [Array.getElem?_push, if_neg (by omega)]

theorem zeroCells_size (z : Array Value) (n : Nat) : (Builtin.zeroCells z n).size = n * z.size := by simp [Builtin.zeroCells]

/-- The new row of an append that grows. -/
theorem grown {w0 w : World} {μ : Ren} {σ1 : Store} {N : Nat} (R : Rel w0 μ σ1 w) (hN : N ≤ σ1.length) {e : TypeId} {k need cap : Nat} {old new : List AV} {old' new' z : Array Value} (h1 : VRs μ old old'.toList) (h2 : VRs μ new new'.toList)
    (hlen : old.length + new.length = need * k) (hz : z.size = k) (hcap : need ≤ cap) :
    Step w0 μ N (.sl σ1.length 0 need (.spare k)) (σ1 ++ [.cells (old ++ new) e]) (.slice (some ⟨w.heap.size, 0, none⟩) need cap)
      { w.drew with heap := w.drew.heap.push (.cells (old' ++ new' ++ Builtin.zeroCells z (cap - need)) e) } := by
  have hfr := R.fresh
  have l1 := h1.length
  have l2 := h2.length
  simp only [Array.length_toList] at l1 l2
  have hsz : (old' ++ new' ++ Builtin.zeroCells z (cap - need)).size = cap * k := by
    rw [Array.size_append, Array.size_append, zeroCells_size, hz, ← l1, ← l2, hlen, ← Nat.add_mul]
    congr 1
    omega
  refine ⟨μ.push σ1.length ⟨w.heap.size, 0, cap * k⟩, Ren.push_le hfr, Ext.push hN, .sl Ren.push_self hcap (.inr ⟨rfl, by simp⟩), ?_⟩
  refine R.alloc rfl (L := ⟨w.heap.size, 0, cap * k⟩) rfl (below_drew_push w _) (by simp) ⟨R.below.size, _, (0, 0), (show (w.heap.push _)[w.heap.size]? = _ from Array.getElem?_push_size), hsz, ?_, .inl rfl, ?_⟩
  · simp only [Nat.zero_add, List.length_append]
    rw [hlen]
    exact Nat.mul_le_mul_right k hcap
  · simp only [List.drop_zero, Array.toList_append, List.length_append]
    rw [List.take_append_of_le_length (by simp [l1, l2])]
    rw [List.take_of_length_le (by simp [l1, l2])]
    exact (h1.append h2).mono (Ren.push_le hfr)

theorem Ext.lay {N : Nat} {μ : Ren} {i : Nat} {L : Loc} {zs : List Value} (h : N ≤ i) : Ext N μ (μ.lay i L zs) := fun j hj => Ren.lay_ne (by omega)

/-- The same, frozen. -/
theorem im_grown {w0 w : World} {μ : Ren} {σ1 : Store} {N : Nat} (R : Rel w0 μ σ1 w) (hN : N ≤ σ1.length) {e : TypeId} {k need cap : Nat} {rows rows2 : List (List AV)} {old' new' z : Array Value} (h1 : VRs μ rows.flatten old'.toList) (h2 : VRs μ rows2.flatten new'.toList)
    (hk1 : ∀ r ∈ rows, r.length = k) (hk2 : ∀ r ∈ rows2, r.length = k) (hz : z.size = k) (hneed : need = rows.length + rows2.length) (hcap : need ≤ cap) :
    Step w0 μ N (.im k (rows ++ rows2) (.tok σ1.length)) (σ1 ++ [.tok]) (.slice (some ⟨w.heap.size, 0, none⟩) need cap)
      { w.drew with heap := w.drew.heap.push (.cells (old' ++ new' ++ Builtin.zeroCells z (cap - need)) e) } := by
  have l1 := h1.length
  have l2 := h2.length
  simp only [Array.length_toList, flat_len hk1] at l1
  simp only [Array.length_toList, flat_len hk2] at l2
  have hk : ∀ r ∈ rows ++ rows2, r.length = k := fun r hr => by
    rcases List.mem_append.1 hr with hr | hr
    · exact hk1 r hr
    · exact hk2 r hr
  have hnk : need * k = old'.size + new'.size := by rw [hneed, Nat.add_mul, l1, l2]
  have hsz : (old' ++ new' ++ Builtin.zeroCells z (cap - need)).size = cap * k := by
    rw [Array.size_append, Array.size_append, zeroCells_size, hz, ← hnk, ← Nat.add_mul]
    congr 1
    omega
  have hnew : μ.fz w.heap.size = none := R.fznew (Nat.le_refl _)
  obtain ⟨hle, hR⟩ := R.token (L := ⟨w.heap.size, need * k, cap * k⟩) (zs := old'.toList ++ new'.toList) (w' := { w.drew with heap := w.drew.heap.push (.cells (old' ++ new' ++ Builtin.zeroCells z (cap - need)) e) }) (fr := (0, 0))
    (fun ys hy => by rw [hnew] at hy; cases hy) (fun j Lj oj hj _ _ e => by have := (R.dom j Lj hj).2; simp only at e; omega)
    (fun q hq hlt => by show (w.heap.push _)[q]? = _; rw [Array.getElem?_push, if_neg (by simpa using hq)]) (by show w.heap.size ≤ (w.heap.push _).size; simp) rfl rfl rfl R.below.size
    (show (w.heap.push _)[w.heap.size]? = _ from Array.getElem?_push_size) hsz (.inl rfl) (by simp [hnk]) ⟨_, by rw [Array.toList_append, Array.toList_append]⟩
  refine ⟨_, hle, Ext.lay hN, ?_, hR⟩
  have hv := (h1.append h2).mono hle
  rw [← List.flatten_append] at hv
  have hfz : Froz (μ.lay σ1.length ⟨w.heap.size, need * k, cap * k⟩ (old'.toList ++ new'.toList)) w.heap.size 0 (old'.toList ++ new'.toList) := ⟨old'.toList ++ new'.toList, Ren.lay_fz_self (L := ⟨w.heap.size, need * k, cap * k⟩), by simp, by rw [List.drop_zero, List.take_length]⟩
  have key := VR.im (c' := cap) (cap := .tok σ1.length) hfz hv hk (by simp; omega) ⟨⟨w.heap.size, need * k, cap * k⟩, Ren.lay_self, rfl, by
    simp only [List.length_append, Nat.zero_add]
    rw [hneed], by simp⟩
  rw [List.length_append, ← hneed] at key
  exact key

theorem aAppend_sim {w0 w : World} {μ : Ren} {σ σ' : Store} (R : Rel w0 μ σ w) {tys : Array TypeId} {ty : TypeId} {s x v : AV} {s' x' : Value} (hs : VR μ s s') (hx : VR μ x x') (h : aAppend P tys s x σ = some (v, σ')) :
    ∃ v' w', (Builtin.append_ tys ty #[s', x']).run P w = .ok v' w' ∧ Step w0 μ σ.length v σ' v' w' := by
  unfold aAppend at h
  split at h
  rotate_left
  · cases h
  rename_i e ht
  split at h
  rotate_left
  · cases h
  rename_i k z hk hz
  split at h
  · cases h
  rename_i hzk
  have hzk : z.length = k := by simpa using hzk
  split at h
  rotate_left
  · cases h
  rename_i n new hsrc
  obtain ⟨z', hzv, rfl⟩ := zeroRun hz
  have hzs : z'.cells.size = k := by simpa [ofZero] using hzk
  obtain ⟨zs1, newA, ut, hu, hzs1, hvA, hlA, hA⟩ := aSrc_sim R hk hx hsrc
  obtain ⟨zs2, newB, ut2, hu2, hzs2, hvB, hlB, hB⟩ := aSrc_sim R.drew hk hx hsrc
  have : ut2 = ut := by rw [hu] at hu2; exact (Option.some.inj hu2).symm
  subst this
  have hzz : zs2 = zs1 := by rw [hzs1, hzs2]
  subst hzz
  have hA' : if zs2 then (∃ q l, x' = .int q l ∧ 0 ≤ l ∧ l ≤ 2 ^ 46 ∧ l.toNat = n ∧ (∀ inf, P.info? e = some inf → ¬ (l * inf.bytes > 2 ^ 48)) ∧ (if n * k = 0 then (pure #[] : Sem (Array Value)) else do pure (Builtin.zeroCells (← zeroValue e).cells n)).run P w = .ok newA w)
        else (Builtin.lenOf x').run P w = .ok n w ∧ (Builtin.firstCells k n x').run P w = .ok newA w := by
    cases zs2
    · simpa using hA
    · simp only [if_true] at hA ⊢; exact hA.2
  have hB' : if zs2 then (if n * k = 0 then (pure #[] : Sem (Array Value)) else do pure (Builtin.zeroCells (← zeroValue e).cells n)).run P w.drew = .ok newB w.drew
        else (Builtin.firstCells k n x').run P w.drew = .ok newB w.drew := by
    cases zs2
    · simp only [Bool.false_eq_true, if_false] at hB ⊢; exact hB.2
    · simp only [if_true] at hB ⊢
      obtain ⟨_, q, l, _, _, _, _, _, hr⟩ := hB
      exact hr
  have hrun := fun (m c : Nat) (base : Option Addr) => append_run (P := P) (w := w) (tys := tys) (ty := ty) (m := m) (c := c) (base := base) (n := n) ht hk hu2 hzs2 hzv hA' hB'
  have lA := hvA.length
  have lB := hvB.length
  simp only [Array.length_toList] at lA lB
  split at h
  · -- nil
    cases hs
    split at h
    · rename_i hn
      cases h
      subst hn
      refine ⟨_, w, (hrun 0 0 none).1 (by omega) w rfl, ?_⟩
      simpa using Step.same (N := σ.length) VR.slNil R
    · rename_i hn
      split at h
      · rename_i hroom
        cases h
        obtain ⟨cap, hcap, hr⟩ := (hrun 0 0 none).2 (by omega) (by simpa using hroom) #[] rfl
        have := grown (N := σ.length) (e := e) (old := []) (old' := #[]) R (Nat.le_refl _) .nil hvB (need := 0 + n) (k := k) (by simpa using hlA) hzs hcap
        refine ⟨_, _, hr, ?_⟩
        simpa using this
      · cases h
  · rename_i i o m cap
    obtain ⟨L, off', c', rfl, hi, hmn, hc, hoff⟩ := VR_sl_addr hs
    split at h
    · rename_i hn
      cases h
      subst hn
      refine ⟨_, w, (hrun m c' (some ⟨L.b, off', none⟩)).1 (by omega) w ?_, Step.same hs R⟩
      have : newA.toList = [] := by
        have : newA.size = 0 := by rw [← lA, hlA]; simp
        simpa using this
      simp only [this]
      rfl
    · rename_i hn
      split at h
      · rename_i c
        obtain ⟨rfl, hc2⟩ := hc
        split at h
        · rename_i hle
          split at h
          · rename_i σ2 hwr
            cases h
            have ho : off' = L.d + o := hc2.resolve_left (by omega)
            subst ho
            obtain ⟨w', g1, g2⟩ := wrCells_sim (P := P) R hi hvA hwr
            refine ⟨_, w', (hrun m c' (some ⟨L.b, L.d + o, none⟩)).1 hle w' (by simp only [add_none, Nat.add_assoc]; exact g1), Step.same (.sl hi (by omega) ⟨rfl, .inr rfl⟩) g2⟩
          · cases h
        · rename_i hle
          split at h
          · rename_i old hold
            split at h
            · rename_i hroom
              cases h
              obtain ⟨vs, g1, g2, g3⟩ := sl_cells R.drew hi hoff hold
              have hrd : (Builtin.firstCells k m (.slice (some ⟨L.b, off', none⟩) m c')).run P w.drew = .ok vs.toArray w.drew := by
                have := run_loadCells_list (P := P) w.drew (⟨L.b, off', none⟩ : Addr) vs g3
                rw [g1] at this
                exact this
              obtain ⟨cap, hcap, hr⟩ := (hrun m c' (some ⟨L.b, off', none⟩)).2 (by omega) hroom vs.toArray hrd
              exact ⟨_, _, hr, grown (old' := vs.toArray) R (Nat.le_refl _) g2 hvB (by rw [g2.length, g1, hlA, Nat.add_mul]) hzs hcap⟩
            · cases h
          · cases h
      · rename_i es
        split at h
        · rename_i vs0 ty0 old hobj hold
          split at h
          · rename_i hcond
            obtain ⟨rfl, rfl, hone, hroom⟩ := hcond
            cases h
            have hO := R.obj i L _ hi hobj
            obtain ⟨hge, ccs, fr, q1, q2, q3, q4, q5⟩ := hO
            have hlt : i < σ.length := (R.dom i L hi).1
            have hdead : ∀ w', (∀ q, q ≠ L.b → w'.heap[q]? = w.heap[q]?) → w'.heap.size = w.heap.size → w'.tape = w.tape → w'.os = w.os → w'.output = w.output → Rel w0 μ (σ.set i .dead) w' :=
              fun w' a1 a2 a3 a4 a5 => R.upd hi hobj rfl rfl rfl a1 a2 a3 a4 a5 trivial
            have hfree : ∀ (j : Nat) (Lj : Loc) (oj : AObj), μ j = some Lj → (σ.set i AObj.dead)[j]? = some oj → oj.mut = true → Lj.b ≠ L.b := by
              intro j Lj oj hj hoj hm
              by_cases e : j = i
              · subst e
                rw [List.getElem?_set_self hlt] at hoj
                cases hoj
                simp [AObj.mut] at hm
              · rw [List.getElem?_set_ne (Ne.symm e)] at hoj
                exact R.inj j i Lj L oj _ e hj hi hoj hobj hm rfl
            by_cases hle : m + n ≤ c'
            · -- in place
              obtain ⟨ho, hz2⟩ := hc.resolve_left (by omega)
              subst ho
              have hmz : (m + n) * es ≤ c' * es := Nat.mul_le_mul_right es hle
              have hadd : (m + n) * es = m * es + n * es := Nat.add_mul m n es
              obtain ⟨vs, g1, g2, g3⟩ := sl_cells R hi hoff hold
              have hst : (storeCells ((⟨L.b, L.d + o, none⟩ : Addr).add (m * es)) newA.toList).run P w = .ok () (w.setCells L.b (L.d + o + m * es) newA.toList) := by
                rw [add_none]
                have := run_storeCells_cells (P := P) L.b (L.d + o + m * es) newA.toList 0 w
                  (fun j hj => by rw [cell_at q1]; simp only [Nat.add_zero]; rw [Array.getElem?_eq_getElem (by simp at hj; omega)]; rfl)
                  (fun j hj => fine_frozen q1 q4 (by simp at hj; omega)) (hvA.one hone)
                simpa using this
              obtain ⟨f1, f2, f3, f4, f5⟩ := setCells_frame (b := L.b) newA.toList (L.d + o + m * es) w
              obtain ⟨ccs', p1, p2⟩ := setCells_heap_self newA.toList (L.d + o + m * es) q1
              have hsz' : ccs'.size = ccs.size := by
                have := congrArg List.length p2
                simpa [vput_length] using this
              refine ⟨_, _, (hrun m c' (some ⟨L.b, L.d + o, none⟩)).1 hle _ hst, μ.push (σ.set i .dead).length ⟨L.b, L.d + o, L.z⟩, ?_⟩
              have hR1 := hdead _ f1 f2 f3 f4 f5
              have hfr1 := hR1.fresh
              have hslen : (σ.set i AObj.dead).length = σ.length := by simp
              refine ⟨Ren.push_le hfr1, Ext.push (by omega), ?_, ?_⟩
              · rw [← hslen]
                exact VR.sl (L := ⟨L.b, L.d + o, L.z⟩) (o := 0) Ren.push_self (by omega) (.inr ⟨rfl, by simp only [Nat.add_zero]; omega⟩)
              · refine hR1.reuse rfl (R.sep i L _ hi hobj rfl rfl) hfree (by rw [f2]; exact (R.dom i L hi).2) ⟨hge, ccs', fr, p1, by rw [hsz']; exact q2, ?_, by rw [hsz']; exact q4, ?_⟩
                · simp only [List.length_append]
                  rw [g2.length, g1, hlA]
                  omega
                · have hvs : (ccs.toList.drop (L.d + o)).take (m * es) = vs := by
                    apply List.ext_getElem?
                    intro j
                    by_cases hj : j < m * es
                    · rw [List.getElem?_take_of_lt hj, List.getElem?_drop]
                      have h1 : vs[j]? = some vs[j] := List.getElem?_eq_getElem (by omega)
                      rw [h1]
                      have := g3 j vs[j] h1
                      rw [add_none, cell_at q1] at this
                      simpa using this
                    · rw [List.getElem?_take, if_neg hj, List.getElem?_eq_none (by omega)]
                  have htot : (ccs'.toList.drop (L.d + o)).take (old ++ new).length = vs ++ newA.toList := by
                    rw [p2, vput_drop, vput_take]
                    have hl2 : (old ++ new).length = m * es + n * es := by simp only [List.length_append]; rw [g2.length, g1, hlA]
                    rw [hl2]
                    have hsplit : (ccs.toList.drop (L.d + o)).take (m * es + n * es) = vs ++ ((ccs.toList.drop (L.d + o)).drop (m * es)).take (n * es) := by
                      rw [← hvs, List.take_add]
                    rw [hsplit]
                    have := vput_append vs (((ccs.toList.drop (L.d + o)).drop (m * es)).take (n * es)) newA.toList (by simp only [List.length_take, List.length_drop, Array.length_toList]; omega)
                    rw [g1] at this
                    exact this
                  rw [htot]
                  exact (g2.append hvA).mono (Ren.push_le hfr1)
            · -- a new row
              obtain ⟨vs, g1, g2, g3⟩ := sl_cells R.drew hi hoff hold
              have hrd : (Builtin.firstCells es m (.slice (some ⟨L.b, off', none⟩) m c')).run P w.drew = .ok vs.toArray w.drew := by
                have := run_loadCells_list (P := P) w.drew (⟨L.b, off', none⟩ : Addr) vs g3
                rw [g1] at this
                exact this
              obtain ⟨cap, hcap, hr⟩ := (hrun m c' (some ⟨L.b, off', none⟩)).2 (by omega) hroom vs.toArray hrd
              have hR1 := hdead w (fun _ _ => rfl) rfl rfl rfl rfl
              have := grown (N := σ.length) (e := ty0) (old' := vs.toArray) hR1 (by simp) g2 hvB (need := m + n) (k := es) (by rw [g2.length, g1, hlA, Nat.add_mul]) hzs hcap
              refine ⟨_, _, hr, ?_⟩
              simpa using this
          · cases h
        · cases h
      · cases h
      · cases h
  · rename_i k0 rows cap
    have hs0 := hs
    obtain ⟨a, c', cs, rfl, hmc, hv, hcl, hcase⟩ := im_cells R.drew hs
    split at h
    · rename_i hn
      cases h
      subst hn
      refine ⟨_, w, (hrun rows.length c' a).1 (by omega) w ?_, Step.same hs0 R⟩
      have : newA.toList = [] := by
        have : newA.size = 0 := by rw [← lA, hlA]; simp
        simpa using this
      simp only [this]
      cases a <;> rfl
    · rename_i hn
      split at h
      · rename_i hcond
        obtain ⟨rfl, hone, hroom⟩ := hcond
        obtain ⟨hfl2, hk2, hl2⟩ := aRows_spec (w0 := w0) (w := w) hx hsrc hlA
        have hvA' : VRs μ (aRows k0 n x new).flatten newA.toList := by rw [hfl2]; exact hvA
        have hvB' : VRs μ (aRows k0 n x new).flatten newB.toList := by rw [hfl2]; exact hvB
        have hk1 : ∀ r ∈ rows, r.length = k0 := by
          cases hs0 with
          | im _ _ hk _ _ => exact hk
          | imE _ _ => intro r hr; cases hr
        have hrd : (Builtin.firstCells k0 rows.length (.slice a rows.length c')).run P w.drew = .ok cs.toArray w.drew := by
          rcases hcase with ⟨rfl, rfl⟩ | ⟨ad, rfl, h3⟩
          · cases a with
            | none => rfl
            | some ad => simpa [Builtin.firstCells] using run_loadCells_list (P := P) w.drew ad [] (fun j v e => by simp at e)
          · have := run_loadCells_list (P := P) w.drew ad cs h3
            rw [hcl] at this
            exact this
        have hgrow : ∀ σ1, Rel w0 μ σ1 w → σ1.length = σ.length → c' < rows.length + n → ∃ v' w', (Builtin.append_ tys ty #[.slice a rows.length c', x']).run P w = .ok v' w' ∧ Step w0 μ σ.length (.im k0 (rows ++ aRows k0 n x new) (.tok σ.length)) (σ1 ++ [.tok]) v' w' := by
          intro σ1 R1 hl1 hlt
          obtain ⟨cap2, hcap2, hr⟩ := (hrun rows.length c' a).2 hlt hroom cs.toArray hrd
          refine ⟨_, _, hr, ?_⟩
          have := im_grown (N := σ.length) (e := e) (old' := cs.toArray) R1 (by omega) (by simpa using hv) hvB' hk1 hk2 hzs (need := rows.length + n) (by rw [hl2]) hcap2
          rw [hl1] at this
          exact this
        split at h
        · rename_i σ1 htake
          cases h
          unfold imTake at htake
          split at htake
          · rename_i c
            split at htake
            · rename_i hcm
              cases htake
              have hc' : c' = c := by
                cases hs0 with
                | im _ _ _ _ hc => exact hc
                | imE hc hz => exact hc
              exact hgrow σ R rfl (by omega)
            · cases htake
          · rename_i t
            split at htake
            · rename_i hobj
              cases htake
              have R1 := R.kill t
              by_cases hle : rows.length + n ≤ c'
              · -- in place
                cases hs0 with
                | imE hc hz => exact hc.elim
                | im hf hv0 hk0 hn0 hc =>
                  rename_i b off cs0
                  obtain ⟨L, hLt, rfl, hLd, hLz⟩ := hc
                  obtain ⟨zs, hzf, hzl⟩ := R.tok t L _ hLt hobj rfl
                  obtain ⟨hge, hdz, ccs, ty0, fr, q1, q2, q3⟩ := R.obj t L _ hLt hobj
                  obtain ⟨ccs1, ty1, fr1, q4, ys, q5⟩ := R.frz L.b zs hzf
                  rw [q1] at q4
                  cases q4
                  have hadd : (rows.length + n) * k0 = rows.length * k0 + n * k0 := Nat.add_mul _ _ _
                  have hmz : (rows.length + n) * k0 ≤ c' * k0 := Nat.mul_le_mul_right k0 hle
                  have hnA : newA.size = n * k0 := by rw [← lA, hlA]
                  have hst : (storeCells ((⟨L.b, off, none⟩ : Addr).add (rows.length * k0)) newA.toList).run P w = .ok () (w.setCells L.b (off + rows.length * k0) newA.toList) := by
                    rw [add_none]
                    have := run_storeCells_cells (P := P) L.b (off + rows.length * k0) newA.toList 0 w
                      (fun j hj => by rw [cell_at q1]; simp only [Nat.add_zero]; rw [Array.getElem?_eq_getElem (by simp at hj; omega)]; rfl)
                      (fun j hj => fine_frozen q1 q3 (by simp at hj; omega)) (hvA.one hone)
                    simpa using this
                  obtain ⟨f1, f2, f3, f4, f5⟩ := setCells_frame (b := L.b) newA.toList (off + rows.length * k0) w
                  obtain ⟨ccs', p1, p2⟩ := setCells_heap_self newA.toList (off + rows.length * k0) q1
                  have hsz' : ccs'.size = ccs.size := by
                    have := congrArg List.length p2
                    simpa [vput_length] using this
                  have hyl : zs.length + ys.length = L.z := by
                    have := congrArg List.length q5
                    simp only [Array.length_toList, List.length_append] at this
                    omega
                  have hfree : ∀ (j : Nat) (Lj : Loc) (oj : AObj), μ j = some Lj → (σ.set t AObj.dead)[j]? = some oj → oj.mut = true → Lj.b ≠ L.b := by
                    intro j Lj oj hj hoj hm
                    by_cases e : j = t
                    · subst e
                      rw [List.getElem?_set_self (R.dom j L hLt).1] at hoj
                      cases hoj
                      simp [AObj.mut] at hm
                    · rw [List.getElem?_set_ne (Ne.symm e)] at hoj
                      exact R.inj j t Lj L oj _ e hj hLt hoj hobj hm rfl
                  obtain ⟨hle2, hR⟩ := R1.token (L := ⟨L.b, off + (rows.length + n) * k0, L.z⟩) (zs := zs ++ newA.toList) (fun ys2 hy => by rw [hzf] at hy; cases hy; exact ⟨_, rfl⟩) hfree
                    (fun q hq _ => f1 q hq) (by omega) f3 f4 f5 hge p1 (by rw [hsz', q2]) (by rw [hsz']; exact q3) (by simp; omega)
                    (by
                      rw [p2, q5, ← hLd, ← hzl, vput_mid _ _ _ (by simp; omega)]
                      exact ⟨_, rfl⟩)
                  refine ⟨_, _, (hrun rows.length c' (some ⟨L.b, off, none⟩)).1 hle _ hst, ?_⟩
                  rw [List.length_set] at hle2 hR
                  refine ⟨_, hle2, Ext.lay (Nat.le_refl _), ?_, hR⟩
                  have hzd : zs.drop off = cs0 := by
                    obtain ⟨zs', g1, g2, g3⟩ := hf
                    rw [hzf] at g1
                    cases g1
                    have hcl0 : cs0.length = rows.length * k0 := by rw [← hv0.length, flat_len hk1]
                    rw [List.take_of_length_le (by rw [List.length_drop]; omega)] at g3
                    exact g3
                  have hcl0 : cs0.length = rows.length * k0 := by rw [← hv0.length, flat_len hk1]
                  have hvv := (hv0.append hvA').mono hle2
                  rw [← List.flatten_append] at hvv
                  have hlen : (rows ++ aRows k0 n x new).length = rows.length + n := by rw [List.length_append, hl2]
                  have hfz : Froz (μ.lay σ.length ⟨L.b, off + (rows.length + n) * k0, L.z⟩ (zs ++ newA.toList)) L.b off (cs0 ++ newA.toList) := by
                    refine ⟨zs ++ newA.toList, Ren.lay_fz_self (L := ⟨L.b, off + (rows.length + n) * k0, L.z⟩), by simp; omega, ?_⟩
                    rw [List.drop_append_of_le_length (by omega), hzd, List.take_of_length_le (by simp)]
                  have key := VR.im (c' := c') (cap := .tok σ.length) hfz hvv (k := k0) (fun r hr => by
                    rcases List.mem_append.1 hr with hr | hr
                    · exact hk1 r hr
                    · exact hk2 r hr) (by omega) ⟨⟨L.b, off + (rows.length + n) * k0, L.z⟩, Ren.lay_self, rfl, by rw [hlen], hLz⟩
                  rw [hlen] at key
                  exact key
              · exact hgrow _ R1 (by simp) (by omega)
            · cases htake
          · cases htake
        · cases h
      · cases h
  · cases h

end
end Go.Proofs.Ytbkmjmhoclflnaa.Fw
