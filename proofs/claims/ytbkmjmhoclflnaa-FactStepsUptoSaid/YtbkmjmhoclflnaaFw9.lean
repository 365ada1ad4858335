/- Operations that write. -/
import Derived.Test.YtbkmjmhoclflnaaFw8
namespace Go.Proofs.Ytbkmjmhoclflnaa.Fw
open Go Go.RowKit
set_option linter.unusedVariables false
set_option linter.unusedSimpArgs false

section
variable {P : Program}

/-! ### Cells -/
def AV.one : AV → Bool
  | .agg _ | .tup _ | .bad => false
  | _ => true

theorem VR.one {μ : Ren} {v : AV} {v' : Value} (h : VR μ v v') (ho : v.one = true) : v'.oneCell' = true := by
  cases h <;> first | rfl | (simp [AV.one] at ho)

theorem VRs.one {μ : Ren} : ∀ {xs : List AV} {ys : List Value}, VRs μ xs ys → xs.all AV.one = true → ∀ v ∈ ys, v.oneCell' = true
  | _, _, .nil, _, v, hv => by cases hv
  | _, _, .cons h t, ha, v, hv => by
    simp only [List.all_cons, Bool.and_eq_true] at ha
    cases hv with
    | head => exact h.one ha.1
    | tail _ hv => exact t.one ha.2 v hv

def wrCells (σ : Store) (i o : Nat) (cs : List AV) : Option Store :=
  match σ[i]? with
  | some (.cells vs ty) => if o + cs.length ≤ vs.length ∧ cs.all AV.one then some (σ.set i (.cells (aput vs o cs) ty)) else none
  | _ => none

theorem vput_length : ∀ (cs zs : List Value) (o : Nat), (vput zs o cs).length = zs.length
  | [], _, _ => rfl
  | c :: cs, zs, o => by simp [vput, vput_length cs]

theorem vput_drop : ∀ (cs zs : List Value) (d o : Nat), (vput zs (d + o) cs).drop d = vput (zs.drop d) o cs
  | [], _, _, _ => rfl
  | c :: cs, zs, d, o => by
    simp only [vput]
    rw [Nat.add_assoc, vput_drop cs]
    congr 1
    rw [List.drop_set]
    rw [if_neg (by omega)]
    congr 1
    omega

theorem vput_take : ∀ (cs zs : List Value) (n o : Nat), (vput zs o cs).take n = vput (zs.take n) o cs
  | [], _, _, _ => rfl
  | c :: cs, zs, n, o => by
    simp only [vput]
    rw [vput_take cs, List.take_set]

theorem setCell_heap_self {w : World} {b o : Nat} {cs : Array Value} {ty : TypeId} {fr : Nat × Nat} (h : w.heap[b]? = some (.cells cs ty fr)) (v : Value) : (w.setCell ⟨b, o, none⟩ v).heap[b]? = some (.cells (cs.setIfInBounds o v) ty fr) := by
  simp [World.setCell, Array.getElem?_modify, h]

theorem setCells_heap_self {b : Nat} {ty : TypeId} {fr : Nat × Nat} : ∀ (vs : List Value) (o : Nat) {w : World} {cs : Array Value}, w.heap[b]? = some (.cells cs ty fr) → ∃ cs', (w.setCells b o vs).heap[b]? = some (.cells cs' ty fr) ∧ cs'.toList = vput cs.toList o vs
  | [], o, w, cs, h => ⟨cs, h, rfl⟩
  | v :: vs, o, w, cs, h => by
    obtain ⟨cs', h1, h2⟩ := setCells_heap_self vs (o + 1) (setCell_heap_self (o := o) h v)
    exact ⟨cs', h1, by rw [h2]; simp [vput]⟩

theorem setCells_frame {b : Nat} : ∀ (vs : List Value) (o : Nat) (w : World), (∀ k, k ≠ b → (w.setCells b o vs).heap[k]? = w.heap[k]?) ∧ (w.setCells b o vs).heap.size = w.heap.size ∧ (w.setCells b o vs).tape = w.tape ∧ (w.setCells b o vs).os = w.os ∧ (w.setCells b o vs).output = w.output
  | [], _, _ => ⟨fun _ _ => rfl, rfl, rfl, rfl, rfl⟩
  | v :: vs, o, w => by
    obtain ⟨h1, h2, h3, h4, h5⟩ := setCells_frame (b := b) vs (o + 1) (w.setCell ⟨b, o, none⟩ v)
    refine ⟨fun k hk => (h1 k hk).trans (Below.heap_setCell w ⟨b, o, none⟩ v k hk), by rw [World.setCells, h2, World.size_setCell], ?_, ?_, ?_⟩
    · rw [World.setCells, h3]; rfl
    · rw [World.setCells, h4]; rfl
    · rw [World.setCells, h5]; rfl

theorem fine_frozen {w : World} {b o : Nat} {cs : Array Value} {ty : TypeId} {fr : Nat × Nat} (h : w.heap[b]? = some (.cells cs ty fr)) (hf : Fine fr cs.size) (ho : o < cs.size) : w.frozen? ⟨b, o, none⟩ = false := by
  obtain ⟨lo, hi⟩ := fr
  simp only [World.frozen?, h]
  rcases hf with hf | hf
  · simp only [Bool.and_eq_false_iff, decide_eq_false_iff_not]; simp only at hf; omega
  · simp only [Bool.and_eq_false_iff, decide_eq_false_iff_not]; simp only at hf; omega

/-- Storing cells into an object of the store. -/
theorem wrCells_sim {w0 w : World} {μ : Ren} {σ σ' : Store} (R : Rel w0 μ σ w) {i o : Nat} {L : Loc} (hi : μ i = some L) {cs : List AV} {cs' : List Value} (hc : VRs μ cs cs') (h : wrCells σ i o cs = some σ') :
    ∃ w', (storeCells ⟨L.b, L.d + o, none⟩ cs').run P w = .ok () w' ∧ Rel w0 μ σ' w' := by
  unfold wrCells at h
  split at h
  · rename_i vs ty e
    split at h
    · rename_i hb
      cases h
      have hO := R.obj i L _ hi e
      obtain ⟨hge, ccs, fr, h1, h2, h3, h4, h5⟩ := hO
      have hl := hc.length
      refine ⟨w.setCells L.b (L.d + o) cs', ?_, ?_⟩
      · have := run_storeCells_cells (P := P) L.b (L.d + o) cs' 0 w
          (fun j hj => by rw [cell_at h1]; simp only [Nat.add_zero]; rw [Array.getElem?_eq_getElem (by omega)]; rfl)
          (fun j hj => fine_frozen h1 h4 (by omega)) (hc.one hb.2)
        simpa using this
      · obtain ⟨f1, f2, f3, f4, f5⟩ := setCells_frame (b := L.b) cs' (L.d + o) w
        obtain ⟨ccs', g1, g2⟩ := setCells_heap_self cs' (L.d + o) h1
        refine R.upd hi e rfl rfl rfl f1 f2 f3 f4 f5 ⟨hge, ccs', fr, g1, ?_, ?_, ?_, ?_⟩
        · have := congrArg List.length g2
          simp [vput_length] at this
          omega
        · rw [aput_length]; exact h3
        · have := congrArg List.length g2
          simp [vput_length] at this
          rw [this]; exact h4
        · rw [aput_length, g2, vput_drop, vput_take]
          exact aput_sim hc o h5
    · cases h
  · cases h

def aStore (P : Program) (t : TypeId) (a v : AV) (σ : Store) : Option Store :=
  match a, acells v, tySize P t with
  | .ptr i o, some cs, some k => if cs.length = k then wrCells σ i o cs else none
  | _, _, _ => none

theorem aStore_sim {w0 w : World} {μ : Ren} {σ σ' : Store} (R : Rel w0 μ σ w) {t : TypeId} {a v : AV} {a' v' : Value} (ha : VR μ a a') (hv : VR μ v v') (h : aStore P t a v σ = some σ') :
    ∃ w', (Instr.storeAt t a' v').run P w = .ok () w' ∧ Rel w0 μ σ' w' := by
  unfold aStore at h
  split at h
  · rename_i i o cs k hcs hk
    split at h
    · rename_i hlen
      cases ha with
      | ptr hi =>
        rename_i L
        have hc := acells_sim hv hcs
        obtain ⟨w', h1, h2⟩ := wrCells_sim (P := P) R hi hc h
        refine ⟨w', ?_, h2⟩
        have hsz : v'.cells.size = k := by have := hc.length; simp at this; omega
        simp only [Instr.storeAt, Sem.run_bind, Instr.sureAddr, Sem.run_pure, Result.andThen_ok, storeVar, run_sizeOf' hk, hsz, ne_eq, not_true_eq_false, if_false]
        exact h1
    · cases h
  · cases h

/-! ### Maps -/
def aSame1 : AV → AV → Bool
  | .bool a, .bool b => a == b
  | .int k a, .int k' b => k == k' && a == b
  | .str a, .str b => a == b
  | _, _ => false
def aSames : List AV → List AV → Bool
  | [], [] => true
  | x :: xs, y :: ys => aSame1 x y && aSames xs ys
  | _, _ => false
def aSame (x y : AV) : Bool :=
  match x, y with
  | .agg xs, .agg ys => aSames xs ys
  | x, y => aSame1 x y

theorem aSame1_sim {μ : Ren} {x y : AV} {x' y' : Value} (hx : VR μ x x') (hy : VR μ y y') (h : aSame1 x y = true) (n : Nat) : Instr.sameBits n x' y' = true := by
  unfold aSame1 at h
  split at h
  · cases hx; cases hy; unfold Instr.sameBits; exact h
  · cases hx; cases hy; unfold Instr.sameBits; exact h
  · cases hx with
    | str e1 => cases hy with
      | str e2 => subst e1; subst e2; unfold Instr.sameBits; rw [beq_toListBytes, ByteArray.toList_eq, ByteArray.toList_eq]; exact h
  · cases h

theorem aSames_sim {μ : Ren} (n : Nat) : ∀ {xs ys : List AV} {xs' ys' : List Value}, VRs μ xs xs' → VRs μ ys ys' → aSames xs ys = true → xs'.length = ys'.length ∧ ((xs'.zip ys').all fun (x, y) => Instr.sameBits n x y) = true
  | _, _, _, _, .nil, .nil, _ => ⟨rfl, rfl⟩
  | _, _, _, _, .nil, .cons _ _, h => by simp [aSames] at h
  | _, _, _, _, .cons _ _, .nil, h => by simp [aSames] at h
  | _, _, _, _, .cons hx tx, .cons hy ty, h => by
    simp only [aSames, Bool.and_eq_true] at h
    obtain ⟨h1, h2⟩ := aSames_sim n tx ty h.2
    exact ⟨by simp [h1], by simp only [List.zip_cons_cons, List.all_cons, h2, Bool.and_true]; exact aSame1_sim hx hy h.1 n⟩

theorem aSame_sim {μ : Ren} {x y : AV} {x' y' : Value} (hx : VR μ x x') (hy : VR μ y y') (h : aSame x y = true) (n : Nat) : Instr.sameBits (n + 1) x' y' = true := by
  unfold aSame at h
  split at h
  · cases hx with
    | agg h1 => cases hy with
      | agg h2 =>
        obtain ⟨e1, e2⟩ := aSames_sim n h1 h2 h
        unfold Instr.sameBits
        simp only [Bool.and_eq_true, beq_iff_eq]
        exact ⟨by simpa using e1, e2⟩
  · exact aSame1_sim hx hy h (n + 1)

def aMapUpd (P : Program) (t : TypeId) (m k v : AV) (σ : Store) : Option Store :=
  match P.underlying t, m with
  | some (.map kt _), .map i => match σ[i]? with
    | some (.map es clock) => if aKeyOk P kt k then (match aFind P kt k es 0 with
        | some (some (j, _)) => match es[j]? with
          | some (k0, _, b) => if aSame k0 k then some (σ.set i (.map (es.set j (k, v, b)) clock)) else none
          | none => none
        | some none => some (σ.set i (.map (es ++ [(k, v, clock)]) (clock + 1)))
        | none => none) else none
    | _ => none
  | _, _ => none

theorem MRs.get {μ : Ren} : ∀ {es : List (AV × AV × Nat)} {ces : List MapEntry}, MRs μ es ces → ∀ {j : Nat} {k v : AV} {b : Nat}, es[j]? = some (k, v, b) → ∃ e, ces[j]? = some e ∧ VR μ k e.key ∧ VR μ v e.val ∧ e.born = b
  | _, _, .nil, _, _, _, _, h => by simp at h
  | _, _, .cons hk hv t, 0, _, _, _, h => by simp at h; obtain ⟨rfl, rfl, rfl⟩ := h; exact ⟨_, rfl, hk, hv, rfl⟩
  | _, _, .cons hk hv t, j + 1, _, _, _, h => by
    obtain ⟨e, h1, h2⟩ := t.get (j := j) (by simpa using h)
    exact ⟨e, by simpa using h1, h2⟩

theorem MRs.set {μ : Ren} {k v : AV} {k' v' : Value} {b : Nat} (hk : VR μ k k') (hv : VR μ v v') : ∀ {es : List (AV × AV × Nat)} {ces : List MapEntry}, MRs μ es ces → ∀ (j : Nat), MRs μ (es.set j (k, v, b)) (ces.set j ⟨k', v', b⟩)
  | _, _, .nil, _ => by simpa using .nil
  | _, _, .cons hk1 hv1 t, 0 => by simpa using .cons hk hv t
  | _, _, .cons hk1 hv1 t, j + 1 => by simpa using .cons hk1 hv1 (t.set hk hv j)

theorem MRs.append {μ : Ren} : ∀ {a : List (AV × AV × Nat)} {a' : List MapEntry}, MRs μ a a' → ∀ {b : List (AV × AV × Nat)} {b' : List MapEntry}, MRs μ b b' → MRs μ (a ++ b) (a' ++ b')
  | _, _, .nil, _, _, h => h
  | _, _, .cons hk hv t, _, _, h => .cons hk hv (t.append h)

theorem MRs.eraseIdx {μ : Ren} : ∀ {es : List (AV × AV × Nat)} {ces : List MapEntry}, MRs μ es ces → ∀ (j : Nat), MRs μ (es.eraseIdx j) (ces.eraseIdx j)
  | _, _, .nil, _ => by simpa using .nil
  | _, _, .cons hk hv t, 0 => by simpa using t
  | _, _, .cons hk hv t, j + 1 => by simpa using .cons hk hv (t.eraseIdx j)

theorem run_setObjMap {w : World} {r : Nat} {ces : Array MapEntry} {c : Nat} (h : w.heap[r]? = some (.map ces c)) (o : Obj) : (setObj r o).run P w = .ok () { w with heap := w.heap.setIfInBounds r o } := by
  simp [setObj, Sem.run, h]

theorem setObj_self {w : World} {r : Nat} {o o' : Obj} (h : w.heap[r]? = some o') : (w.heap.setIfInBounds r o)[r]? = some o := by
  have hlt := (Array.getElem?_eq_some_iff.1 h).1
  simp [Array.getElem?_setIfInBounds, hlt]
theorem setObj_other {w : World} {r k : Nat} {o : Obj} (h : k ≠ r) : (w.heap.setIfInBounds r o)[k]? = w.heap[k]? := Array.getElem?_setIfInBounds_ne (Ne.symm h)

theorem aMapUpd_sim {w0 w : World} {μ : Ren} {σ σ' : Store} (R : Rel w0 μ σ w) {t : TypeId} {m k v : AV} {m' k' v' : Value} (hm : VR μ m m') (hk : VR μ k k') (hv : VR μ v v') (h : aMapUpd P t m k v σ = some σ') :
    ∃ w', (Instr.mapUpdate t m' k' v').run P w = .ok () w' ∧ Rel w0 μ σ' w' := by
  unfold aMapUpd at h
  split at h
  · rename_i kt et i hu
    split at h
    · rename_i es clock e
      split at h
      · rename_i hko
        cases hm with
        | map hi =>
          rename_i L
          obtain ⟨hge, ces, h2, h3⟩ := R.obj i L _ hi e
          have hck : (Instr.checkKey false 10000 kt k').run P w = .ok () w := checkKey_sim hk hko false 9998 w
          split at h
          · rename_i j v0 hf
            obtain ⟨r', q1, q2⟩ := findKey_sim hk w h3 hf (aKeyOk_some hko)
            cases r' with
            | none => exact q2.elim
            | some jv =>
              obtain ⟨j', v1⟩ := jv
              obtain ⟨rfl, _⟩ := q2
              split at h
              · rename_i k0 v2 b hj
                split at h
                · rename_i hs
                  cases h
                  obtain ⟨ent, g1, g2, g3, g4⟩ := h3.get hj
                  have g1' : ces[j]? = some ent := by simpa using g1
                  have hsb : Instr.sameBits 10000 ent.key k' = true := aSame_sim g2 hk hs 9999
                  refine ⟨{ w with heap := w.heap.setIfInBounds L.b (.map (ces.modify j fun e => { e with key := k', val := v' }) clock) }, ?_, ?_⟩
                  · simp only [Instr.mapUpdate, Sem.run_bind, run_underlying hu, Result.andThen_ok, run_getMap h2, hck, q1, g1', Option.map_some, Option.getD_some, Instr.keyThatStays, hsb, if_true, Sem.run_pure, Sem.run_ite]
                    exact run_setObjMap h2 _
                  · refine R.upd hi e rfl rfl rfl (fun q hq => setObj_other hq) (by simp) rfl rfl rfl ⟨hge, _, setObj_self h2, ?_⟩
                    have : (ces.modify j fun e => { e with key := k', val := v' }).toList = ces.toList.set j ⟨k', v', b⟩ := by
                      apply List.ext_getElem?
                      intro q
                      rw [Array.getElem?_toList, Array.getElem?_modify, List.getElem?_set]
                      by_cases e1 : j = q
                      · subst e1
                        have hlt : j < ces.toList.length := (List.getElem?_eq_some_iff.1 g1).1
                        simp only [if_true, g1', Option.map_some, hlt]
                        subst g4
                        rfl
                      · simp [e1]
                    rw [this]
                    exact h3.set hk hv j
                · cases h
              · cases h
          · rename_i hf
            cases h
            obtain ⟨r', q1, q2⟩ := findKey_sim hk w h3 hf (aKeyOk_some hko)
            cases r' with
            | some jv => exact q2.elim
            | none =>
              refine ⟨{ w with heap := w.heap.setIfInBounds L.b (.map (ces.push { key := k', val := v', born := clock }) (clock + 1)) }, ?_, ?_⟩
              · simp only [Instr.mapUpdate, Sem.run_bind, run_underlying hu, Result.andThen_ok, run_getMap h2, hck, q1]
                exact run_setObjMap h2 _
              · refine R.upd hi e rfl rfl rfl (fun q hq => setObj_other hq) (by simp) rfl rfl rfl ⟨hge, _, setObj_self h2, ?_⟩
                rw [Array.toList_push]
                exact h3.append (.cons hk hv .nil)
          · cases h
      · cases h
    · cases h
  · cases h

def aDelete (P : Program) (t : TypeId) (m k : AV) (σ : Store) : Option Store :=
  match P.underlying t, m with
  | some (.map kt _), .mapNil => if aKeyOk P kt k then some σ else none
  | some (.map kt _), .map i => match σ[i]? with
    | some (.map es clock) => if aKeyOk P kt k then (match aFind P kt k es 0 with
        | some (some (j, _)) => some (σ.set i (.map (es.eraseIdx j) clock))
        | some none => some (σ.set i (.map es clock))
        | none => none) else none
    | _ => none
  | _, _ => none

theorem aDelete_sim {w0 w : World} {μ : Ren} {σ σ' : Store} (R : Rel w0 μ σ w) {t : TypeId} {tys : Array TypeId} (ht : tys[0]? = some t) {ty : TypeId} {m k : AV} {m' k' : Value} (hm : VR μ m m') (hk : VR μ k k') (h : aDelete P t m k σ = some σ') :
    ∃ w', (Builtin.delete_ tys ty #[m', k']).run P w = .ok (.tuple #[]) w' ∧ Rel w0 μ σ' w' := by
  unfold aDelete at h
  split at h
  · rename_i kt et hu
    split at h
    · rename_i hko
      cases h
      cases hm
      have hck : (Instr.checkKey true 10000 kt k').run P w = .ok () w := checkKey_sim hk hko true 9998 w
      refine ⟨w, ?_, R⟩
      simp only [Builtin.delete_, ht, List.getElem?_toArray, List.getElem?_cons_zero, List.getElem?_cons_succ, Sem.run_bind, run_underlying hu, Result.andThen_ok, hck]
      rfl
    · cases h
  · rename_i kt et i hu
    split at h
    · rename_i es clock e
      split at h
      · rename_i hko
        cases hm with
        | map hi =>
          rename_i L
          obtain ⟨hge, ces, h2, h3⟩ := R.obj i L _ hi e
          have hck : ∀ b, (Instr.checkKey b 10000 kt k').run P w = .ok () w := fun b => checkKey_sim hk hko b 9998 w
          split at h
          · rename_i j v0 hf
            cases h
            obtain ⟨r', q1, q2⟩ := findKey_sim hk w h3 hf (aKeyOk_some hko)
            cases r' with
            | none => exact q2.elim
            | some jv =>
              obtain ⟨j', v1⟩ := jv
              obtain ⟨rfl, _⟩ := q2
              refine ⟨{ w with heap := w.heap.setIfInBounds L.b (.map (ces.eraseIdxIfInBounds j) clock) }, ?_, ?_⟩
              · simp only [Builtin.delete_, ht, List.getElem?_toArray, List.getElem?_cons_zero, List.getElem?_cons_succ, Sem.run_bind, run_underlying hu, Result.andThen_ok, run_getMap h2, hck, q1, run_setObjMap h2]
                rfl
              · refine R.upd hi e rfl rfl rfl (fun q hq => setObj_other hq) (by simp) rfl rfl rfl ⟨hge, _, setObj_self h2, ?_⟩
                rw [Array.toList_eraseIdxIfInBounds]
                exact h3.eraseIdx j
          · rename_i hf
            cases h
            obtain ⟨r', q1, q2⟩ := findKey_sim hk w h3 hf (aKeyOk_some hko)
            cases r' with
            | some jv => exact q2.elim
            | none =>
              refine ⟨{ w with heap := w.heap.setIfInBounds L.b (.map ces clock) }, ?_, ?_⟩
              · simp only [Builtin.delete_, ht, List.getElem?_toArray, List.getElem?_cons_zero, List.getElem?_cons_succ, Sem.run_bind, run_underlying hu, Result.andThen_ok, run_getMap h2, hck, q1, run_setObjMap h2]
                rfl
              · exact R.upd hi e rfl rfl rfl (fun q hq => setObj_other hq) (by simp) rfl rfl rfl ⟨hge, _, setObj_self h2, h3⟩
          · cases h
      · cases h
    · cases h
  · cases h

end
end Go.Proofs.Ytbkmjmhoclflnaa.Fw
