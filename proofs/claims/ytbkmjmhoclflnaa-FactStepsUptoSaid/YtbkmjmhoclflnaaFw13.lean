/- copy, clear; one operation as a whole. -/
import Derived.Test.YtbkmjmhoclflnaaFw12
namespace Go.Proofs.Ytbkmjmhoclflnaa.Fw
open Go Go.RowKit
set_option linter.unusedVariables false
set_option linter.unusedSimpArgs false

section
variable {P : Program}

theorem aCopy_sim {w0 w : World} {μ : Ren} {σ σ' : Store} (R : Rel w0 μ σ w) {tys : Array TypeId} {ty : TypeId} {d s v : AV} {d' s' : Value} (hd : VR μ d d') (hs : VR μ s s') (h : aCopy P tys d s σ = some (v, σ')) :
    ∃ v' w', (Builtin.copy_ tys ty #[d', s']).run P w = .ok v' w' ∧ VR μ v v' ∧ Rel w0 μ σ' w' := by
  unfold aCopy at h
  split at h
  rotate_left
  · cases h
  rename_i e ht
  obtain ⟨st, ht1, ht2⟩ := Option.bind_eq_some_iff.1 ht
  split at h
  rotate_left
  · cases h
  rename_i k hk
  split at h
  · cases h
    cases hd; cases hs
    refine ⟨.int .i64 0, w, ?_, .int _ _, R⟩
    simp only [Builtin.copy_, ht1, List.getElem?_toArray, List.getElem?_cons_zero, List.getElem?_cons_succ, Sem.run_bind, run_underlying ht2, Result.andThen_ok, Builtin.lenOf, Sem.run_pure, run_sizeOf' hk, Builtin.firstCells]
    rfl
  · cases h
    cases hd
    obtain ⟨L, off', c', rfl, _⟩ := VR_sl_addr hs
    refine ⟨.int .i64 0, w, ?_, .int _ _, R⟩
    have h0 : (loadCells (⟨L.b, off', none⟩ : Addr) 0).run P w = .ok #[] w := rfl
    simp only [Builtin.copy_, ht1, List.getElem?_toArray, List.getElem?_cons_zero, List.getElem?_cons_succ, Sem.run_bind, run_underlying ht2, Result.andThen_ok, Builtin.lenOf, Sem.run_pure, run_sizeOf' hk, Builtin.firstCells, Nat.min_zero, Nat.zero_mul, h0]
    simp [goInt, h0]
  · cases h
    cases hs
    obtain ⟨L, off', c', rfl, _⟩ := VR_sl_addr hd
    refine ⟨.int .i64 0, w, ?_, .int _ _, R⟩
    simp only [Builtin.copy_, ht1, List.getElem?_toArray, List.getElem?_cons_zero, List.getElem?_cons_succ, Sem.run_bind, run_underlying ht2, Result.andThen_ok, Builtin.lenOf, Sem.run_pure, run_sizeOf' hk, Builtin.firstCells]
    simp [goInt, storeCells]
  · rename_i i o m cap j q n cap2
    split at h
    · rename_i cs hr
      obtain ⟨L, off', c', rfl, hi, hmn, hc, hoff⟩ := VR_sl_addr hd
      obtain ⟨L2, off2, c2, rfl, hj, hmn2, hc2, hoff2⟩ := VR_sl_addr hs
      obtain ⟨vs, g1, g2, g3⟩ := sl_cells (n := min n m) R hj (off' := off2) (fun h0 => hoff2 (by omega)) hr
      have hrd : (Builtin.firstCells k (min n m) (.slice (some ⟨L2.b, off2, none⟩) n c2)).run P w = .ok vs.toArray w := by
        have := run_loadCells_list (P := P) w (⟨L2.b, off2, none⟩ : Addr) vs g3
        rw [g1] at this
        exact this
      have hgen : ∀ w', (storeCells (⟨L.b, off', none⟩ : Addr) vs.toArray.toList).run P w = .ok () w' →
          (Builtin.copy_ tys ty #[.slice (some ⟨L.b, off', none⟩) m c', .slice (some ⟨L2.b, off2, none⟩) n c2]).run P w = .ok (.int .i64 (min n m : Nat)) w' := by
        intro w' hst
        have hmin : Nat.min n m = min n m := rfl
        simp only [Builtin.copy_, ht1, List.getElem?_toArray, List.getElem?_cons_zero, List.getElem?_cons_succ, Sem.run_bind, run_underlying ht2, Result.andThen_ok, Builtin.lenOf, Sem.run_pure, run_sizeOf' hk, hmin, hrd, hst]
        rfl
      split at h
      · rename_i h0
        simp only [Option.map_some, Option.some.injEq, Prod.mk.injEq] at h
        obtain ⟨rfl, rfl⟩ := h
        have : vs = [] := by
          have : vs.length = 0 := by rw [g1, h0]; simp
          simpa using this
        subst this
        exact ⟨_, w, hgen w rfl, .int _ _, R⟩
      · rename_i h0
        cases hw : wrCells σ i o cs with
        | none => simp [hw] at h
        | some σ2 =>
          simp only [hw, Option.map_some, Option.some.injEq, Prod.mk.injEq] at h
          obtain ⟨rfl, rfl⟩ := h
          have ho := hoff (by omega)
          subst ho
          obtain ⟨w', q1, q2⟩ := wrCells_sim (P := P) R hi g2 hw
          exact ⟨_, w', hgen w' q1, .int _ _, q2⟩
    · cases h
  · cases h
    cases hd
    obtain ⟨a, c', cs, rfl, _⟩ := im_cells R hs
    refine ⟨.int .i64 0, w, ?_, .int _ _, R⟩
    have h0 : ∀ ad, (loadCells ad 0).run P w = .ok #[] w := fun _ => rfl
    simp only [Builtin.copy_, ht1, List.getElem?_toArray, List.getElem?_cons_zero, List.getElem?_cons_succ, Sem.run_bind, run_underlying ht2, Result.andThen_ok, Builtin.lenOf, Sem.run_pure, run_sizeOf' hk, Builtin.firstCells, Nat.min_zero, Nat.zero_mul, h0]
    cases a <;> simp [goInt, h0]
  · rename_i i o m cap k' rows cap2
    split at h
    · rename_i hkk
      obtain ⟨L, off', c', rfl, hi, hmn, hc, hoff⟩ := VR_sl_addr hd
      obtain ⟨a, c2, cs, rfl, hn2, hv, hcl, hcase⟩ := im_cells R hs
      have hcl2 : cs.length = rows.length * k := by
        rcases hkk with rfl | rfl
        · exact hcl
        · simpa using hcl
      have hle : min rows.length m * k ≤ cs.length := by rw [hcl2]; exact Nat.mul_le_mul_right k (Nat.min_le_left _ _)
      have g2 : VRs μ (rows.flatten.take (min rows.length m * k)) (cs.take (min rows.length m * k)) := hv.take _
      have hrd : (Builtin.firstCells k (min rows.length m) (.slice a rows.length c2)).run P w = .ok (cs.take (min rows.length m * k)).toArray w := by
        rcases hcase with ⟨rfl, rfl⟩ | ⟨ad, rfl, h3⟩
        · cases a with
          | none => simp [Builtin.firstCells]
          | some ad => simpa [Builtin.firstCells] using run_loadCells_list (P := P) w ad [] (fun j v e => by simp at e)
        · have := run_loadCells_list (P := P) w ad (cs.take (min rows.length m * k)) (fun j v e => by
            rw [List.getElem?_take] at e
            split at e
            · exact h3 j v e
            · cases e)
          rw [List.length_take, Nat.min_eq_left hle] at this
          exact this
      have hgen : ∀ w', (storeCells (⟨L.b, off', none⟩ : Addr) (cs.take (min rows.length m * k)).toArray.toList).run P w = .ok () w' →
          (Builtin.copy_ tys ty #[.slice (some ⟨L.b, off', none⟩) m c', .slice a rows.length c2]).run P w = .ok (.int .i64 (min rows.length m : Nat)) w' := by
        intro w' hst
        have hmin : Nat.min rows.length m = min rows.length m := rfl
        simp only [Builtin.copy_, ht1, List.getElem?_toArray, List.getElem?_cons_zero, List.getElem?_cons_succ, Sem.run_bind, run_underlying ht2, Result.andThen_ok, Builtin.lenOf, Sem.run_pure, run_sizeOf' hk, hmin, hrd, hst]
        rfl
      split at h
      · rename_i h0
        simp only [Option.map_some, Option.some.injEq, Prod.mk.injEq] at h
        obtain ⟨rfl, rfl⟩ := h
        exact ⟨_, w, hgen w (by rw [h0]; simp; rfl), .int _ _, R⟩
      · rename_i h0
        cases hw : wrCells σ i o (rows.flatten.take (min rows.length m * k)) with
        | none => simp [hw] at h
        | some σ2 =>
          simp only [hw, Option.map_some, Option.some.injEq, Prod.mk.injEq] at h
          obtain ⟨rfl, rfl⟩ := h
          have ho := hoff (by omega)
          subst ho
          obtain ⟨w', q1, q2⟩ := wrCells_sim (P := P) R hi g2 hw
          exact ⟨_, w', hgen w' q1, .int _ _, q2⟩
    · cases h
  · cases h

theorem aClear_sim {w0 w : World} {μ : Ren} {σ σ' : Store} (R : Rel w0 μ σ w) {t : TypeId} {tys : Array TypeId} (ht : tys[0]? = some t) {ty : TypeId} {x : AV} {x' : Value} (hx : VR μ x x') (h : aClear P t x σ = some σ') :
    ∃ w', (Builtin.clear_ tys ty #[x']).run P w = .ok (.tuple #[]) w' ∧ Rel w0 μ σ' w' := by
  unfold aClear at h
  split at h
  · rename_i e hu
    cases h
    cases hx
    refine ⟨w, ?_, R⟩
    simp only [Builtin.clear_, ht, List.getElem?_toArray, List.getElem?_cons_zero, Sem.run_bind, run_underlying hu, Result.andThen_ok]
    rfl
  · rename_i e i o n cap hu
    obtain ⟨L, off', c', rfl, hi, hmn, hc, hoff⟩ := VR_sl_addr hx
    split at h
    · rename_i hn
      cases h
      subst hn
      refine ⟨w, ?_, R⟩
      simp only [Builtin.clear_, ht, List.getElem?_toArray, List.getElem?_cons_zero, Sem.run_bind, run_underlying hu, Result.andThen_ok]
      rfl
    · rename_i hn
      split at h
      · rename_i z k hz hk
        split at h
        · rename_i hzk
          obtain ⟨z', hzv, rfl⟩ := zeroRun hz
          have ho := hoff (by omega)
          subst ho
          have hzs : z'.cells.size = k := by simpa [ofZero] using hzk
          have hv := azeros_sim (ofZero_sim μ z') (n * k)
          obtain ⟨w', q1, q2⟩ := wrCells_sim (P := P) R hi hv h
          refine ⟨w', ?_, q2⟩
          obtain ⟨n', rfl⟩ : ∃ n', n = n' + 1 := ⟨n - 1, by omega⟩
          have hzc : (Builtin.zeroCells z'.cells (n' + 1)) = vzeros z'.cells ((n' + 1) * k) := by unfold Builtin.zeroCells vzeros; rw [hzs]
          simp only [Builtin.clear_, ht, List.getElem?_toArray, List.getElem?_cons_zero, Sem.run_bind, run_underlying hu, Result.andThen_ok, hzv, hzc, q1]
          rfl
        · cases h
      · cases h
  · cases h

/-! ### One operation -/
abbrev Kont := AV → Store → Prop
/-- Calls of Go functions, as they are taken in the abstract. -/
abbrev CallT := FuncId → List AV → Kont → Store → Prop

/-- Has a function a Go body? -/
def callable (P : Program) (g : FuncId) : Bool := match P.funcs[g]? with
  | some fn => fn.name != "runtime.NumGoroutine" && fn.body.isSome
  | none => false

/-- An interface's method: the function, and the receiver as it is handed on (a method of the dynamic type itself, or of its pointer). -/
def aMethod (P : Program) (t : TypeId) (name : String) : Option FuncId :=
  match P.info? t with
  | some i => match i.methods.find? fun m => m.name == name with
    | some m => match m.func with
      | some (f, _) => some f
      | none => none
    | none => none
  | none => none

/-- Bytes turned to their own type: the row gets the run-time's mark. -/
def aMark (P : Program) (src dst : TypeId) (x : AV) (σ : Store) : Option AV :=
  match P.underlying src, P.underlying dst, x with
  | some (.slice _), some (.slice e), .sl i o n cap => match σ[i]? with
    | some (.cells _ _) => if src = dst ∧ isU8 P e = true then some (.sl i o n cap) else none
    | _ => none
  | _, _, _ => none

theorem aMark_sim {P : Program} {w0 w : World} {μ : Ren} {σ : Store} (R : Rel w0 μ σ w) {src dst : TypeId} {x v : AV} {x' : Value} (hx : VR μ x x') (h : aMark P src dst x σ = some v) :
    ∃ w', (convert src dst x').run P w = .ok x' w' ∧ VR μ v x' ∧ Rel w0 μ σ w' := by
  unfold aMark at h
  split at h
  · rename_i _ _ e0 e i o n cap hs hd
    split at h
    · rename_i vs ty hi
      split at h
      · rename_i hc
        obtain ⟨rfl, hu⟩ := hc
        cases h
        rw [hs] at hd
        cases hd
        obtain ⟨L, off', c', rfl, hL, hn, hcap, hoff⟩ := VR_sl_addr hx
        have hO := R.obj i L _ hL hi
        obtain ⟨hb0, cs, fr, h1, h2, h3, h4, h5⟩ := hO
        unfold isU8 at hu
        split at hu
        · rename_i he
          obtain ⟨lo, hi'⟩ := fr
          let fr' : Nat × Nat := if lo == hi' then (cs.size, cs.size + 1) else (min lo cs.size, max hi' (cs.size + 1))
          have hF : Fine fr' cs.size := by
            show Fine (if lo == hi' then (cs.size, cs.size + 1) else (min lo cs.size, max hi' (cs.size + 1))) cs.size
            split
            · exact .inr (Nat.le_refl _)
            · rename_i hne
              simp only [beq_iff_eq] at hne
              refine .inr ?_
              rcases h4 with h4 | h4
              · exact (hne h4).elim
              · show cs.size ≤ min lo cs.size
                simp only at h4; omega
          have hsh : w.shape? L.b = some (ty, cs.size) := by simp [World.shape?, h1]
          refine ⟨w.freeze { block := L.b, off := cs.size } 1, ?_, hx, ?_⟩
          · simp only [convert, Sem.run_bind, run_underlying hs, run_underlying he, Result.andThen_ok, beq_self_eq_true, markStringish, run_shape, hsh]
            rfl
          · have hfb : (w.freeze { block := L.b, off := cs.size } 1).heap[L.b]? = some (.cells cs ty fr') := by
              simp only [World.freeze, Nat.one_ne_zero, if_false, Array.getElem?_modify, if_true, h1, Option.map_some]
              rfl
            have hfo : ∀ b, b ≠ L.b → (w.freeze { block := L.b, off := cs.size } 1).heap[b]? = w.heap[b]? := by
              intro b hb
              simp only [World.freeze, Nat.one_ne_zero, if_false, Array.getElem?_modify]
              rw [if_neg (fun e => hb e.symm)]
            have hsz : (w.freeze { block := L.b, off := cs.size } 1).heap.size = w.heap.size := by simp [World.freeze]
            have hfzn : μ.fz L.b = none := R.sep i L _ hL hi rfl rfl
            have hB : Below w0.heap.size w0 (w.freeze { block := L.b, off := cs.size } 1) := by
              obtain ⟨b1, b2, b3, b4, b5⟩ := R.below
              refine ⟨b1, b2, b3, by rw [hsz]; exact b4, fun b hb => ?_⟩
              rw [hfo b (by omega)]; exact b5 b hb
            refine ⟨hB, ?_, R.inj, fun j L' hj => by rw [hsz]; exact R.dom j L' hj, ?_, R.sep, R.tok, R.glb⟩
            · intro j L' o' hj ho'
              have hO' := R.obj j L' o' hj ho'
              by_cases hji : j = i
              · subst hji
                rw [hL] at hj; cases hj
                rw [hi] at ho'; cases ho'
                exact ⟨hb0, cs, fr', hfb, h2, h3, hF, h5⟩
              · refine hO'.frame fun hm => hfo _ ?_
                exact R.inj j i L' L o' _ hji hj hL ho' hi hm rfl
            · intro b zs hb
              have hne : b ≠ L.b := by rintro rfl; rw [hfzn] at hb; cases hb
              rw [hfo b hne]
              exact R.frz b zs hb
        · cases hu
      · cases h
    · cases h
  · cases h

/-- An operation that calls, or writes. -/
def aeff (P : Program) (call : CallT) (ρ : Operand → AV) (o : Op) (K : Kont) (σ : Store) : Prop :=
  match o with
  | .store t a v => match aStore P t (ρ a) (ρ v) σ with
    | some σ' => K (.tup []) σ'
    | none => False
  | .mapUpdate t m k v | .insert t m k v => match aMapUpd P t (ρ m) (ρ k) (ρ v) σ with
    | some σ' => K (.tup []) σ'
    | none => False
  | .range t x => match aRange P t (ρ x) σ with
    | some o => K (.ptr σ.length 0) (σ ++ [o])
    | none => False
  | .next it isS => match aNext (ρ it) isS σ with
    | some l => ∀ p, p ∈ l → K p.1 p.2
    | none => False
  | .call { callee := .builtin .append, args, argTypes } => match args.toList.map ρ with
    | [s, x] => match aAppend P argTypes s x σ with
      | some r => K r.1 r.2
      | none => False
    | _ => False
  | .call { callee := .builtin .copy, args, argTypes } => match args.toList.map ρ with
    | [d, s] => match aCopy P argTypes d s σ with
      | some r => K r.1 r.2
      | none => False
    | _ => False
  | .call { callee := .builtin .delete, args, argTypes } => match args.toList.map ρ, argTypes[0]? with
    | [m, k], some t => match aDelete P t m k σ with
      | some σ' => K (.tup []) σ'
      | none => False
    | _, _ => False
  | .call { callee := .builtin .clear, args, argTypes } => match args.toList.map ρ, argTypes[0]? with
    | [x], some t => match aClear P t x σ with
      | some σ' => K (.tup []) σ'
      | none => False
    | _, _ => False
  | .call { callee := .value f, args, argTypes } => match ρ f with
    | .fn (.func g) first captured => if callable P g then call g (first ++ args.toList.map ρ ++ captured) K σ else False
    | _ => False
  | .convert src dst x => match aMark P src dst (ρ x) σ with
    | some v => K v σ
    | none => False
  | _ => False

/-- What kind an operation is: it reads (0), lays an object (1), calls or writes (2). -/
def opKind (P : Program) (o : Op) : Nat :=
  match o with
  | .move _ | .assign _ | .pick .. | .load .. | .nilCheck _ | .binOp .. | .unOp .. | .makeInterface .. | .makeFunc .. | .slice .. | .fieldAddr .. | .field .. | .indexAddr .. | .index .. | .lookup .. | .extract .. | .build .. | .entry _ | .typeAssert .. => 0
  | .convert src dst _ => if src = dst then (match P.underlying dst with
    | some (.slice _) => 2
    | _ => 0) else match P.underlying dst with
    | some (.slice _) => 1
    | _ => 0
  | .alloc _ | .box .. | .buildSlice .. | .makeMap .. | .makeSlice .. => 1
  | .call { callee := .builtin b, .. } => match b with
    | .len | .cap | .max | .min => 0
    | _ => 2
  | _ => 2

def aexec (P : Program) (call : CallT) (ρ : Operand → AV) (o : Op) (K : Kont) (σ : Store) : Prop :=
  match opKind P o with
  | 0 => match aval P ρ o σ with
    | some v => K v σ
    | none => False
  | 1 => match aalloc P ρ o with
    | some r => K (r.2 σ.length) (σ ++ [r.1])
    | none => False
  | _ => aeff P call ρ o K σ

/-- That calls are what the model's calls are. -/
def CallsOk (P : Program) (w0 : World) (call : CallT) : Prop :=
  ∀ g args K σ, call g args K σ → ∀ μ w args', Rel w0 μ σ w → VRs μ args args'.toList →
    Calls P g args' w fun e w' => ∃ v v' σ', e = .returned v' ∧ K v σ' ∧ σ.length ≤ σ'.length ∧ Step w0 μ σ.length v σ' v' w'

theorem wrCells_length {σ σ' : Store} {i o : Nat} {cs : List AV} (h : wrCells σ i o cs = some σ') : σ'.length = σ.length := by
  unfold wrCells at h
  split at h
  · split at h
    · cases h; simp
    · cases h
  · cases h

theorem imTake_length {cap : Cap} {m : Nat} {σ σ' : Store} (h : imTake cap m σ = some σ') : σ'.length = σ.length := by
  unfold imTake at h
  repeat' split at h
  all_goals first
    | (cases h; done)
    | (cases h; rfl)
    | (cases h; simp)

theorem aAppend_length {tys : Array TypeId} {s x v : AV} {σ σ' : Store} (h : aAppend P tys s x σ = some (v, σ')) : σ.length ≤ σ'.length := by
  unfold aAppend at h
  repeat' split at h
  all_goals first
    | (cases h; done)
    | (cases h; simp; done)
    | (cases h; rename_i hw; rw [wrCells_length hw]; exact Nat.le_refl _)
    | (cases h; rename_i ht; simp [imTake_length ht])

/-- One operation, in the abstract and in the model: behind it the value lies in its slot. -/
theorem aexec_sim {w0 : World} {call : CallT} (hcall : CallsOk P w0 call) {w : World} {μ : Ren} {σ : Store} (R : Rel w0 μ σ w) {ρ : Operand → AV} {a : Act} {o : Oper} (hρ : ∀ x ∈ o.op.operands, VR μ (ρ x) (a.eval x)) {K : Kont}
    (h : aexec P call ρ o.op K σ) {Q : Exit → Act → World → Prop} : o.wp P a w (fun a' w' => ∃ v v' σ', a' = a.put o.dst v' ∧ K v σ' ∧ σ.length ≤ σ'.length ∧ Step w0 μ σ.length v σ' v' w') Q := by
  unfold aexec at h
  unfold Oper.wp
  split at h
  · split at h
    · rename_i v hv
      obtain ⟨v', h1, h2⟩ := aval_sim R hρ hv
      rw [h1]
      exact ⟨v, v', σ, rfl, h, Nat.le_refl _, Step.same h2 R⟩
    · exact h.elim
  · split at h
    · rename_i r hr
      obtain ⟨obj, mk⟩ := r
      obtain ⟨s, e1, v', w', L, h1, h2, h3, h4, h5⟩ := aalloc_sim (w := w) hρ hr
      rw [e1]
      simp only [Sem.run_bind, h1, Result.andThen_ok, Sem.run_pure]
      have hle := Ren.push_le (L := L) R.fresh
      obtain ⟨q1, q2⟩ := h5 w0 (μ.push σ.length L) σ.length hle Ren.push_self R.below.size
      exact ⟨_, v', _, rfl, h, by simp, μ.push σ.length L, hle, Ext.push (Nat.le_refl _), q1, R.alloc (aalloc_tok hr) h2 h3 h4 q2⟩
    · exact h.elim
  · rename_i no1 no2
    clear no1 no2
    obtain ⟨dst, op, ty, pos, after, guard⟩ := o
    simp only at hρ h
    unfold aeff at h
    split at h
    · -- store
      rename_i t ad v
      split at h
      · rename_i σ' hs
        obtain ⟨w', h1, h2⟩ := aStore_sim R (hρ ad (by simp [Op.operands])) (hρ v (by simp [Op.operands])) hs
        have : (execOp a.eval { dst, op := .store t ad v, type := ty, pos, after, guard }).run P w = .ok .skip w' := by
          simp only [execOp, Sem.run_bind, h1]; rfl
        rw [this]
        have hl : σ'.length = σ.length := by
          unfold aStore at hs
          split at hs
          · split at hs
            · exact wrCells_length hs
            · cases hs
          · cases hs
        exact ⟨.tup [], undef, σ', rfl, h, by omega, Step.same (.tup .nil) h2⟩
      · exact h.elim
    · rename_i t m k v
      split at h
      · rename_i σ' hs
        obtain ⟨w', h1, h2⟩ := aMapUpd_sim R (hρ m (by simp [Op.operands])) (hρ k (by simp [Op.operands])) (hρ v (by simp [Op.operands])) hs
        have : (execOp a.eval { dst, op := .mapUpdate t m k v, type := ty, pos, after, guard }).run P w = .ok .skip w' := by
          simp only [execOp, Sem.run_bind, h1]; rfl
        rw [this]
        have hl : σ'.length = σ.length := by
          unfold aMapUpd at hs
          repeat' split at hs
          all_goals first | (cases hs; done) | (cases hs; simp)
        exact ⟨.tup [], undef, σ', rfl, h, by omega, Step.same (.tup .nil) h2⟩
      · exact h.elim
    · rename_i t m k v
      split at h
      · rename_i σ' hs
        obtain ⟨w', h1, h2⟩ := aMapUpd_sim R (hρ m (by simp [Op.operands])) (hρ k (by simp [Op.operands])) (hρ v (by simp [Op.operands])) hs
        have : (execOp a.eval { dst, op := .insert t m k v, type := ty, pos, after, guard }).run P w = .ok .skip w' := by
          simp only [execOp, Sem.run_bind, h1]; rfl
        rw [this]
        have hl : σ'.length = σ.length := by
          unfold aMapUpd at hs
          repeat' split at hs
          all_goals first | (cases hs; done) | (cases hs; simp)
        exact ⟨.tup [], undef, σ', rfl, h, by omega, Step.same (.tup .nil) h2⟩
      · exact h.elim
    · rename_i t x
      split at h
      · rename_i ob hs
        obtain ⟨v', w', μ', h1, rfl, h2, h3⟩ := aRange_sim R (hρ x (by simp [Op.operands])) hs
        have : (execOp a.eval { dst, op := .range t x, type := ty, pos, after, guard }).run P w = .ok (.value v') w' := by
          simp only [execOp, Sem.run_bind, h1]; rfl
        rw [this]
        exact ⟨_, v', _, rfl, h, by simp, _, Ren.push_le R.fresh, Ext.push (Nat.le_refl _), h2, h3⟩
      · exact h.elim
    · rename_i it isS
      split at h
      · rename_i l hs
        obtain ⟨v, v', σ', w', hm, h1, h2, h3⟩ := aNext_sim (P := P) R (hρ it (by simp [Op.operands])) (ty := ty) hs
        have : (execOp a.eval { dst, op := .next it isS, type := ty, pos, after, guard }).run P w = .ok (.value v') w' := by
          simp only [execOp, Sem.run_bind, h1]; rfl
        rw [this]
        have hl : σ'.length = σ.length := by
          unfold aNext at hs
          repeat' split at hs
          all_goals first
            | (cases hs; done)
            | (cases hs; simp only [List.mem_singleton, Prod.mk.injEq] at hm; obtain ⟨_, rfl⟩ := hm; simp; done)
            | (cases hs; simp only [List.mem_append, List.mem_map, List.mem_singleton, Prod.mk.injEq] at hm
               rcases hm with hm | ⟨q, _, _, rfl⟩
               · split at hm
                 · simp only [List.mem_singleton, Prod.mk.injEq] at hm; rw [hm.2]
                 · cases hm
               · simp)
        exact ⟨v, v', σ', rfl, h _ hm, by omega, Step.same h2 h3⟩
      · exact h.elim
    all_goals try (exact h.elim; done)
    · -- append
      rename_i args argTypes
      split at h
      · rename_i s x hargs
        split at h
        · rename_i r hs
          obtain ⟨v, σ'⟩ := r
          have hall := VRs_map (μ := μ) (ρ := ρ) (ρ' := a.eval) args.toList fun y hy => hρ y (by simp only [Op.operands, Call.operands, Array.mem_append]; exact .inr (by simpa using hy))
          rw [hargs] at hall
          have hargs' : ∃ s' x', args.map a.eval = #[s', x'] ∧ VR μ s s' ∧ VR μ x x' := by
            rw [← Array.toList_map] at hall
            generalize args.map a.eval = A at *
            obtain ⟨A⟩ := A
            cases hall with
            | cons q1 t1 => cases t1 with
              | cons q2 t2 => cases t2; exact ⟨_, _, rfl, q1, q2⟩
          obtain ⟨s', x', ea, q1, q2⟩ := hargs'
          obtain ⟨v', w', h1, h2⟩ := aAppend_sim R (ty := ty) q1 q2 hs
          have : (execOp a.eval { dst, op := .call { callee := .builtin .append, args, argTypes }, type := ty, pos, after, guard }).run P w = .ok (.value v') w' := by
            simp only [execOp, resolve, Sem.run_bind, Sem.run_pure, Result.andThen_ok, invoke, builtin, ea, h1]
          rw [this]
          exact ⟨v, v', σ', rfl, h, aAppend_length hs, h2⟩
        · exact h.elim
      · exact h.elim
    · -- copy
      rename_i args argTypes
      split at h
      · rename_i s x hargs
        split at h
        · rename_i r hs
          obtain ⟨v, σ'⟩ := r
          have hall := VRs_map (μ := μ) (ρ := ρ) (ρ' := a.eval) args.toList fun y hy => hρ y (by simp only [Op.operands, Call.operands, Array.mem_append]; exact .inr (by simpa using hy))
          rw [hargs] at hall
          have hargs' : ∃ s' x', args.map a.eval = #[s', x'] ∧ VR μ s s' ∧ VR μ x x' := by
            rw [← Array.toList_map] at hall
            generalize args.map a.eval = A at *
            obtain ⟨A⟩ := A
            cases hall with
            | cons q1 t1 => cases t1 with
              | cons q2 t2 => cases t2; exact ⟨_, _, rfl, q1, q2⟩
          obtain ⟨s', x', ea, q1, q2⟩ := hargs'
          obtain ⟨v', w', h1, h2, h3⟩ := aCopy_sim R (ty := ty) q1 q2 hs
          have : (execOp a.eval { dst, op := .call { callee := .builtin .copy, args, argTypes }, type := ty, pos, after, guard }).run P w = .ok (.value v') w' := by
            simp only [execOp, resolve, Sem.run_bind, Sem.run_pure, Result.andThen_ok, invoke, builtin, ea, h1]
          rw [this]
          have hl : σ'.length = σ.length := by
            unfold aCopy at hs
            repeat' split at hs
            all_goals first
              | (cases hs; done)
              | (cases hs; rfl)
              | (simp only [Option.map_some, Option.some.injEq, Prod.mk.injEq] at hs; obtain ⟨_, rfl⟩ := hs; rfl)
              | (simp only [Option.map_eq_some_iff, Prod.mk.injEq] at hs; obtain ⟨σ2, hw, _, rfl⟩ := hs; exact wrCells_length hw)
          exact ⟨v, v', σ', rfl, h, by omega, Step.same h2 h3⟩
        · exact h.elim
      · exact h.elim
    · -- delete
      rename_i args argTypes
      split at h
      · rename_i m k t hargs ht
        split at h
        · rename_i σ' hs
          have hall := VRs_map (μ := μ) (ρ := ρ) (ρ' := a.eval) args.toList fun y hy => hρ y (by simp only [Op.operands, Call.operands, Array.mem_append]; exact .inr (by simpa using hy))
          rw [hargs] at hall
          have hargs' : ∃ s' x', args.map a.eval = #[s', x'] ∧ VR μ m s' ∧ VR μ k x' := by
            rw [← Array.toList_map] at hall
            generalize args.map a.eval = A at *
            obtain ⟨A⟩ := A
            cases hall with
            | cons q1 t1 => cases t1 with
              | cons q2 t2 => cases t2; exact ⟨_, _, rfl, q1, q2⟩
          obtain ⟨s', x', ea, q1, q2⟩ := hargs'
          obtain ⟨w', h1, h2⟩ := aDelete_sim R ht (ty := ty) q1 q2 hs
          have : (execOp a.eval { dst, op := .call { callee := .builtin .delete, args, argTypes }, type := ty, pos, after, guard }).run P w = .ok (.value (.tuple #[])) w' := by
            simp only [execOp, resolve, Sem.run_bind, Sem.run_pure, Result.andThen_ok, invoke, builtin, ea, h1]
          rw [this]
          have hl : σ'.length = σ.length := by
            unfold aDelete at hs
            repeat' split at hs
            all_goals first | (cases hs; done) | (cases hs; simp; done) | (cases hs; rfl)
          exact ⟨.tup [], _, σ', rfl, h, by omega, Step.same (.tup .nil) h2⟩
        · exact h.elim
      · exact h.elim
    · -- clear
      rename_i args argTypes
      split at h
      · rename_i x t hargs ht
        split at h
        · rename_i σ' hs
          have hall := VRs_map (μ := μ) (ρ := ρ) (ρ' := a.eval) args.toList fun y hy => hρ y (by simp only [Op.operands, Call.operands, Array.mem_append]; exact .inr (by simpa using hy))
          rw [hargs] at hall
          have hargs' : ∃ x', args.map a.eval = #[x'] ∧ VR μ x x' := by
            rw [← Array.toList_map] at hall
            generalize args.map a.eval = A at *
            obtain ⟨A⟩ := A
            cases hall with
            | cons q1 t1 => cases t1; exact ⟨_, rfl, q1⟩
          obtain ⟨x', ea, q1⟩ := hargs'
          obtain ⟨w', h1, h2⟩ := aClear_sim R ht (ty := ty) q1 hs
          have : (execOp a.eval { dst, op := .call { callee := .builtin .clear, args, argTypes }, type := ty, pos, after, guard }).run P w = .ok (.value (.tuple #[])) w' := by
            simp only [execOp, resolve, Sem.run_bind, Sem.run_pure, Result.andThen_ok, invoke, builtin, ea, h1]
          rw [this]
          have hl : σ'.length = σ.length := by
            unfold aClear at hs
            repeat' split at hs
            all_goals first | (cases hs; done) | (cases hs; rfl) | exact wrCells_length hs
          exact ⟨.tup [], _, σ', rfl, h, by omega, Step.same (.tup .nil) h2⟩
        · exact h.elim
      · exact h.elim
    · -- a call
      rename_i f args argTypes
      split at h
      · rename_i g first captured hf
        split at h
        · rename_i hg
          have hfv := hρ f (by simp [Op.operands, Call.operands])
          rw [hf] at hfv
          have hall := VRs_map (μ := μ) (ρ := ρ) (ρ' := a.eval) args.toList fun y hy => hρ y (by simp only [Op.operands, Call.operands, Array.mem_append]; exact .inr (by simpa using hy))
          have hfe : ∃ first' captured', a.eval f = .func (.func g) first' captured' ∧ VRs μ first first'.toList ∧ VRs μ captured captured'.toList := by
            generalize a.eval f = F at *
            cases hfv with
            | fn q1 q2 => exact ⟨_, _, rfl, q1, q2⟩
          obtain ⟨first', captured', ef, q1, q2⟩ := hfe
          have hrun : (execOp a.eval { dst, op := .call { callee := .value f, args, argTypes }, type := ty, pos, after, guard }).run P w = .ok (.enter g (first' ++ args.map a.eval ++ captured')) w := by
            unfold callable at hg
            cases hfn : P.funcs[g]? with
            | none => simp [hfn] at hg
            | some fn =>
              simp only [hfn, Bool.and_eq_true, bne_iff_ne, ne_eq] at hg
              have hname : (fn.name == "runtime.NumGoroutine") = false := by simpa using hg.1
              have hbody : fn.body.isNone = false := by cases hb : fn.body <;> simp_all
              simp only [execOp, resolve, Sem.run_bind, Deferred.ofValue, ef, Sem.run_pure, Result.andThen_ok, invoke, callFunc, run_program, hfn, hname, Bool.false_eq_true, if_false, hbody]
          rw [hrun]
          have hargs : VRs μ (first ++ args.toList.map ρ ++ captured) (first' ++ args.map a.eval ++ captured').toList := by
            simp only [Array.toList_append, Array.toList_map]
            exact (q1.append hall).append q2
          refine (hcall g _ K σ h μ w _ R hargs).mono fun e w' hh => ?_
          obtain ⟨v, v', σ', rfl, k1, k2, k3⟩ := hh
          exact ⟨v, v', σ', rfl, k1, k2, k3⟩
        · exact h.elim
      · exact h.elim
    · rename_i src dst' x
      split at h
      · rename_i v hs
        obtain ⟨w', h1, h2, h3⟩ := aMark_sim R (hρ x (by simp [Op.operands])) hs
        have : (execOp a.eval { dst, op := .convert src dst' x, type := ty, pos, after, guard }).run P w = .ok (.value (a.eval x)) w' := by
          simp only [execOp, Sem.run_bind, h1]; rfl
        rw [this]
        exact ⟨v, _, σ, rfl, h, Nat.le_refl _, Step.same h2 h3⟩
      · exact h.elim

end
end Go.Proofs.Ytbkmjmhoclflnaa.Fw
