/- Operations that lay a new object. -/
import Derived.Test.YtbkmjmhoclflnaaFw7
namespace Go.Proofs.Ytbkmjmhoclflnaa.Fw
open Go Go.RowKit
set_option linter.unusedVariables false
set_option linter.unusedSimpArgs false

section
variable {P : Program}

def zeroCellsOf (P : Program) (t : TypeId) : Option (List AV) := ((P.info? t).bind (·.zero)).map ofZero

/-- n cells: the zero cells over and over. -/
def azeros (zs : List AV) (n : Nat) : List AV := (List.range n).map fun j => zs.getD (j % zs.length) .bad
def vzeros (zs : Array Value) (n : Nat) : Array Value := (Array.range n).map fun j => zs[j % zs.size]!

theorem azeros_sim {μ : Ren} {zs : List AV} {zs' : Array Value} (h : VRs μ zs zs'.toList) (n : Nat) : VRs μ (azeros zs n) (vzeros zs' n).toList := by
  have hl : zs.length = zs'.size := by simpa using h.length
  refine VRs.of_get (by simp [azeros, vzeros]) ?_
  intro j x y hx hy
  simp only [azeros, vzeros, List.getElem?_map, Array.toList_map, Array.toList_range] at hx hy
  cases hr : (List.range n)[j]? with
  | none => simp [hr] at hx
  | some q =>
    simp only [hr, Option.map_some, Option.some.injEq] at hx hy
    subst hx; subst hy
    rw [hl]
    generalize hp : q % zs'.size = p
    simp only [List.getD_eq_getElem?_getD]
    cases hz : zs[p]? with
    | none => exact .bad
    | some z =>
      obtain ⟨z', h1, h2⟩ := h.get hz
      have : zs'[p]? = some z' := by simpa using h1
      simp only [Option.getD_some, getElem!_def, this]
      exact h2

def isStr (P : Program) (t : TypeId) : Bool := match P.underlying t with
  | some .string => true
  | _ => false

/-- What an operation lays, and the value that leads to it. -/
def aalloc (P : Program) (ρ : Operand → AV) (o : Op) : Option (AObj × (Nat → AV)) :=
  match o with
  | .alloc t => (zeroCellsOf P t).map fun z => (.cells z t, fun i => .ptr i 0)
  | .box t x => (acells (ρ x)).map fun cs => (.cells cs t, fun i => .ptr i 0)
  | .buildSlice t n parts => match P.underlying t with
    | some (.slice e) => match tySize P e, zeroCellsOf P e with
      | some k, some z => if n * k > 2 ^ 24 then none else match afill (fun i => some (i * k, k)) (azeros (if n * k = 0 then [] else z) (n * k)) (parts.toList.map fun p => (p.1, ρ p.2)) with
        | some cs => some (.cells cs e, fun i => .sl i 0 n (.exact n))
        | none => none
      | _, _ => none
    | _ => none
  | .makeMap t none => some (.map [] 0, fun i => .map i)
  | .makeSlice t l c => match P.underlying t, ρ l, ρ c with
    | some (.slice e), .int _ l, .int _ c => match tySize P e, zeroCellsOf P e, tyBytes P e with
      | some k, some z, some b => if 0 ≤ l ∧ l ≤ c ∧ b * c ≤ 2 ^ 46 ∧ c ≤ 2 ^ 46 then some (.cells (azeros (if c.toNat * k = 0 then [] else z) (c.toNat * k)) e, fun i => .sl i 0 l.toNat (.exact c.toNat)) else none
      | _, _, _ => none
    | _, _, _ => none
  | .convert src dst x => match P.underlying src, P.underlying dst, ρ x with
    | some _, some (.slice e), .str s => if isU8 P e then some (.cells (s.map fun b => .int .u8 b.toNat) e, fun i => .sl i 0 s.length (.spare 1)) else none
    | _, _, _ => none
  | _ => none

theorem aalloc_tok {ρ : Operand → AV} {o : Op} {obj : AObj} {mk : Nat → AV} (h : aalloc P ρ o = some (obj, mk)) : obj.isTok = false := by
  cases o <;> simp only [aalloc] at h <;> try (cases h; done)
  case alloc t => obtain ⟨z, _, e⟩ := Option.map_eq_some_iff.1 h; cases e; rfl
  case box t x => obtain ⟨z, _, e⟩ := Option.map_eq_some_iff.1 h; cases e; rfl
  case makeMap t r => cases r <;> simp at h; obtain ⟨rfl, _⟩ := h; rfl
  all_goals
    repeat' split at h
    all_goals first | (cases h; done) | (cases h; rfl)

/-- What laying an object is to the model. -/
def Lays (P : Program) (μ : Ren) (s : Sem Value) (obj : AObj) (mk : Nat → AV) (w : World) : Prop :=
  ∃ v' w' L, s.run P w = .ok v' w' ∧ L.b = w.heap.size ∧ Below w.heap.size w w' ∧ w.heap.size < w'.heap.size ∧
    ∀ (w0 : World) (μ' : Ren) (i : Nat), μ.le μ' → μ' i = some L → w0.heap.size ≤ w.heap.size → VR μ' (mk i) v' ∧ ORel w0 μ' L obj w'

theorem zeroCells_sim {t : TypeId} {z : List AV} (h : zeroCellsOf P t = some z) (w : World) : ∃ z', (zeroValue t).run P w = .ok z' w ∧ z = ofZero z' := by
  unfold zeroCellsOf at h
  cases hi : P.info? t with
  | none => simp [hi] at h
  | some i =>
    simp only [hi, Option.bind_some] at h
    cases hz : i.zero with
    | none => simp [hz] at h
    | some z' =>
      simp only [hz, Option.map_some, Option.some.injEq] at h
      exact ⟨z', by simp [zeroValue, run_typeInfo w hi, hz], h.symm⟩

theorem below_push (w : World) (o : Obj) : Below w.heap.size w { w with heap := w.heap.push o } := by
  refine ⟨rfl, rfl, rfl, by simp, fun k hk => ?_⟩
  show (w.heap.push o)[k]? = _
  rw [Array.getElem?_push, if_neg (by omega)]

/-- A new block of cells. -/
theorem lays_cells {μ : Ren} {s : Sem Value} {w : World} {cs : List AV} {cs' : Array Value} {e : TypeId} {v' : Value} {mk : Nat → AV} (h : VRs μ cs cs'.toList) (hs : s.run P w = .ok v' { w with heap := w.heap.push (.cells cs' e) })
    (hv : ∀ (μ' : Ren) (i : Nat), μ.le μ' → μ' i = some ⟨w.heap.size, 0, cs'.size⟩ → VR μ' (mk i) v') : Lays P μ s (.cells cs e) mk w := by
  refine ⟨v', _, ⟨w.heap.size, 0, cs'.size⟩, hs, rfl, below_push w _, by simp, fun w0 μ' i hle hi hw0 => ⟨hv μ' i hle hi, hw0, cs', (0, 0), by simp, rfl, ?_, .inl rfl, ?_⟩⟩
  · have := h.length; simp at this; simp [this]
  · have hl : cs.length = cs'.toList.length := h.length
    simp only [List.drop_zero, hl, List.take_length]
    exact h.mono hle

theorem tyBytes_some {t : TypeId} {b : Nat} (h : tyBytes P t = some b) : ∃ i, P.info? t = some i ∧ i.bytes = b := by
  unfold tyBytes at h
  cases hi : P.info? t with
  | none => simp [hi] at h
  | some i => simp [hi] at h; exact ⟨i, rfl, h⟩

theorem wrap_i64 {n : Int} (h0 : 0 ≤ n) (h : n ≤ 2 ^ 46) : IntKind.i64.wrap n = n := by
  have : n % (2 ^ 64 : Int) = n := Int.emod_eq_of_lt h0 (by omega)
  simp only [IntKind.wrap, IntKind.bits, IntKind.signed, Bool.true_and, this]
  rw [if_neg]
  simp only [decide_eq_true_eq]
  omega

theorem aalloc_sim {w : World} {μ : Ren} {ρ : Operand → AV} {ρ' : Operand → Value} {o : Oper} (hρ : ∀ x ∈ o.op.operands, VR μ (ρ x) (ρ' x)) {obj : AObj} {mk : Nat → AV} (h : aalloc P ρ o.op = some (obj, mk)) :
    ∃ s : Sem Value, execOp ρ' o = (do pure (Next.value (← s))) ∧ Lays P μ s obj mk w := by
  obtain ⟨dst, op, ty, pos, after, guard⟩ := o
  simp only at hρ h
  cases op <;> simp only [aalloc] at h <;> try (cases h; done)
  case alloc t =>
    cases hz : zeroCellsOf P t with
    | none => simp [hz] at h
    | some z =>
      simp only [hz, Option.map_some, Option.some.injEq, Prod.mk.injEq] at h
      obtain ⟨rfl, rfl⟩ := h
      obtain ⟨z', h1, rfl⟩ := zeroCells_sim hz w
      refine ⟨_, rfl, lays_cells (cs' := z'.cells) (v' := .pointer (some ⟨w.heap.size, 0, none⟩)) (ofZero_sim μ z') ?_ fun μ' i _ hi => by simpa using VR.ptr (o := 0) hi⟩
      simp only [Instr.alloc, Sem.run_bind, h1, Result.andThen_ok, newVar, newRow, run_newObj]
      rfl
  case box t x =>
    cases hz : acells (ρ x) with
    | none => simp [hz] at h
    | some cs =>
      simp only [hz, Option.map_some, Option.some.injEq, Prod.mk.injEq] at h
      obtain ⟨rfl, rfl⟩ := h
      have hc := acells_sim (hρ x (by simp [Op.operands])) hz
      exact ⟨_, rfl, lays_cells (v' := .pointer (some ⟨w.heap.size, 0, none⟩)) hc rfl fun μ' i _ hi => by simpa using VR.ptr (o := 0) hi⟩
  case buildSlice t n parts =>
    split at h
    · rename_i e hu
      split at h
      · rename_i k z hk hz
        split at h
        · cases h
        · rename_i hbig
          split at h
          · rename_i cs hf
            simp only [Option.some.injEq, Prod.mk.injEq] at h
            obtain ⟨rfl, rfl⟩ := h
            obtain ⟨z', h1, rfl⟩ := zeroCells_sim hz w
            have hzs : VRs μ (if n * k = 0 then [] else ofZero z') (if n * k = 0 then #[] else z'.cells).toList := by
              split
              · exact .nil
              · exact ofZero_sim μ z'
            obtain ⟨r', h2, h3⟩ := afill_sim (μ := μ) _ (l' := parts.toList.map fun p => (p.1, ρ' p.2)) (VRp_map _ fun x hx => hρ x.2 (by simp only [Op.operands, List.mem_toArray, List.mem_map]; exact ⟨x, hx, rfl⟩)) (azeros_sim hzs (n * k)) hf
            refine ⟨_, rfl, lays_cells (v' := .slice (some ⟨w.heap.size, 0, none⟩) n n) h3 ?_ fun μ' i _ hi => .sl hi (Nat.le_refl _) ⟨rfl, .inr rfl⟩⟩
            have hzr : (if n * k = 0 then pure #[] else do pure (← zeroValue e).cells : Sem (Array Value)).run P w = .ok (if n * k = 0 then #[] else z'.cells) w := by
              split
              · rfl
              · simp only [Sem.run_bind, h1]; rfl
            have hp : (parts.map fun (i, x) => (i, ρ' x)).toList = parts.toList.map fun p => (p.1, ρ' p.2) := by rw [Array.toList_map]
            simp only [Instr.buildSlice, Sem.run_bind, run_underlying hu, Result.andThen_ok, run_sizeOf' hk, if_neg hbig]
            by_cases h0 : n * k = 0
            · simp only [h0, if_true] at h2 ⊢
              simp only [Sem.run_bind, Sem.run_pure, Result.andThen_ok]
              rw [hp]
              unfold vzeros at h2
              rw [h2]
              rfl
            · simp only [h0, if_false] at h2 ⊢
              simp only [Sem.run_bind, Sem.run_pure, Result.andThen_ok, h1]
              rw [hp]
              unfold vzeros at h2
              rw [h2]
              rfl
          · cases h
      · cases h
    · cases h
  case makeMap t r =>
    cases r with
    | some _ => simp at h
    | none =>
      simp only [Option.some.injEq, Prod.mk.injEq] at h
      obtain ⟨rfl, rfl⟩ := h
      refine ⟨_, rfl, .map (some w.heap.size), { w with heap := w.heap.push (.map #[] 0) }, ⟨w.heap.size, 0, 0⟩, rfl, rfl, below_push w _, by simp, fun w0 μ' i hle hi hw0 => ⟨.map hi, hw0, #[], by simp, .nil⟩⟩
  case makeSlice t l c =>
    split at h
    · rename_i e k1 l0 k2 c0 hu hl hc
      split at h
      · rename_i k z b hk hz hb
        split at h
        · rename_i hcond
          simp only [Option.some.injEq, Prod.mk.injEq] at h
          obtain ⟨rfl, rfl⟩ := h
          obtain ⟨z', h1, rfl⟩ := zeroCells_sim hz w
          obtain ⟨inf, hi1, hi2⟩ := tyBytes_some hb
          obtain ⟨q1, q2, q3, q4⟩ := hcond
          have hl' : ρ' l = .int k1 l0 := by
            have := hρ l (by simp [Op.operands])
            rw [hl] at this
            generalize ρ' l = xv at *
            cases this
            rfl
          have hc' : ρ' c = .int k2 c0 := by
            have := hρ c (by simp [Op.operands])
            rw [hc] at this
            generalize ρ' c = xv at *
            cases this
            rfl
          have hzs : VRs μ (if c0.toNat * k = 0 then [] else ofZero z') (if c0.toNat * k = 0 then #[] else z'.cells).toList := by
            split
            · exact .nil
            · exact ofZero_sim μ z'
          refine ⟨_, rfl, lays_cells (v' := .slice (some ⟨w.heap.size, 0, none⟩) l0.toNat c0.toNat) (azeros_sim hzs (c0.toNat * k)) ?_ fun μ' i _ hi => .sl hi (by omega) ⟨rfl, .inr rfl⟩⟩
          have w1 := wrap_i64 (show 0 ≤ l0 from q1) (by omega)
          have w2 := wrap_i64 (show 0 ≤ c0 by omega) q4
          have hlarge : (c0 < 0 || ((inf.bytes : Int) * c0 > 2 ^ 48 : Bool)) = false := by
            rw [hi2]
            have : ¬ c0 < 0 := by omega
            have h2 : ¬ ((b : Int) * c0 > 2 ^ 48) := by omega
            simp only [Bool.or_eq_false_iff, decide_eq_false_iff_not]
            exact ⟨this, h2⟩
          rw [hl', hc']
          simp only [Instr.makeSlice, Sem.run_bind, run_underlying hu, Result.andThen_ok, asInt, asIntOf, Sem.run_pure, run_typeInfo w hi1, w1, w2]
          have hcnd : ((decide (c0 < 0) || decide ((inf.bytes : Int) * c0 > 2 ^ 48)) || decide (l0 < 0) || decide (l0 > c0)) = false := by
            simp only [Bool.or_eq_false_iff, decide_eq_false_iff_not] at hlarge ⊢
            refine ⟨⟨hlarge, by omega⟩, by omega⟩
          rw [hcnd]
          simp only [Bool.false_eq_true, if_false, Sem.run_bind, run_askRoom, Result.andThen_ok, run_sizeOf' hk]
          by_cases h0 : c0.toNat * k = 0
          · simp only [h0, if_true, Sem.run_bind, Sem.run_pure, Result.andThen_ok]; rfl
          · simp only [h0, if_false, Sem.run_bind, h1, Sem.run_pure, Result.andThen_ok]; rfl
        · cases h
      · cases h
    · cases h
  case convert src dst x =>
    split at h
    · rename_i ds e s hs hd hx
      split at h
      · rename_i hu
        simp only [Option.some.injEq, Prod.mk.injEq] at h
        obtain ⟨rfl, rfl⟩ := h
        have hx' := hρ x (by simp [Op.operands])
        rw [hx] at hx'
        unfold isU8 at hu
        split at hu
        · rename_i he
          have hxs : ∃ s' : ByteArray, ρ' x = .string s' ∧ s'.data.toList = s := by
            generalize ρ' x = xv at *
            cases hx' with
            | str es => exact ⟨_, rfl, es⟩
          · obtain ⟨s', hxv, es⟩ := hxs
            subst es
            have hsz : s'.data.toList.length = s'.size := Array.length_toList
            refine ⟨_, rfl, ?_⟩
            rw [hxv]
            generalize hcap : (Question.appendCap s'.size 0 e).cut (w.tape w.drawn (Question.appendCap s'.size 0 e)) = cap
            have hge : s'.size ≤ cap := by rw [← hcap]; simp only [Question.cut]; omega
            let cs' : Array Value := (s'.data.map fun (b : UInt8) => Value.int .u8 b.toNat) ++ Array.replicate (cap - s'.size) (.int .u8 0)
            have hcs : cs'.size = cap := by
              show ((s'.data.map fun (b : UInt8) => Value.int .u8 b.toNat) ++ Array.replicate (cap - s'.size) (Value.int .u8 0)).size = cap
              rw [Array.size_append, Array.size_map, Array.size_replicate]
              show s'.size + (cap - s'.size) = cap
              omega
            let w1 : World := { w with drawn := w.drawn + 1 }
            let w2 : World := { w1 with heap := w1.heap.push (.cells cs' e) }
            have hrun : (convert src dst (.string s')).run P w = .ok (.slice (some ⟨w.heap.size, 0, none⟩) s'.size cap) (w2.freeze { block := w.heap.size, off := cs'.size } 1) := by
              have hsh : w2.shape? w.heap.size = some (e, cs'.size) := by simp [World.shape?, w2, w1]
              have hq : (Question.appendCap s'.size 0 e).forced = false := rfl
              simp only [convert, Sem.run_bind, run_underlying hs, run_underlying hd, run_underlying he, Result.andThen_ok, Conv.stringToBytes, run_choose, hq, Bool.false_eq_true, if_false, hcap, newRow, run_newObj, Sem.run_pure, markStringish, run_shape]
              rw [show World.shape? { heap := w.heap.push (Obj.cells ((s'.data.map fun (b : UInt8) => Value.int .u8 b.toNat) ++ Array.replicate (cap - s'.size) (Value.int .u8 0)) e), tape := w.tape, drawn := w.drawn + 1, os := w.os, output := w.output } w.heap.size = some (e, cs'.size) from hsh]
              rfl
            have hfr : (w2.freeze { block := w.heap.size, off := cs'.size } 1).heap[w.heap.size]? = some (.cells cs' e (cs'.size, cs'.size + 1)) := by
              simp only [World.freeze, Nat.one_ne_zero, if_false, Array.getElem?_modify, if_true, w2, w1, Array.getElem?_push_size, Option.map_some]
              rfl
            have hother : ∀ k, k < w.heap.size → (w2.freeze { block := w.heap.size, off := cs'.size } 1).heap[k]? = w.heap[k]? := by
              intro k hk
              simp only [World.freeze, Nat.one_ne_zero, if_false, Array.getElem?_modify, w2, w1]
              rw [if_neg (by omega), Array.getElem?_push, if_neg (by omega)]
            have hsize : (w2.freeze { block := w.heap.size, off := cs'.size } 1).heap.size = w.heap.size + 1 := by simp [World.freeze, w2, w1]
            refine ⟨_, _, ⟨w.heap.size, 0, cap⟩, hrun, rfl, ⟨rfl, rfl, rfl, by omega, hother⟩, by omega, fun w0 μ' i hle hi hw0 => ⟨?_, hw0, cs', _, hfr, hcs, ?_, .inr (Nat.le_refl _), ?_⟩⟩
            · rw [hsz]
              exact .sl hi hge (.inr ⟨rfl, by simp⟩)
            · simp [hsz, hge]
            · simp only [List.drop_zero, List.length_map]
              have : (List.take s'.data.toList.length cs'.toList) = s'.data.toList.map fun (b : UInt8) => Value.int .u8 b.toNat := by
                show List.take _ ((s'.data.map fun (b : UInt8) => Value.int .u8 b.toNat) ++ Array.replicate (cap - s'.size) (Value.int .u8 0)).toList = _
                rw [Array.toList_append, Array.toList_map, List.take_append_of_le_length (by simp)]
                rw [List.take_of_length_le (by simp)]
              rw [this]
              have gen : ∀ l : List UInt8, VRs μ' (l.map fun b => AV.int .u8 b.toNat) (l.map fun b => Value.int .u8 b.toNat) := by
                intro l
                induction l with
                | nil => exact .nil
                | cons b l ih => exact .cons (.int _ _) ih
              exact gen _
        · cases hu
      · cases h
    · cases h

end
end Go.Proofs.Ytbkmjmhoclflnaa.Fw
