/- Operations that only read: what they give in the abstract, and that the model gives what is related to it. -/
import Derived.Test.YtbkmjmhoclflnaaFw1
import Derived.Laws.Sem
import Derived.Laws.Cells
import Derived.Laws.World
import Derived.Laws.Entries
import Derived.Laws.StructEq
import Derived.Laws.IdiomCopy
import Derived.ChangeKeysEq
namespace Go.Proofs.Ytbkmjmhoclflnaa.Fw
open Go Go.RowKit
set_option linter.unusedVariables false
set_option linter.unusedSimpArgs false

/-! ### Constants -/
def ofV1 : Value → AV
  | .bool b => .bool b
  | .int k n => .int k n
  | .string s => .str s.data.toList
  | .pointer none => .ptrNil
  | .slice none 0 0 => .slNil
  | .map none => .mapNil
  | .nilFunc => .fnNil
  | .nilIface => .ifaceNil
  | _ => .bad
def ofV : Value → AV
  | .agg cs => .agg (cs.toList.map ofV1)
  | v => ofV1 v

theorem VR_ofV1 (μ : Ren) (v : Value) : VR μ (ofV1 v) v := by
  unfold ofV1
  split <;> first | exact .bool _ | exact .int _ _ | exact .str rfl | exact .ptrNil | exact .slNil | exact .mapNil | exact .fnNil | exact .ifaceNil | exact .bad
theorem VRs_ofV1 (μ : Ren) : ∀ l : List Value, VRs μ (l.map ofV1) l
  | [] => .nil
  | v :: l => .cons (VR_ofV1 μ v) (VRs_ofV1 μ l)
theorem VR_ofV (μ : Ren) (v : Value) : VR μ (ofV v) v := by
  unfold ofV
  split
  · exact .agg (VRs_ofV1 μ _)
  · exact VR_ofV1 μ v

/-! ### Reading the store -/
def rdCell (σ : Store) (i o : Nat) : Option AV :=
  match σ[i]? with
  | some (.cells vs _) => vs[o]?
  | some (.frozen vs _) => vs[o]?
  | some (.ro rd) => rd o
  | _ => none

def rdCells (σ : Store) (i : Nat) : Nat → Nat → Option (List AV)
  | _, 0 => some []
  | o, n + 1 => match rdCell σ i o with
    | some v => match rdCells σ i (o + 1) n with
      | some r => some (v :: r)
      | none => none
    | none => none

theorem cell_at {w : World} {b o : Nat} {cs : Array Value} {ty : TypeId} {fr : Nat × Nat} (h : w.heap[b]? = some (.cells cs ty fr)) : w.cell? ⟨b, o, none⟩ = cs[o]? := by
  simp [World.cell?, h]

theorem add_none (b o n : Nat) : (⟨b, o, none⟩ : Addr).add n = ⟨b, o + n, none⟩ := by
  unfold Addr.add; split <;> simp_all

/-- What is frozen stands in the world. -/
theorem Froz.cell {w0 w : World} {μ : Ren} {σ : Store} (R : Rel w0 μ σ w) {b off : Nat} {cs : List Value} (h : Froz μ b off cs) {j : Nat} {v : Value} (hj : cs[j]? = some v) : w.cell? ⟨b, off + j, none⟩ = some v := by
  obtain ⟨zs, h1, h2⟩ := h.get
  obtain ⟨ccs, ty, fr, h3, ys, h4⟩ := R.frz b zs h1
  rw [cell_at h3, ← Array.getElem?_toList, h4]
  have := h2 j v hj
  rw [List.getElem?_append_left (List.getElem?_eq_some_iff.1 this).1]
  exact this

theorem rdCell_sim {w0 w : World} {μ : Ren} {σ : Store} (R : Rel w0 μ σ w) {i o : Nat} {L : Loc} (hi : μ i = some L) {v : AV} (h : rdCell σ i o = some v) :
    ∃ v', w.cell? ⟨L.b, L.d + o, none⟩ = some v' ∧ VR μ v v' := by
  unfold rdCell at h
  split at h
  · rename_i vs ty e
    obtain ⟨_, cs, fr, h1, h2, h3, _, h5⟩ := R.obj i L _ hi e
    obtain ⟨y, hy, hv⟩ := h5.get h
    refine ⟨y, ?_, hv⟩
    rw [cell_at h1]
    have ho : o < vs.length := (List.getElem?_eq_some_iff.1 h).1
    rw [List.getElem?_take_of_lt ho, List.getElem?_drop] at hy
    simpa using hy
  · rename_i vs ty e
    obtain ⟨cs, h1, h2⟩ := R.obj i L _ hi e
    obtain ⟨y, hy, hv⟩ := h2.get h
    exact ⟨y, h1.cell R hy, hv⟩
  · rename_i rd e
    obtain ⟨h1, h2, cs, ty, fr, h3, h4⟩ := R.obj i L _ hi e
    obtain ⟨v', hv, hr⟩ := h4 o v h
    refine ⟨v', ?_, hr⟩
    have := R.below.block L.b h1
    rw [h3] at this
    rw [cell_at this, h2, Nat.zero_add]
    exact hv
  · cases h

theorem rdCells_sim {w0 w : World} {μ : Ren} {σ : Store} (R : Rel w0 μ σ w) {i : Nat} {L : Loc} (hi : μ i = some L) : ∀ (n o : Nat) {vs : List AV}, rdCells σ i o n = some vs →
    ∃ cs : List Value, cs.length = n ∧ VRs μ vs cs ∧ ∀ j v, cs[j]? = some v → w.cell? ⟨L.b, L.d + o + j, none⟩ = some v
  | 0, o, vs, h => by
    simp only [rdCells, Option.some.injEq] at h
    subst h
    exact ⟨[], rfl, .nil, fun j v e => by simp at e⟩
  | n + 1, o, vs, h => by
    unfold rdCells at h
    split at h
    · rename_i v hv
      split at h
      · rename_i r hr
        cases h
        obtain ⟨v', h1, h2⟩ := rdCell_sim R hi hv
        obtain ⟨cs, h3, h4, h5⟩ := rdCells_sim R hi n (o + 1) hr
        refine ⟨v' :: cs, by simp [h3], .cons h2 h4, ?_⟩
        intro j u e
        cases j with
        | zero => simp at e; subst e; simpa using h1
        | succ j =>
          have := h5 j u (by simpa using e)
          rwa [show L.d + (o + 1) + j = L.d + o + (j + 1) by omega] at this
      · cases h
    · cases h

def isAggD : TypeDesc → Bool
  | .struct _ | .array _ _ => true
  | _ => false
def tyAgg (P : Program) (t : TypeId) : Option Bool := (P.underlying t).map isAggD
def tySize (P : Program) (t : TypeId) : Option Nat := (P.info? t).map (·.size)
def tyBytes (P : Program) (t : TypeId) : Option Nat := (P.info? t).map (·.bytes)
def tyZero (P : Program) (t : TypeId) : Option AV := ((P.info? t).bind (·.zero)).map ofV

section
variable {P : Program}

theorem run_isAgg' {t : TypeId} {b : Bool} (h : tyAgg P t = some b) (w : World) : (isAgg t).run P w = .ok b w := by
  unfold tyAgg at h
  cases hd : P.underlying t with
  | none => simp [hd] at h
  | some d =>
    simp only [hd, Option.map_some, Option.some.injEq] at h
    simp only [isAgg, Sem.run_bind, run_underlying hd, Result.andThen_ok]
    cases d <;> simp [isAggD] at h <;> subst h <;> rfl

theorem run_sizeOf' {t : TypeId} {n : Nat} (h : tySize P t = some n) (w : World) : (sizeOf t).run P w = .ok n w := by
  unfold tySize at h
  cases hi : P.info? t with
  | none => simp [hi] at h
  | some i => simp [hi] at h; subst h; simp [sizeOf, run_typeInfo w hi]

theorem run_zero' {t : TypeId} {z : AV} (h : tyZero P t = some z) (w : World) (μ : Ren) : ∃ z', (zeroValue t).run P w = .ok z' w ∧ VR μ z z' := by
  unfold tyZero at h
  cases hi : P.info? t with
  | none => simp [hi] at h
  | some i =>
    simp only [hi, Option.bind_some] at h
    cases hz : i.zero with
    | none => simp [hz] at h
    | some z' =>
      simp only [hz, Option.map_some, Option.some.injEq] at h
      subst h
      exact ⟨z', by simp [zeroValue, run_typeInfo w hi, hz], VR_ofV μ z'⟩

def aLoad (P : Program) (t : TypeId) (v : AV) (σ : Store) : Option AV :=
  match v with
  | .ptr i o => match tyAgg P t with
    | some true => match tySize P t with
      | some n => (rdCells σ i o n).map .agg
      | none => none
    | some false => rdCell σ i o
    | none => none
  | .imp row o => match tyAgg P t with
    | some true => match tySize P t with
      | some n => if o + n ≤ row.length then some (.agg ((row.drop o).take n)) else none
      | none => none
    | some false => row[o]?
    | none => none
  | _ => none

theorem aLoad_sim {w0 w : World} {μ : Ren} {σ : Store} (R : Rel w0 μ σ w) {t : TypeId} {v x : AV} {v' : Value} (hv : VR μ v v') (h : aLoad P t v σ = some x) :
    ∃ x', (Instr.loadAt t v').run P w = .ok x' w ∧ VR μ x x' := by
  unfold aLoad at h
  split at h
  · rename_i i o
    cases hv with
    | ptr hi =>
      rename_i L
      have e0 : ∀ w, (Instr.sureAddr (.pointer (some ⟨L.b, L.d + o, none⟩))).run P w = .ok ⟨L.b, L.d + o, none⟩ w := fun _ => rfl
      split at h
      · rename_i hagg
        split at h
        · rename_i n hn
          cases hr : rdCells σ i o n with
          | none => simp [hr] at h
          | some vs =>
            simp only [hr, Option.map_some, Option.some.injEq] at h
            subst h
            obtain ⟨cs, h1, h2, h3⟩ := rdCells_sim R hi n o hr
            subst h1
            refine ⟨.agg cs.toArray, ?_, .agg (by simpa using h2)⟩
            simp only [Instr.loadAt, Sem.run_bind, e0, Result.andThen_ok, loadVar, run_isAgg' hagg, if_true, run_sizeOf' hn]
            rw [run_loadCells_list w ⟨L.b, L.d + o, none⟩ cs (fun j u e => by rw [add_none]; exact h3 j u e)]
            rfl
        · cases h
      · rename_i hagg
        obtain ⟨x', h1, h2⟩ := rdCell_sim R hi h
        refine ⟨x', ?_, h2⟩
        simp only [Instr.loadAt, Sem.run_bind, e0, Result.andThen_ok, loadVar, run_isAgg' hagg, Bool.false_eq_true, if_false, run_load, h1]
      · cases h
  · rename_i row o
    cases hv with
    | imp hf hv =>
      rename_i b off cs
      have e0 : ∀ w, (Instr.sureAddr (.pointer (some ⟨b, off + o, none⟩))).run P w = .ok ⟨b, off + o, none⟩ w := fun _ => rfl
      split at h
      · rename_i hagg
        split at h
        · rename_i n hn
          split at h
          · rename_i hlen
            cases h
            have hl := hv.length
            refine ⟨.agg ((cs.drop o).take n).toArray, ?_, .agg (by simpa using (hv.drop o).take n)⟩
            simp only [Instr.loadAt, Sem.run_bind, e0, Result.andThen_ok, loadVar, run_isAgg' hagg, if_true, run_sizeOf' hn]
            have := run_loadCells_list (P := P) w ⟨b, off + o, none⟩ ((cs.drop o).take n) (fun j u e => by
              rw [add_none, Nat.add_assoc]
              refine hf.cell R ?_
              have hj := (List.getElem?_eq_some_iff.1 e).1
              rw [List.getElem?_take_of_lt (by simp at hj; omega), List.getElem?_drop] at e
              exact e)
            rw [show ((cs.drop o).take n).length = n by simp; omega] at this
            rw [this]
            rfl
          · cases h
        · cases h
      · rename_i hagg
        obtain ⟨x', h1, h2⟩ := hv.get h
        refine ⟨x', ?_, h2⟩
        simp only [Instr.loadAt, Sem.run_bind, e0, Result.andThen_ok, loadVar, run_isAgg' hagg, Bool.false_eq_true, if_false, run_load, hf.cell R h1]
      · cases h
  · cases h

/-! ### Numbers, strings, bools -/
def aIntBin (op : BinOp) (k : IntKind) (a b : Int) : Option AV :=
  match op with
  | .add => some (.int k (k.wrap (a + b)))
  | .sub => some (.int k (k.wrap (a - b)))
  | .mul => some (.int k (k.wrap (a * b)))
  | .quo => if b = 0 then none else some (.int k (k.wrap (a.tdiv b)))
  | .rem => if b = 0 then none else some (.int k (a.tmod b))
  | .and => some (.int k (k.wrap (BitVec.ofInt k.bits a &&& BitVec.ofInt k.bits b).toNat))
  | .or => some (.int k (k.wrap (BitVec.ofInt k.bits a ||| BitVec.ofInt k.bits b).toNat))
  | .xor => some (.int k (k.wrap (BitVec.ofInt k.bits a ^^^ BitVec.ofInt k.bits b).toNat))
  | .andNot => some (.int k (k.wrap (BitVec.ofInt k.bits a &&& ~~~(BitVec.ofInt k.bits b)).toNat))
  | .eql => some (.bool (a == b))
  | .neq => some (.bool (a != b))
  | .lss => some (.bool (decide (a < b)))
  | .leq => some (.bool (decide (a ≤ b)))
  | .gtr => some (.bool (decide (a > b)))
  | .geq => some (.bool (decide (a ≥ b)))
  | _ => none
def aShift (op : BinOp) (k : IntKind) (a b : Int) : Option AV :=
  if b < 0 then none else match op with
  | .shl => some (.int k (k.wrap (a * 2 ^ min b.toNat k.bits)))
  | .shr => some (.int k (a.fdiv (2 ^ min b.toNat k.bits)))
  | _ => none
def aStrBin (op : BinOp) (x y : List UInt8) : Option AV :=
  match op with
  | .add => if ((x.length + y.length : Nat) : Int) > IntKind.i64.max then none else some (.str (x ++ y))
  | .eql => some (.bool (x == y))
  | .neq => some (.bool !(x == y))
  | .lss => some (.bool (Op.bytesLess x y))
  | .leq => some (.bool (Op.bytesLess x y || x == y))
  | .gtr => some (.bool !(Op.bytesLess x y || x == y))
  | .geq => some (.bool !(Op.bytesLess x y))
  | _ => none

def aEq1 (d : TypeDesc) (x y : AV) : Option Bool :=
  match d, x, y with
  | .bool, .bool a, .bool b => some (a == b)
  | .int _, .int k a, .int k' b => if k = k' then some (a == b) else none
  | .string, .str a, .str b => some (a == b)
  | .pointer _, .ptrNil, .ptrNil => some true
  | .pointer _, .ptrNil, .ptr _ _ => some false
  | .pointer _, .ptr _ _, .ptrNil => some false
  | .slice _, .slNil, .slNil => some true
  | .slice _, .slNil, .sl .. => some false
  | .slice _, .sl .., .slNil => some false
  | .map _ _, .mapNil, .mapNil => some true
  | .map _ _, .mapNil, .map _ => some false
  | .map _ _, .map _, .mapNil => some false
  | .func _ _ _, .fnNil, .fnNil => some true
  | .func _ _ _, .fnNil, .fn .. => some false
  | .func _ _ _, .fn .., .fnNil => some false
  | .interface _, .ifaceNil, .ifaceNil => some true
  | .interface _, .ifaceNil, .iface .. => some false
  | .interface _, .iface .., .ifaceNil => some false
  | .pointer _, .ptrNil, .imp _ _ => some false
  | .pointer _, .imp _ _, .ptrNil => some false
  | .slice _, .im _ (_ :: _) _, .slNil => some false
  | .slice _, .slNil, .im _ (_ :: _) _ => some false
  | .slice _, .sle, .slNil => some false
  | .slice _, .slNil, .sle => some false
  | _, _, _ => none

/-- The fields of a struct, each of one cell. -/
def aEqFs (P : Program) (xs ys : List AV) : List Field → Option Bool
  | [] => some true
  | f :: fs => if f.name = "_" then aEqFs P xs ys fs else
    match P.underlying f.type, xs[f.offset]?, ys[f.offset]? with
    | some d, some a, some b => if isAggD d then none else match aEq1 d a b, aEqFs P xs ys fs with
      | some r, some s => some (r && s)
      | _, _ => none
    | _, _, _ => none

/-- The cells of an array, each of one cell. -/
def aEqCs (d : TypeDesc) : List AV → List AV → Option Bool
  | [], [] => some true
  | x :: xs, y :: ys => match aEq1 d x y, aEqCs d xs ys with
    | some r, some s => some (r && s)
    | _, _ => none
  | _, _ => none

def aEq (P : Program) (t : TypeId) (x y : AV) : Option Bool :=
  match P.underlying t, x, y with
  | some (.struct fs), .agg xs, .agg ys => if P.stoodInHeld t then none else aEqFs P xs ys fs.toList
  | some (.array n e), .agg xs, .agg ys => none
  | some d, x, y => if isAggD d then none else aEq1 d x y
  | none, _, _ => none

theorem aEq1_sim {μ : Ren} {t : TypeId} {d : TypeDesc} (hu : P.underlying t = some d) {x y : AV} {x' y' : Value} (hx : VR μ x x') (hy : VR μ y y') {r : Bool} (h : aEq1 d x y = some r) (n : Nat) (w : World) :
    (Op.equalIn (n + 1) t x' y').run P w = .ok r w := by
  unfold aEq1 at h
  split at h
  case h_1 => cases hx; cases hy; cases h; exact run_equalIn_bool w n t _ _ hu
  case h_2 =>
    cases hx; cases hy
    split at h
    · rename_i e; subst e; cases h; exact run_equalIn_int w n t _ _ _ _ hu
    · cases h
  case h_3 =>
    cases hx with
    | str e1 => cases hy with
      | str e2 =>
        cases h
        subst e1; subst e2
        have := run_equalIn_string (P := P) w n t
        rw [this _ _ hu, ByteArray.toList_eq, ByteArray.toList_eq]
  all_goals first
    | (cases h; done)
    | (cases hx; cases hy; cases h; simp only [Op.equalIn, Sem.run_bind, run_underlying hu, Result.andThen_ok]; rfl)

theorem part1 {t : TypeId} {d : TypeDesc} (hu : P.underlying t = some d) (hd : isAggD d = false) {cs : Array Value} {o : Nat} {v : Value} (h : cs[o]? = some v) (w : World) : (part t cs o).run P w = .ok v w := by
  have ha : tyAgg P t = some false := by simp [tyAgg, hu, hd]
  simp [part, run_isAgg' ha, h]

theorem aEqFs_sim {μ : Ren} {xs ys : List AV} {xs' ys' : Array Value} (hx : VRs μ xs xs'.toList) (hy : VRs μ ys ys'.toList) (n : Nat) (w : World) : ∀ (fs : List Field) (r : Bool), aEqFs P xs ys fs = some r →
    (Op.eqFields (n + 1) xs' ys' fs).run P w = .ok r w
  | [], r, h => by simp only [aEqFs, Option.some.injEq] at h; subst h; rfl
  | f :: fs, r, h => by
    unfold aEqFs at h
    unfold Op.eqFields
    split at h
    · rename_i hn
      rw [if_neg (by simpa using hn)]
      exact aEqFs_sim hx hy n w fs r h
    · rename_i hn
      rw [if_pos hn]
      split at h
      · rename_i d a b hu ha hb
        split at h
        · cases h
        · rename_i hd
          have hd' : isAggD d = false := by simpa using hd
          obtain ⟨a', ha', va⟩ := hx.get ha
          obtain ⟨b', hb', vb⟩ := hy.get hb
          split at h
          · rename_i r1 s1 h1 h2
            cases h
            simp only [Sem.run_bind, part1 hu hd' (show xs'[f.offset]? = some a' by simpa using ha') w, part1 hu hd' (show ys'[f.offset]? = some b' by simpa using hb') w, Result.andThen_ok, aEq1_sim hu va vb h1 n w]
            cases r1
            · simp
            · simpa using aEqFs_sim hx hy n w fs s1 h2
          · cases h
      · cases h

theorem aEqCs_len {d : TypeDesc} : ∀ {xs ys : List AV} {r : Bool}, aEqCs d xs ys = some r → xs.length = ys.length
  | [], [], _, _ => rfl
  | [], _ :: _, _, h => by simp [aEqCs] at h
  | _ :: _, [], _, h => by simp [aEqCs] at h
  | x :: xs, y :: ys, r, h => by
    unfold aEqCs at h
    split at h
    · rename_i h2; simp [aEqCs_len h2]
    · cases h

end
end Go.Proofs.Ytbkmjmhoclflnaa.Fw
