/- The operations that only read, all of them; operations that lay a new object. -/
import Derived.Test.YtbkmjmhoclflnaaFw6
namespace Go.Proofs.Ytbkmjmhoclflnaa.Fw
open Go Go.RowKit
set_option linter.unusedVariables false
set_option linter.unusedSimpArgs false

section
variable {P : Program}

abbrev Env := Nat → AV
def aeval (env : Env) : Operand → AV
  | .tmp t => env t
  | .const v => ofV v
  | .func f => .fn (.func f) [] []
  | .global g => match globs g with
    | some row => .imp row 0
    | none => .bad

/-- What a lookup in an iterator's map gives. -/
def aEntry (it : AV) (σ : Store) : Option AV :=
  match it with
  | .ptr r 0 => match σ[r]? with
    | some (.mit (some m) since seen stepped) => match seen.getLast?, σ[m]? with
      | some stamp, some (.map es clock) => if clock = stepped then (match es.find? (fun e => e.2.2 == stamp) with
          | some e => some (.tup [e.1, e.2.1])
          | none => none) else none
      | _, _ => none
    | _ => none
  | _ => none

def aAssert (P : Program) (x : AV) (asserted : TypeId) (ok : Bool) : Option AV :=
  match P.underlying asserted, x with
  | some (.interface _), _ => none
  | some _, .iface t v => if t = asserted then some (if ok then .tup [v, .bool true] else v)
      else if ok then (match tyZero P asserted with
        | some z => some (.tup [z, .bool false])
        | none => none) else none
  | some _, .ifaceNil => if ok then (match tyZero P asserted with
        | some z => some (.tup [z, .bool false])
        | none => none) else none
  | _, _ => none

def aLen (P : Program) (t : TypeId) (x : AV) (σ : Store) : Option AV :=
  match P.underlying t, x with
  | some .string, .str s => some (.int .i64 s.length)
  | some (.array n _), _ => some (.int .i64 n)
  | some (.slice _), .sl _ _ n _ => some (.int .i64 n)
  | some (.slice _), .slNil => some (.int .i64 0)
  | some (.slice _), .im _ rows _ => some (.int .i64 rows.length)
  | some (.slice _), .sle => some (.int .i64 0)
  | some (.map _ _), m => (mapEntries σ m).map fun es => .int .i64 es.length
  | _, _ => none

def aCap (P : Program) (t : TypeId) (x : AV) : Option AV :=
  match P.underlying t, x with
  | some (.slice _), .sl _ _ _ (.exact c) => some (.int .i64 c)
  | some (.slice _), .slNil => some (.int .i64 0)
  | some (.slice _), .im _ _ (.exact c) => some (.int .i64 c)
  | _, _ => none

def aMax2 : AV → AV → Option AV
  | .int k x, .int _ y => some (.int k (if y > x then y else x))
  | _, _ => none
def aMin2 : AV → AV → Option AV
  | .int k x, .int _ y => some (.int k (if y < x then y else x))
  | _, _ => none

def aBuiltin (P : Program) (b : Builtin) (tys : Array TypeId) (args : List AV) (σ : Store) : Option AV :=
  match b, args with
  | .len, [x] => match tys[0]? with
    | some t => aLen P t x σ
    | none => none
  | .cap, [x] => match tys[0]? with
    | some t => aCap P t x
    | none => none
  | .max, [x, y] => aMax2 x y
  | .min, [x, y] => aMin2 x y
  | _, _ => none

def isIface (P : Program) (t : TypeId) : Bool := match P.underlying t with
  | some d => ifaceD d
  | none => true

/-- What an operation that only reads gives. -/
def aval (P : Program) (ρ : Operand → AV) (o : Op) (σ : Store) : Option AV :=
  match o with
  | .move x | .assign x => some (ρ x)
  | .pick c a b => aPick (ρ c) (ρ a) (ρ b)
  | .load t a => aLoad P t (ρ a) σ
  | .nilCheck x => aNil (ρ x)
  | .binOp op t x y _ => aBin P op t (isC x || isC y) (ρ x) (ρ y)
  | .unOp op _ x => aUn op (ρ x)
  | .convert src dst x => aConv P src dst (ρ x) σ
  | .makeInterface t x => if isIface P t then none else some (.iface t (ρ x))
  | .makeFunc fn first captured => some (.fn fn (first.toList.map ρ) (captured.toList.map ρ))
  | .slice t x lo hi mx => aSlice P t (ρ x) (lo.map ρ) (hi.map ρ) (mx.map ρ)
  | .fieldAddr s x f => aFieldAddr P s (ρ x) f
  | .field s x f => aField P s (ρ x) f
  | .indexAddr t x ix => aIndexAddr P t (ρ x) (ρ ix)
  | .index t x ix => aIndex P t (ρ x) (ρ ix)
  | .lookup t m k ok => aLookup P t (ρ m) (ρ k) ok σ
  | .extract t i => aExtract (ρ t) i
  | .build t parts => (aBuilt P t (parts.toList.map fun p => (p.1, ρ p.2))).map .agg
  | .entry it => aEntry (ρ it) σ
  | .typeAssert x _ asserted ok => aAssert P (ρ x) asserted ok
  | .call { callee := .builtin b, args, argTypes } => aBuiltin P b argTypes (args.toList.map ρ) σ
  | _ => none

theorem VRs_map {μ : Ren} {ρ : Operand → AV} {ρ' : Operand → Value} : ∀ (l : List Operand), (∀ x ∈ l, VR μ (ρ x) (ρ' x)) → VRs μ (l.map ρ) (l.map ρ')
  | [], _ => .nil
  | x :: l, h => .cons (h x (by simp)) (VRs_map l fun y hy => h y (by simp [hy]))

theorem VRp_map {μ : Ren} {ρ : Operand → AV} {ρ' : Operand → Value} : ∀ (l : List (Nat × Operand)), (∀ x ∈ l, VR μ (ρ x.2) (ρ' x.2)) → VRp μ (l.map fun p => (p.1, ρ p.2)) (l.map fun p => (p.1, ρ' p.2))
  | [], _ => .nil
  | x :: l, h => .cons (h x (by simp)) (VRp_map l fun y hy => h y (by simp [hy]))

theorem aLen_sim {w0 w : World} {μ : Ren} {σ : Store} (R : Rel w0 μ σ w) {t : TypeId} {tys : Array TypeId} (ht : tys[0]? = some t) {ty : TypeId} {x v : AV} {x' : Value} (hx : VR μ x x') (h : aLen P t x σ = some v) :
    ∃ v', (Builtin.len_ tys ty #[x']).run P w = .ok v' w ∧ VR μ v v' := by
  unfold aLen at h
  split at h
  · rename_i s hu
    cases h
    cases hx with
    | str e =>
      rename_i s'
      subst e
      refine ⟨.int .i64 s'.size, ?_, ?_⟩
      · simp only [Builtin.len_, ht, List.getElem?_toArray, List.getElem?_cons_zero, Sem.run_bind, run_underlying hu, Result.andThen_ok]; rfl
      · rw [show (s'.data.toList.length) = s'.size from Array.length_toList]; exact .int _ _
  · rename_i n e hu
    cases h
    refine ⟨.int .i64 n, ?_, .int _ _⟩
    simp only [Builtin.len_, ht, List.getElem?_toArray, List.getElem?_cons_zero, Sem.run_bind, run_underlying hu, Result.andThen_ok]
    rfl
  · rename_i e i o n cap hu
    cases h
    obtain ⟨L, off', c', rfl, _⟩ := VR_sl_addr hx
    refine ⟨.int .i64 n, ?_, .int _ _⟩
    simp only [Builtin.len_, ht, List.getElem?_toArray, List.getElem?_cons_zero, Sem.run_bind, run_underlying hu, Result.andThen_ok]; rfl
  · rename_i e hu
    cases h
    cases hx
    refine ⟨.int .i64 0, ?_, .int _ _⟩
    simp only [Builtin.len_, ht, List.getElem?_toArray, List.getElem?_cons_zero, Sem.run_bind, run_underlying hu, Result.andThen_ok]; rfl
  · rename_i e k rows cap hu
    cases h
    obtain ⟨a, c', cs, rfl, _⟩ := im_cells R hx
    refine ⟨.int .i64 rows.length, ?_, .int _ _⟩
    simp only [Builtin.len_, ht, List.getElem?_toArray, List.getElem?_cons_zero, Sem.run_bind, run_underlying hu, Result.andThen_ok]; rfl
  · rename_i e hu
    cases h
    cases hx
    refine ⟨.int .i64 0, ?_, .int _ _⟩
    simp only [Builtin.len_, ht, List.getElem?_toArray, List.getElem?_cons_zero, Sem.run_bind, run_underlying hu, Result.andThen_ok]; rfl
  · rename_i x _ _ kt et hu
    cases he : mapEntries σ x with
    | none => simp [he] at h
    | some es =>
      simp only [he, Option.map_some, Option.some.injEq] at h
      subst h
      obtain ⟨ces, hM, hcase⟩ := entries_sim R hx he
      have hl : es.length = ces.size := by
        have : ∀ {a : List (AV × AV × Nat)} {b : List MapEntry}, MRs μ a b → a.length = b.length := by
          intro a b hm
          induction hm with
          | nil => rfl
          | cons _ _ _ ih => simp [ih]
        simpa using this hM
      rw [hl]
      refine ⟨.int .i64 ces.size, ?_, .int _ _⟩
      rcases hcase with ⟨rfl, rfl⟩ | ⟨r, c, rfl, hr⟩
      · simp only [Builtin.len_, ht, List.getElem?_toArray, List.getElem?_cons_zero, Sem.run_bind, run_underlying hu, Result.andThen_ok]; rfl
      · simp only [Builtin.len_, ht, List.getElem?_toArray, List.getElem?_cons_zero, Sem.run_bind, run_underlying hu, Result.andThen_ok, run_getMap hr]; rfl
  · cases h

theorem aBuiltin_sim {w0 w : World} {μ : Ren} {σ : Store} (R : Rel w0 μ σ w) {b : Builtin} {tys : Array TypeId} {ty : TypeId} {cs : Array Bool} {args : List AV} {args' : Array Value} (ha : VRs μ args args'.toList) {v : AV}
    (h : aBuiltin P b tys args σ = some v) : ∃ v', (builtin b tys ty cs args').run P w = .ok (.value v') w ∧ VR μ v v' := by
  unfold aBuiltin at h
  split at h
  · rename_i x
    split at h
    · rename_i t ht
      obtain ⟨args'⟩ := args'
      cases ha with
      | cons hx t2 =>
        cases t2
        obtain ⟨v', h1, h2⟩ := aLen_sim R ht (ty := ty) hx h
        refine ⟨v', ?_, h2⟩
        simp only [builtin, Sem.run_bind]
        rw [h1]
        rfl
    · cases h
  · rename_i x
    split at h
    · rename_i t ht
      obtain ⟨args'⟩ := args'
      cases ha with
      | cons hx t2 =>
        cases t2
        unfold aCap at h
        split at h
        · rename_i e i o n c hu
          cases h
          obtain ⟨L, off', c', rfl, _, _, hc, _⟩ := VR_sl_addr hx
          obtain ⟨rfl, _⟩ := hc
          refine ⟨.int .i64 c', ?_, .int _ _⟩
          simp only [builtin, Builtin.cap_, ht, List.getElem?_toArray, List.getElem?_cons_zero, Sem.run_bind, run_underlying hu, Result.andThen_ok]; rfl
        · rename_i e hu
          cases h
          cases hx
          refine ⟨.int .i64 0, ?_, .int _ _⟩
          simp only [builtin, Builtin.cap_, ht, List.getElem?_toArray, List.getElem?_cons_zero, Sem.run_bind, run_underlying hu, Result.andThen_ok]; rfl
        · rename_i e k rows c hu
          cases h
          have gen : ∀ xv, VR μ (.im k rows (.exact c)) xv → ∃ a, xv = Value.slice a rows.length c := by
            intro xv hx
            cases hx with
            | im hf hv hk hn hc => cases hc; exact ⟨_, rfl⟩
            | imE hc hz => cases hc; exact ⟨_, rfl⟩
          obtain ⟨a, rfl⟩ := gen _ hx
          refine ⟨.int .i64 c, ?_, .int _ _⟩
          simp only [builtin, Builtin.cap_, ht, List.getElem?_toArray, List.getElem?_cons_zero, Sem.run_bind, run_underlying hu, Result.andThen_ok]; rfl
        · cases h
    · cases h
  · rename_i x y
    obtain ⟨args'⟩ := args'
    cases ha with
    | cons hx t2 => cases t2 with
      | cons hy t3 =>
        cases t3
        unfold aMax2 at h
        split at h
        · cases hx; cases hy; cases h
          exact ⟨_, rfl, .int _ _⟩
        · cases h
  · rename_i x y
    obtain ⟨args'⟩ := args'
    cases ha with
    | cons hx t2 => cases t2 with
      | cons hy t3 =>
        cases t3
        unfold aMin2 at h
        split at h
        · cases hx; cases hy; cases h
          exact ⟨_, rfl, .int _ _⟩
        · cases h
  · cases h

theorem MRs.find {μ : Ren} {stamp : Nat} : ∀ {es : List (AV × AV × Nat)} {ces : List MapEntry}, MRs μ es ces → ∀ {e : AV × AV × Nat}, es.find? (fun e => e.2.2 == stamp) = some e → ∃ e', ces.find? (·.born == stamp) = some e' ∧ VR μ e.1 e'.key ∧ VR μ e.2.1 e'.val
  | _, _, .nil, e, h => by simp at h
  | _, _, .cons (b := b) hk hv t, e, h => by
    simp only [List.find?_cons] at h ⊢
    cases hb : b == stamp with
    | true =>
      simp only [hb, Option.some.injEq] at h
      subst h
      exact ⟨_, rfl, hk, hv⟩
    | false =>
      simp only [hb] at h
      exact t.find h

theorem aEntry_sim {w0 w : World} {μ : Ren} {σ : Store} (R : Rel w0 μ σ w) {it v : AV} {it' : Value} (hit : VR μ it it') (h : aEntry it σ = some v) : ∃ v', (Instr.entry it').run P w = .ok v' w ∧ VR μ v v' := by
  unfold aEntry at h
  split at h
  · rename_i r
    split at h
    · rename_i m since seen stepped hr
      split at h
      · rename_i stamp es clock hl hm
        split at h
        · rename_i hc
          subst hc
          split at h
          · rename_i e he
            cases h
            cases hit with
            | ptr hi =>
              rename_i L
              obtain ⟨h1, hd, m', h2, h3⟩ := R.obj r L _ hi hr
              cases m' with
              | none => exact h3.elim
              | some mb =>
                obtain ⟨Lm, h4, h5⟩ := h3
                subst h5
                obtain ⟨_, ces, h6, h7⟩ := R.obj m Lm _ h4 hm
                obtain ⟨e', h8, h9, h10⟩ := h7.find he
                refine ⟨.tuple #[e'.key, e'.val], ?_, .tup (.cons h9 (.cons h10 .nil))⟩
                have hobj : (getObj L.b).run P w = .ok (.mapIter (some Lm.b) since seen.toArray clock) w := by simp [getObj, Sem.run, h2]
                have hback : seen.toArray.back? = some stamp := by rw [List.back?_toArray]; exact hl
                have hfind : ces.find? (·.born == stamp) = some e' := by rw [← Array.find?_toList]; exact h8
                rw [hd]
                simp only [Instr.entry, Sem.run_bind, hobj, Result.andThen_ok, hback, run_getMap h6, bne_self_eq_false, Bool.false_eq_true, if_false, hfind, Nat.add_zero, Sem.run_ite, Sem.run_pure]
          · cases h
        · cases h
      · cases h
    · cases h
  · cases h

theorem aAssert_sim {μ : Ren} {x v : AV} {x' : Value} (hx : VR μ x x') {xT asserted : TypeId} {ok : Bool} (h : aAssert P x asserted ok = some v) (w : World) : ∃ v', (Instr.typeAssert x' xT asserted ok).run P w = .ok v' w ∧ VR μ v v' := by
  unfold aAssert at h
  split at h
  · cases h
  · rename_i d t v0 hd hu
    cases hx with
    | iface hv =>
      rename_i v0'
      split at h
      · rename_i e
        subst e
        cases h
        refine ⟨if ok then .tuple #[v0', .bool true] else v0', ?_, ?_⟩
        · simp only [Instr.typeAssert, Sem.run_bind, run_underlying hu, Result.andThen_ok]
          cases d <;> first | (exact absurd rfl (hd _)) | (exact (hd _ rfl).elim) | (simp only [if_true, Sem.run_pure]; done) | (simp; done)
        · cases ok
          · exact hv
          · exact .tup (.cons hv (.cons (.bool _) .nil))
      · rename_i hne
        split at h
        · rename_i hok
          split at h
          · rename_i z hz
            cases h
            obtain ⟨z', h1, h2⟩ := run_zero' hz w μ
            refine ⟨.tuple #[z', .bool false], ?_, .tup (.cons h2 (.cons (.bool _) .nil))⟩
            simp only [Instr.typeAssert, Sem.run_bind, run_underlying hu, Result.andThen_ok]
            cases d <;> first | (exact absurd rfl (hd _)) | (exact (hd _ rfl).elim) | (simp only [if_neg hne, hok, if_true, Sem.run_bind, h1, Result.andThen_ok, Sem.run_pure]; done) | (simp [hne, hok, h1]; done)
          · cases h
        · cases h
  · rename_i d hd hu
    cases hx
    split at h
    · rename_i hok
      split at h
      · rename_i z hz
        cases h
        obtain ⟨z', h1, h2⟩ := run_zero' hz w μ
        refine ⟨.tuple #[z', .bool false], ?_, .tup (.cons h2 (.cons (.bool _) .nil))⟩
        simp only [Instr.typeAssert, Sem.run_bind, run_underlying hu, Result.andThen_ok]
        cases d <;> first | (exact absurd rfl (hd _)) | (exact (hd _ rfl).elim) | (simp [hok, h1]; done)
      · cases h
    · cases h
  · cases h

theorem VRo_map {μ : Ren} {ρ : Operand → AV} {ρ' : Operand → Value} (x : Option Operand) (h : ∀ y, x = some y → VR μ (ρ y) (ρ' y)) : VRo μ (x.map ρ) (x.map ρ') := by
  cases x with
  | none => exact .none
  | some y => exact .some (h y rfl)

theorem aval_sim {w0 w : World} {μ : Ren} {σ : Store} (R : Rel w0 μ σ w) {ρ : Operand → AV} {ρ' : Operand → Value} {o : Oper} (hρ : ∀ x ∈ o.op.operands, VR μ (ρ x) (ρ' x)) {v : AV} (h : aval P ρ o.op σ = some v) :
    ∃ v', (execOp ρ' o).run P w = .ok (.value v') w ∧ VR μ v v' := by
  obtain ⟨dst, op, ty, pos, after, guard⟩ := o
  have hv : ∀ {s : Sem Value}, (∃ v', s.run P w = .ok v' w ∧ VR μ v v') → ∃ v', (do pure (Next.value (← s)) : Sem Next).run P w = .ok (.value v') w ∧ VR μ v v' := by
    rintro s ⟨v', h1, h2⟩
    exact ⟨v', by simp only [Sem.run_bind, h1]; rfl, h2⟩
  simp only at hρ h
  cases op <;> simp only [aval] at h <;> try (cases h; done)
  case move x => cases h; exact ⟨_, rfl, hρ x (by simp [Op.operands])⟩
  case assign x => cases h; exact ⟨_, rfl, hρ x (by simp [Op.operands])⟩
  case pick c a b =>
    unfold aPick at h
    split at h
    · rename_i t hc
      cases h
      have h1 := hρ c (by simp [Op.operands])
      rw [hc] at h1
      refine ⟨if t then ρ' a else ρ' b, ?_, ?_⟩
      · simp only [execOp, Sem.run_bind]
        generalize hcv : ρ' c = cv at *
        cases h1
        rfl
      · cases t
        · exact hρ b (by simp [Op.operands])
        · exact hρ a (by simp [Op.operands])
    · cases h
  case load t a => exact hv (aLoad_sim R (hρ a (by simp [Op.operands])) h)
  case nilCheck x =>
    have h1 := hρ x (by simp [Op.operands])
    unfold aNil at h
    split at h
    · rename_i i o e
      cases h
      rw [e] at h1
      refine ⟨ρ' x, ?_, h1⟩
      simp only [execOp]
      generalize ρ' x = xv at *
      cases h1
      rfl
    · rename_i i o e
      cases h
      rw [e] at h1
      refine ⟨ρ' x, ?_, h1⟩
      simp only [execOp]
      generalize ρ' x = xv at *
      cases h1
      rfl
    · rename_i f xs ys e
      cases h
      rw [e] at h1
      refine ⟨ρ' x, ?_, h1⟩
      simp only [execOp]
      generalize ρ' x = xv at *
      cases h1
      rfl
    · rename_i t v0 e
      cases h
      rw [e] at h1
      refine ⟨ρ' x, ?_, h1⟩
      simp only [execOp]
      generalize ρ' x = xv at *
      cases h1
      rfl
    · cases h
  case binOp op t x y yt => exact hv (aBin_sim (hρ x (by simp [Op.operands])) (hρ y (by simp [Op.operands])) h w)
  case unOp op t x => exact hv (aUn_sim (hρ x (by simp [Op.operands])) h w)
  case convert src dst x => exact hv (aConv_sim R (hρ x (by simp [Op.operands])) h)
  case makeInterface t x =>
    split at h
    · cases h
    · rename_i hi
      cases h
      refine hv ⟨.iface t (ρ' x), ?_, .iface (hρ x (by simp [Op.operands]))⟩
      unfold isIface at hi
      cases hu : P.underlying t with
      | none => simp [hu] at hi
      | some d =>
        simp only [hu] at hi
        simp only [Instr.makeInterface, Sem.run_bind, run_underlying hu, Result.andThen_ok]
        cases d <;> first | (simp [ifaceD] at hi; done) | rfl
  case makeFunc fn first captured =>
    cases h
    refine hv ⟨.func fn (first.map ρ') (captured.map ρ'), rfl, .fn ?_ ?_⟩
    · rw [Array.toList_map]; exact VRs_map _ fun x hx => hρ x (by simp only [Op.operands, Array.mem_append]; exact .inl (by simpa using hx))
    · rw [Array.toList_map]; exact VRs_map _ fun x hx => hρ x (by simp only [Op.operands, Array.mem_append]; exact .inr (by simpa using hx))
  case slice t x lo hi mx =>
    refine hv (aSlice_sim (hρ x (by simp [Op.operands])) (VRo_map lo fun y e => hρ y ?_) (VRo_map hi fun y e => hρ y ?_) (VRo_map mx fun y e => hρ y ?_) h w) <;> subst e <;> simp [Op.operands]
  case fieldAddr s x f => exact hv (aFieldAddr_sim (hρ x (by simp [Op.operands])) h w)
  case field s x f => exact hv (aField_sim (hρ x (by simp [Op.operands])) h w)
  case indexAddr t x ix => exact hv (aIndexAddr_sim (hρ x (by simp [Op.operands])) (hρ ix (by simp [Op.operands])) h w)
  case index t x ix => exact hv (aIndex_sim (hρ x (by simp [Op.operands])) (hρ ix (by simp [Op.operands])) h w)
  case lookup t m k ok => exact hv (aLookup_sim R (hρ m (by simp [Op.operands])) (hρ k (by simp [Op.operands])) h)
  case extract t i => exact hv (aExtract_sim (hρ t (by simp [Op.operands])) h w)
  case build t parts =>
    cases hb : aBuilt P t (parts.toList.map fun p => (p.1, ρ p.2)) with
    | none => simp [hb] at h
    | some cs =>
      simp only [hb, Option.map_some, Option.some.injEq] at h
      subst h
      obtain ⟨cs', h1, h2⟩ := aBuilt_sim (l' := parts.map fun p => (p.1, ρ' p.2)) (by rw [Array.toList_map]; exact VRp_map _ fun x hx => hρ x.2 (by simp only [Op.operands, List.mem_toArray, List.mem_map]; exact ⟨x, hx, rfl⟩)) hb w
      exact hv ⟨.agg cs', h1, .agg h2⟩
  case entry it => exact hv (aEntry_sim R (hρ it (by simp [Op.operands])) h)
  case typeAssert x xt asserted ok => exact hv (aAssert_sim (hρ x (by simp [Op.operands])) h w)
  case call c =>
    obtain ⟨callee, args, argTypes⟩ := c
    cases callee <;> simp only at h <;> try (cases h; done)
    rename_i b
    obtain ⟨v', h1, h2⟩ := aBuiltin_sim R (ty := ty) (cs := args.map fun | .const _ => true | _ => false) (args' := args.map ρ') (by rw [Array.toList_map]; exact VRs_map _ fun x hx => hρ x (by simp only [Op.operands, Call.operands, Array.mem_append]; exact .inr (by simpa using hx))) h
    refine ⟨v', ?_, h2⟩
    simp only [execOp, resolve, Sem.run_bind, Sem.run_pure, Result.andThen_ok, invoke]
    exact h1

end
end Go.Proofs.Ytbkmjmhoclflnaa.Fw
