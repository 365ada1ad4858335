/- The text run, as a program: what it gives is what the walk gives. -/
import Derived.Test.YtbkmjmhoclflnaaFw27
namespace Go.Proofs.Ytbkmjmhoclflnaa.Fw
open Go Go.RowKit
set_option linter.unusedVariables false
set_option linter.unusedSimpArgs false

abbrev XC := FuncId → List AV → Store → Option (AV × Store)
def XOk (call : CallT) (xc : XC) : Prop := ∀ g args σ v σ' (K : Kont), xc g args σ = some (v, σ') → K v σ' → call g args K σ

def xone : List (AV × Store) → Option (AV × Store)
  | [p] => some p
  | _ => none

def xeff (P : Program) (xc : XC) (ρ : Operand → AV) (o : Op) (σ : Store) : Option (AV × Store) :=
  match o with
  | .store t a v => (aStore P t (ρ a) (ρ v) σ).map fun s => (.tup [], s)
  | .mapUpdate t m k v | .insert t m k v => (aMapUpd P t (ρ m) (ρ k) (ρ v) σ).map fun s => (.tup [], s)
  | .range t x => (aRange P t (ρ x) σ).map fun o => (.ptr σ.length 0, σ ++ [o])
  | .next it isS => (aNext (ρ it) isS σ).bind xone
  | .call { callee := .builtin .append, args, argTypes } => match args.toList.map ρ with
    | [s, x] => aAppend P argTypes s x σ
    | _ => none
  | .call { callee := .builtin .copy, args, argTypes } => match args.toList.map ρ with
    | [d, s] => aCopy P argTypes d s σ
    | _ => none
  | .call { callee := .builtin .delete, args, argTypes } => match args.toList.map ρ, argTypes[0]? with
    | [m, k], some t => (aDelete P t m k σ).map fun s => (.tup [], s)
    | _, _ => none
  | .call { callee := .builtin .clear, args, argTypes } => match args.toList.map ρ, argTypes[0]? with
    | [x], some t => (aClear P t x σ).map fun s => (.tup [], s)
    | _, _ => none
  | .call { callee := .value f, args, argTypes } => match ρ f with
    | .fn (.func g) first captured => if callable P g then xc g (first ++ args.toList.map ρ ++ captured) σ else none
    | _ => none
  | .convert src dst x => (aMark P src dst (ρ x) σ).map fun v => (v, σ)
  | _ => none

def xop (P : Program) (xc : XC) (ρ : Operand → AV) (o : Op) (σ : Store) : Option (AV × Store) :=
  match opKind P o with
  | 0 => (aval P ρ o σ).map fun v => (v, σ)
  | 1 => (aalloc P ρ o).map fun r => (r.2 σ.length, σ ++ [r.1])
  | _ => xeff P xc ρ o σ

theorem xeff_ok {P : Program} {call : CallT} {xc : XC} (hx : XOk call xc) {ρ : Operand → AV} {o : Op} {σ σ' : Store} {v : AV} {K : Kont} (h : xeff P xc ρ o σ = some (v, σ')) (hK : K v σ') : aeff P call ρ o K σ := by
  unfold xeff at h
  split at h
  · unfold aeff
    simp only [Option.map_eq_some_iff, Prod.mk.injEq] at h
    obtain ⟨s, hs, rfl, rfl⟩ := h
    simp only [hs]; exact hK
  · unfold aeff
    simp only [Option.map_eq_some_iff, Prod.mk.injEq] at h
    obtain ⟨s, hs, rfl, rfl⟩ := h
    simp only [hs]; exact hK
  · unfold aeff
    simp only [Option.map_eq_some_iff, Prod.mk.injEq] at h
    obtain ⟨s, hs, rfl, rfl⟩ := h
    simp only [hs]; exact hK
  · unfold aeff
    simp only [Option.map_eq_some_iff, Prod.mk.injEq] at h
    obtain ⟨s, hs, rfl, rfl⟩ := h
    simp only [hs]; exact hK
  · unfold aeff
    simp only [Option.bind_eq_some_iff] at h
    obtain ⟨l, hl, h⟩ := h
    simp only [hl]
    unfold xone at h
    split at h
    · cases h
      intro p hp
      simp only [List.mem_singleton] at hp
      subst hp; exact hK
    · cases h
  · unfold aeff
    split at h
    · rename_i e; simp only [e, h]; exact hK
    · cases h
  · unfold aeff
    split at h
    · rename_i e; simp only [e, h]; exact hK
    · cases h
  · unfold aeff
    split at h
    · rename_i e1 e2
      simp only [Option.map_eq_some_iff, Prod.mk.injEq] at h
      obtain ⟨s, hs, rfl, rfl⟩ := h
      simp only [e1, e2, hs]; exact hK
    · cases h
  · unfold aeff
    split at h
    · rename_i e1 e2
      simp only [Option.map_eq_some_iff, Prod.mk.injEq] at h
      obtain ⟨s, hs, rfl, rfl⟩ := h
      simp only [e1, e2, hs]; exact hK
    · cases h
  · unfold aeff
    split at h
    · rename_i e
      split at h
      · rename_i c
        simp only [e, c, if_true]
        exact hx _ _ _ _ _ _ h hK
      · cases h
    · cases h
  · unfold aeff
    simp only [Option.map_eq_some_iff, Prod.mk.injEq] at h
    obtain ⟨s, hs, rfl, rfl⟩ := h
    simp only [hs]; exact hK
  · cases h

theorem xop_ok {P : Program} {call : CallT} {xc : XC} (hx : XOk call xc) {ρ : Operand → AV} {o : Op} {σ σ' : Store} {v : AV} {K : Kont} (h : xop P xc ρ o σ = some (v, σ') ) (hK : K v σ') : aexec P call ρ o K σ := by
  unfold xop at h
  unfold aexec
  split at h
  · rename_i e
    simp only [Option.map_eq_some_iff, Prod.mk.injEq] at h
    obtain ⟨s, hs, rfl, rfl⟩ := h
    rw [e]; simp only [hs]; exact hK
  · rename_i e
    simp only [Option.map_eq_some_iff, Prod.mk.injEq] at h
    obtain ⟨s, hs, rfl, rfl⟩ := h
    rw [e]; simp only [hs]; exact hK
  · rename_i e1 e2
    split
    · rename_i e; exact (e1 e).elim
    · rename_i e; exact (e2 e).elim
    · exact xeff_ok hx h hK

/-! ### Slots -/
def getE : List AV → Nat → AV
  | [], _ => .tup []
  | v :: _, 0 => v
  | _ :: l, t + 1 => getE l t
def setE : List AV → Nat → AV → List AV
  | [], 0, v => [v]
  | [], d + 1, v => .tup [] :: setE [] d v
  | _ :: l, 0, v => v :: l
  | x :: l, d + 1, v => x :: setE l d v
theorem getE_setE1 : ∀ (l : List AV) (d : Nat) (v : AV) (t : Nat), getE (setE l d v) t = if t = d then v else getE l t
  | [], 0, v, t => by cases t <;> simp [setE, getE]
  | [], d + 1, v, t => by
    cases t with
    | zero => simp [setE, getE]
    | succ t => simp only [setE, getE, getE_setE1 [] d v t, Nat.add_right_cancel_iff]
  | x :: l, 0, v, t => by cases t <;> simp [setE, getE]
  | x :: l, d + 1, v, t => by
    cases t with
    | zero => simp [setE, getE]
    | succ t => simp only [setE, getE, getE_setE1 l d v t, Nat.add_right_cancel_iff]
theorem getE_setE (l : List AV) (d : Nat) (v : AV) : getE (setE l d v) = upd (getE l) d v := funext fun t => getE_setE1 l d v t
theorem getE_env0 : ∀ (l : List AV), getE l = env0 l := by
  intro l
  funext t
  unfold env0
  induction l generalizing t with
  | nil => simp [getE]
  | cons x l ih => cases t with
    | zero => simp [getE]
    | succ t => simpa [getE] using ih t

def xput (n : Nat) (l : List AV) (dst : Option Tmp) (v : AV) : Option (List AV) := match dst with
  | none => some l
  | some d => if d < n then some (setE l d v) else none
theorem xput_ok {n : Nat} {l l' : List AV} {dst : Option Tmp} {v : AV} {K : Env → Prop} (h : xput n l dst v = some l') (hK : K (getE l')) : putK n (getE l) dst v K := by
  unfold xput at h
  unfold putK
  split at h
  · cases h; exact hK
  · split at h
    · rename_i c; cases h; rw [getE_setE] at hK; simp only [c, if_true]; exact hK
    · cases h

def xgd (g : Option (Option Tmp × Bool)) (l : List AV) : Option Bool := match g with
  | none => some true
  | some (none, _) => some false
  | some (some t, want) => match getE l t with
    | .bool b => some (b == want)
    | .tup [] => some false
    | _ => none
theorem xgd_true {g : Option (Option Tmp × Bool)} {l : List AV} {y n : Prop} (h : xgd g l = some true) (hy : y) : gd g (getE l) y n := by
  unfold xgd at h; unfold gd
  split at h
  · exact hy
  · cases h
  · split at h
    · rename_i e; simp only [e]; simp only [Option.some.injEq] at h; rw [h]; exact hy
    · cases h
    · cases h
theorem xgd_false {g : Option (Option Tmp × Bool)} {l : List AV} {y n : Prop} (h : xgd g l = some false) (hn : n) : gd g (getE l) y n := by
  unfold xgd at h; unfold gd
  split at h
  · cases h
  · exact hn
  · split at h
    · rename_i e; simp only [e]; simp only [Option.some.injEq] at h; rw [h]; exact hn
    · rename_i e; simp only [e]; exact hn
    · cases h

/-! ### Read again -/
def xsame1 : AV → AV → Bool
  | .bool a, .bool b => a == b
  | .int k a, .int k' b => k == k' && a == b
  | .str a, .str b => a == b
  | .ptr a b, .ptr c d => a == c && b == d
  | .sl a b c d, .sl a' b' c' d' => a == a' && b == b' && c == c' && decide (d = d')
  | .map a, .map b => a == b
  | .slNil, .slNil | .sle, .sle | .ptrNil, .ptrNil | .fnNil, .fnNil | .mapNil, .mapNil | .ifaceNil, .ifaceNil | .bad, .bad => true
  | _, _ => false
theorem xsame1_ok {a b : AV} (h : xsame1 a b = true) : a = b := by
  unfold xsame1 at h
  split at h <;> simp_all
def xsames : List AV → List AV → Bool
  | [], [] => true
  | x :: xs, y :: ys => xsame1 x y && xsames xs ys
  | _, _ => false
theorem xsames_ok : ∀ {a b : List AV}, xsames a b = true → a = b
  | [], [], _ => rfl
  | [], _ :: _, h => by simp [xsames] at h
  | _ :: _, [], h => by simp [xsames] at h
  | x :: xs, y :: ys, h => by
    simp only [xsames, Bool.and_eq_true] at h
    rw [xsame1_ok h.1, xsames_ok h.2]
def xrows : List (List AV) → List (List AV) → Bool
  | [], [] => true
  | x :: xs, y :: ys => xsames x y && xrows xs ys
  | _, _ => false
theorem xrows_ok : ∀ {a b : List (List AV)}, xrows a b = true → a = b
  | [], [], _ => rfl
  | [], _ :: _, h => by simp [xrows] at h
  | _ :: _, [], h => by simp [xrows] at h
  | x :: xs, y :: ys, h => by
    simp only [xrows, Bool.and_eq_true] at h
    rw [xsames_ok h.1, xrows_ok h.2]
def xsame (a b : AV) : Bool := match a, b with
  | .agg xs, .agg ys => xsames xs ys
  | .tup xs, .tup ys => xsames xs ys
  | .im k xs c, .im k' ys c' => k == k' && xrows xs ys && decide (c = c')
  | .imp r o, .imp r' o' => xsames r r' && o == o'
  | a, b => xsame1 a b
theorem xsame_ok {a b : AV} (h : xsame a b = true) : a = b := by
  unfold xsame at h
  split at h
  · rw [xsames_ok h]
  · rw [xsames_ok h]
  · simp only [Bool.and_eq_true, beq_iff_eq, decide_eq_true_eq] at h
    obtain ⟨⟨rfl, h2⟩, rfl⟩ := h
    rw [xrows_ok h2]
  · simp only [Bool.and_eq_true, beq_iff_eq] at h
    obtain ⟨h2, rfl⟩ := h
    rw [xsames_ok h2]
  · exact xsame1_ok h
def xsameO : Option AObj → Option AObj → Bool
  | none, none => true
  | some (.cells a t), some (.cells b t') => xsames a b && t == t'
  | _, _ => false
theorem xsameO_ok {a b : Option AObj} (h : xsameO a b = true) : a = b := by
  unfold xsameO at h
  split at h
  · rfl
  · simp only [Bool.and_eq_true, beq_iff_eq] at h
    obtain ⟨h, rfl⟩ := h
    rw [xsames_ok h]
  · cases h

def xck1 (P : Program) (l : List AV) (σ σ' : Store) (c : Ck) : Bool := match xgd c.guard l with
  | some true => match c.dst with
    | some d => if c.one then (match avId (getE l d) with
        | some id => xsameO σ'[id]? σ[id]?
        | none => false) else (match aval P (aeval (getE l)) c.op σ' with
        | some v => xsame v (getE l d)
        | none => false)
    | none => false
  | some false => true
  | none => false
def xcks (P : Program) (l : List AV) (σ σ' : Store) : List Ck → Bool
  | [] => true
  | c :: r => xck1 P l σ σ' c && xcks P l σ σ' r
theorem xck1_ok {P : Program} {l : List AV} {σ σ' : Store} {c : Ck} (h : xck1 P l σ σ' c = true) : ckOne P (getE l) σ σ' c := by
  unfold xck1 at h
  unfold ckOne
  split at h
  · rename_i hg
    refine xgd_true hg ?_
    split at h
    · rename_i d hd
      simp only [hd]
      split at h
      · rename_i ho
        simp only [ho, if_true]
        split at h
        · rename_i hi; simp only [hi]; exact xsameO_ok h
        · cases h
      · rename_i ho
        simp only [ho, Bool.false_eq_true, if_false]
        split at h
        · rename_i hv; rw [hv, xsame_ok h]
        · cases h
    · cases h
  · rename_i hg
    exact xgd_false hg trivial
  · cases h
theorem xcks_ok {P : Program} {l : List AV} {σ σ' : Store} : ∀ {c : List Ck}, xcks P l σ σ' c = true → ckAll P (getE l) σ σ' c
  | [], _ => trivial
  | c :: r, h => by
    simp only [xcks, Bool.and_eq_true] at h
    exact ⟨xck1_ok h.1, xcks_ok h.2⟩

/-! ### Code -/
def xS (P : Program) (xc : XC) (n : Nat) : List St → List AV → Store → Option (List AV × Store)
  | [], l, σ => some (l, σ)
  | s :: r, l, σ => match xgd s.guard l with
    | some true => match xop P xc (aeval (getE l)) s.op σ with
      | some (v, σ') => if xcks P l σ σ' s.chk then match xput n l s.dst v with
          | some l' => xS P xc n r l' σ'
          | none => none
        else none
      | none => none
    | some false => match xput n l s.dst (.tup []) with
      | some l' => xS P xc n r l' σ
      | none => none
    | none => none

theorem xS_ok {P : Program} {call : CallT} {xc : XC} (hx : XOk call xc) {n : Nat} : ∀ {s : List St} {l l' : List AV} {σ σ' : Store} {K : Env → Store → Prop}, xS P xc n s l σ = some (l', σ') → K (getE l') σ' → wpS P call n s K (getE l) σ
  | [], l, l', σ, σ', K, h, hK => by cases h; exact hK
  | s :: r, l, l', σ, σ', K, h, hK => by
    unfold xS at h
    unfold wpS
    split at h
    · rename_i hg
      refine xgd_true hg ?_
      split at h
      · rename_i v σ1 ho
        refine xop_ok hx ho ?_
        split at h
        · rename_i hc
          refine ⟨xcks_ok hc, ?_⟩
          split at h
          · rename_i l1 hp
            exact xput_ok hp (xS_ok hx h hK)
          · cases h
        · cases h
      · cases h
    · rename_i hg
      refine xgd_false hg ?_
      split at h
      · rename_i l1 hp
        exact xput_ok hp (xS_ok hx h hK)
      · cases h
    · cases h

def xstep (P : Program) (xc : XC) (n : Nat) (ih : Cd → List AV → Store → Option (AX × List AV × Store)) (c : Cd) (l : List AV) (σ : Store) : Option (AX × List AV × Store) :=
  match c with
  | .skip => some (.normal, l, σ)
  | .sts s => match xS P xc n s l σ with
    | some (l', σ') => some (.normal, l', σ')
    | none => none
  | .seq a b => match ih a l σ with
    | some (.normal, l', σ') => ih b l' σ'
    | r => r
  | .cond c t e => match aeval (getE l) c with
    | .bool true => ih t l σ
    | .bool false => ih e l σ
    | _ => none
  | .block id c => match ih c l σ with
    | some (.exit j, l', σ') => if j = id then some (.normal, l', σ') else some (.exit j, l', σ')
    | r => r
  | .loop c => match ih c l σ with
    | some (.normal, l', σ') => ih (.loop c) l' σ'
    | r => r
  | .exit id => some (.exit id, l, σ)
  | .ret => some (.ret, l, σ)

def xD (P : Program) (xc : XC) (n : Nat) : Nat → Cd → List AV → Store → Option (AX × List AV × Store)
  | 0 => fun _ _ _ => none
  | f + 1 => xstep P xc n (xD P xc n f)

theorem xD_ok {P : Program} {call : CallT} {xc : XC} (hx : XOk call xc) {n : Nat} : ∀ (f : Nat) {c : Cd} {l l' : List AV} {σ σ' : Store} {e : AX} {K : KontX}, xD P xc n f c l σ = some (e, l', σ') → K e (getE l') σ' → wpD P call n c K (getE l) σ
  | 0, c, l, l', σ, σ', e, K, h, hK => by cases h
  | f + 1, c, l, l', σ, σ', e, K, h, hK => by
    have ih := @xD_ok P call xc hx n f
    change xstep P xc n (xD P xc n f) c l σ = _ at h
    unfold xstep at h
    split at h
    · cases h; exact hK
    · split at h
      · rename_i hs; cases h; exact xS_ok hx hs hK
      · cases h
    · rename_i a b
      show wpD P call n a (contS (wpD P call n b K) K) (getE l) σ
      cases hA : xD P xc n f a l σ with
      | none => rw [hA] at h; cases h
      | some r =>
        obtain ⟨e1, l1, σ1⟩ := r
        rw [hA] at h
        refine ih hA ?_
        cases e1 with
        | normal => exact ih h hK
        | exit i => cases h; exact hK
        | ret => cases h; exact hK
    · split at h
      · rename_i hc
        show cv (aeval (getE l) _) _ _
        rw [hc]; exact ih h hK
      · rename_i hc
        show cv (aeval (getE l) _) _ _
        rw [hc]; exact ih h hK
      · cases h
    · rename_i id c
      show wpD P call n c (contB id K) (getE l) σ
      cases hA : xD P xc n f c l σ with
      | none => rw [hA] at h; cases h
      | some r =>
        obtain ⟨e1, l1, σ1⟩ := r
        rw [hA] at h
        refine ih hA ?_
        cases e1 with
        | normal => cases h; exact hK
        | exit j =>
          show (if _ then _ else _)
          by_cases hj : j = id
          · simp only [hj, if_true] at h ⊢; cases h; exact hK
          · simp only [hj, if_false] at h ⊢; cases h; exact hK
        | ret => cases h; exact hK
    · rename_i c
      show aloop _ _ _ _
      intro X hX hW
      refine hX _ _ ?_
      cases hA : xD P xc n f c l σ with
      | none => rw [hA] at h; cases h
      | some r =>
        obtain ⟨e1, l1, σ1⟩ := r
        rw [hA] at h
        refine ih hA ?_
        cases e1 with
        | normal =>
          have h3 : wpD P call n (.loop c) K (getE l1) σ1 := ih h hK
          exact h3 X hX hW
        | exit i => cases h; exact hK
        | ret => cases h; exact hK
    · cases h; exact hK
    · cases h; exact hK

/-! ### Calls -/
abbrev CodeT := FuncId → Option (Nat × Cd × List ResultVar)
def CodeOk (P : Program) (T : Table) (code : CodeT) : Prop := ∀ f m d rs, code f = some (m, d, rs) → T f = none ∧ ∃ fn, P.funcs[f]? = some fn ∧ fn.body.bind (compile P) = some d ∧ fn.ntmps = m ∧ fn.results.toList = rs

def xret : Option (List AV) → Option AV
  | some [v] => some v
  | some vs => some (.tup vs)
  | none => none

def xcall (P : Program) (code : CodeT) (F : Nat) : Nat → XC
  | 0 => fun _ _ _ => none
  | k + 1 => fun f args σ => match code f with
    | some (m, d, rs) => if args.length ≤ m then match xD P (xcall P code F k) m F d args σ with
        | some (.exit _, _, _) => none
        | some (_, l, σ') => match xret (aresL P (getE l) σ' rs) with
          | some v => some (v, σ')
          | none => none
        | none => none
      else none
    | none => none

theorem xret_ok {P : Program} {rs : List ResultVar} {K : Kont} {env : Env} {σ : Store} {v : AV} {e : AX} (he : ∀ i, e ≠ .exit i) (h : xret (aresL P env σ rs) = some v) (hK : K v σ) : retD P rs K e env σ := by
  unfold xret at h
  have : (match aresL P env σ rs with
    | some [v] => K v σ
    | some vs => K (.tup vs) σ
    | none => False) := by
    split at h
    · cases h; exact hK
    · rename_i vs hne h1
      cases h
      exact hK
    · cases h
  cases e with
  | exit i => exact (he i rfl).elim
  | normal => exact this
  | ret => exact this

theorem xcall_ok {P : Program} {T : Table} {code : CodeT} (hc : CodeOk P T code) {F : Nat} : ∀ k, XOk (acall P T) (xcall P code F k)
  | 0 => fun _ _ _ _ _ _ h _ => by cases h
  | k + 1 => by
    intro f args σ v σ' K h hK
    have ih := xcall_ok hc (F := F) k
    change (match code f with
    | some (m, d, rs) => if args.length ≤ m then match xD P (xcall P code F k) m F d args σ with
        | some (.exit _, _, _) => none
        | some (_, l, σ') => match xret (aresL P (getE l) σ' rs) with
          | some v => some (v, σ')
          | none => none
        | none => none
      else none
    | none => none) = _ at h
    split at h
    · rename_i m d rs hcf
      obtain ⟨h1, fn, h2, h3, h4, h5⟩ := hc _ _ _ _ hcf
      split at h
      · rename_i hl
        refine acall_of h1 h2 h3 h4 h5 hl ?_
        rw [← getE_env0]
        cases hd : xD P (xcall P code F k) m F d args σ with
        | none => rw [hd] at h; cases h
        | some r =>
          obtain ⟨e, l, σ1⟩ := r
          rw [hd] at h
          cases e with
          | exit i => cases h
          | normal =>
            simp only at h
            split at h
            · rename_i v hv
              cases h
              exact xD_ok ih F hd (xret_ok (fun i hi => by cases hi) hv hK)
            · cases h
          | ret =>
            simp only at h
            split at h
            · rename_i v hv
              cases h
              exact xD_ok ih F hd (xret_ok (fun i hi => by cases hi) hv hK)
            · cases h
      · cases h
    · cases h

/-- The texts, straight from the program. -/
def codeP (P : Program) : CodeT := fun f => match P.funcs[f]? with
  | some fn => match fn.body.bind (compile P) with
    | some d => some (fn.ntmps, d, fn.results.toList)
    | none => none
  | none => none
theorem codeP_ok (P : Program) {T : Table} (hT : ∀ f, T f = none) : CodeOk P T (codeP P) := by
  intro f m d rs h
  unfold codeP at h
  refine ⟨hT f, ?_⟩
  split at h
  · rename_i fn hf
    split at h
    · rename_i d' hd
      cases h
      exact ⟨fn, hf, hd, rfl, rfl⟩
    · cases h
  · cases h
end Go.Proofs.Ytbkmjmhoclflnaa.Fw
