/- Code with its guards and orders worked out: what it says follows into the code. -/
import Derived.Test.YtbkmjmhoclflnaaFw19
namespace Go.Proofs.Ytbkmjmhoclflnaa.Fw
open Go Go.RowKit
set_option linter.unusedVariables false
set_option linter.unusedSimpArgs false

/-! ### Words in which the walk halts where something is not known yet -/
def ob {α : Type} (o : Option α) (k : α → Prop) : Prop := match o with
  | some v => k v
  | none => False
/-- A choice by a bool. -/
def cs (b : Bool) (y n : Prop) : Prop := match b with
  | true => y
  | false => n
/-- A choice by a value. -/
def cv (v : AV) (y n : Prop) : Prop := match v with
  | .bool b => cs b y n
  | _ => False

theorem ob_some {α : Type} (v : α) (k : α → Prop) : ob (some v) k = k v := rfl
theorem ob_of {α : Type} {o : Option α} {v : α} (h : o = some v) {k : α → Prop} (hk : k v) : ob o k := by subst h; exact hk
theorem ob_congr {α : Type} {o o' : Option α} (h : o = o') (k : α → Prop) : ob o k = ob o' k := by rw [h]
theorem cs_true (y n : Prop) : cs true y n = y := rfl
theorem cs_false (y n : Prop) : cs false y n = n := rfl
theorem cs_congr {b b' : Bool} (h : b = b') (y n : Prop) : cs b y n = cs b' y n := by rw [h]
theorem cs_intro {b : Bool} {y n : Prop} (hy : b = true → y) (hn : b = false → n) : cs b y n := by
  cases b
  · exact hn rfl
  · exact hy rfl
theorem cv_bool (b : Bool) (y n : Prop) : cv (.bool b) y n = cs b y n := rfl
theorem cv_congr {v v' : AV} (h : v = v') (y n : Prop) : cv v y n = cv v' y n := by rw [h]

/-- What is read again. -/
structure Ck where
  dst : Option Tmp
  op : Op
  guard : Option (Option Tmp × Bool)
  one : Bool

structure St where
  dst : Option Tmp
  op : Op
  /-- A guard: its slot (if it has one), and what is wanted. -/
  guard : Option (Option Tmp × Bool)
  /-- What is read again behind it. -/
  chk : List Ck

inductive Cd where
  | skip
  | sts (l : List St)
  | seq (a b : Cd)
  | cond (c : Operand) (t e : Cd)
  | block (id : Nat) (c : Cd)
  | loop (c : Cd)
  | exit (id : Nat)
  | ret

def stOf (ops : Array Oper) (o : Oper) (chk : List Ck) : St := ⟨o.dst, o.op, o.guard.map fun g => ((ops[g.1]?).bind (·.dst), g.2), chk⟩
def ckOf (P : Program) (ops : Array Oper) (o : Oper) : Ck := ⟨o.dst, o.op, o.guard.map fun g => ((ops[g.1]?).bind (·.dst), g.2), opKind P o.op == 1⟩
def cksOf (P : Program) (ops : Array Oper) : List Nat → List Ck
  | [] => []
  | j :: r => match ops[j]? with
    | some o => ckOf P ops o :: cksOf P ops r
    | none => cksOf P ops r

/-- The order in which a drawn region is gone through. -/
def sched (P : Program) (ops : Array Oper) : Nat → Array Bool → Option (List St)
  | 0, _ => none
  | f + 1, listed => match (Region.ready .any ops listed).find? (floatAt P ops), Region.ready .any ops listed with
    | some i, _ => match ops[i]? with
      | some o => (sched P ops f (listed.setIfInBounds i true)).map (stOf ops o [] :: ·)
      | none => none
    | none, [] => some []
    | none, [i] => match ops[i]? with
      | some o => (sched P ops f (listed.setIfInBounds i true)).map (stOf ops o (cksOf P ops ((List.range ops.size).filter (again P ops listed i))) :: ·)
      | none => none
    | none, _ => none

def compile (P : Program) : Code → Option Cd
  | .skip => some .skip
  | .label _ => some .skip
  | .region _ ops draw => if draw then (if drawOk P ops then (sched P ops (ops.size + 1) (Array.replicate ops.size false)).map .sts else none)
      else some (.sts (ops.toList.map fun o => stOf ops o []))
  | .seq a b => match compile P a, compile P b with
    | some x, some y => some (.seq x y)
    | _, _ => none
  | .cond c t e => match compile P t, compile P e with
    | some x, some y => some (.cond c x y)
    | _, _ => none
  | .block id c => (compile P c).map (.block id)
  | .loop c => (compile P c).map .loop
  | .exit id => some (.exit id)
  | .ret => some .ret
  | .scope c => compile P c
  | _ => none

def gd (g : Option (Option Tmp × Bool)) (env : Env) (y n : Prop) : Prop :=
  match g with
  | none => y
  | some (none, _) => n
  | some (some t, want) => match env t with
    | .bool b => cs (b == want) y n
    | .tup [] => n
    | _ => False

def ckOne (P : Program) (env : Env) (σ σ' : Store) (c : Ck) : Prop := gd c.guard env (match c.dst with
  | some d => if c.one then (match avId (env d) with
      | some id => σ'[id]? = σ[id]?
      | none => False) else aval P (aeval env) c.op σ' = some (env d)
  | none => False) True
def ckAll (P : Program) (env : Env) (σ σ' : Store) : List Ck → Prop
  | [] => True
  | c :: r => ckOne P env σ σ' c ∧ ckAll P env σ σ' r

section
variable (P : Program) (call : CallT) (n : Nat)

def wpS : List St → (Env → Store → Prop) → Env → Store → Prop
  | [], K, env, σ => K env σ
  | s :: r, K, env, σ => gd s.guard env
      (aexec P call (aeval env) s.op (fun v σ' => ckAll P env σ σ' s.chk ∧ putK n env s.dst v fun e => wpS r K e σ') σ)
      (putK n env s.dst (.tup []) fun e => wpS r K e σ)

def wpD : Cd → KontX → Env → Store → Prop
  | .skip, K, env, σ => K .normal env σ
  | .sts l, K, env, σ => wpS P call n l (K .normal) env σ
  | .seq a b, K, env, σ => wpD a (contS (wpD b K) K) env σ
  | .cond c t e, K, env, σ => cv (aeval env c) (wpD t K env σ) (wpD e K env σ)
  | .block id c, K, env, σ => wpD c (contB id K) env σ
  | .loop c, K, env, σ => aloop (wpD c) K env σ
  | .exit id, K, env, σ => K (.exit id) env σ
  | .ret, K, env, σ => K .ret env σ
end

section
variable {P : Program} {call : CallT} {n : Nat}

theorem gd_of {ops : Array Oper} {o : Oper} {chk : List Ck} {env : Env} {y n : Prop} (h : gd (stOf ops o chk).guard env y n) :
    (guardOf ops o env = some true ∧ y) ∨ (guardOf ops o env = some false ∧ n) := by
  unfold gd stOf at h
  unfold guardOf
  cases hg : o.guard with
  | none => simp only [hg, Option.map_none] at h; exact .inl ⟨rfl, h⟩
  | some jw =>
    obtain ⟨j, want⟩ := jw
    simp only [hg, Option.map_some] at h
    simp only
    cases ht : (ops[j]?).bind (·.dst) with
    | none => simp only [ht] at h; exact .inr ⟨rfl, h⟩
    | some t =>
      simp only [ht] at h
      simp only
      split at h
      · rename_i b e
        rw [e]
        unfold cs at h
        cases hb : b == want
        · rw [hb] at h; exact .inr ⟨by simp [hb], h⟩
        · rw [hb] at h; exact .inl ⟨by simp [hb], h⟩
      · rename_i e; rw [e]; exact .inr ⟨rfl, h⟩
      · exact h.elim

theorem chk_true {ops : Array Oper} {env : Env} {σ σ' : Store} : ∀ {l : List Nat}, ckAll P env σ σ' (cksOf P ops l) → againAll P ops env σ σ' l
  | [], _ => trivial
  | j :: r, h => by
    unfold cksOf at h
    unfold againAll againOne
    cases ho : ops[j]? with
    | none => simp only [ho] at h; exact ⟨trivial, chk_true h⟩
    | some o =>
      simp only [ho] at h
      refine ⟨?_, chk_true h.2⟩
      have h1 := h.1
      simp only
      unfold ckOne at h1
      rcases gd_of (ops := ops) (o := o) (chk := []) h1 with ⟨e, h2⟩ | ⟨e, h2⟩
      · rw [e]
        have hd : (ckOf P ops o).dst = o.dst := rfl
        have ho' : (ckOf P ops o).op = o.op := rfl
        have h1' : (ckOf P ops o).one = (opKind P o.op == 1) := rfl
        rw [hd, ho', h1'] at h2
        cases hdst : o.dst with
        | none => rw [hdst] at h2; exact h2.elim
        | some d =>
          rw [hdst] at h2
          simp only [beq_iff_eq] at h2 ⊢
          exact h2
      · rw [e]
        trivial

theorem wpS_plain (hc : CallLe call call) {ops : Array Oper} {K : Env → Store → Prop} : ∀ (l : List Oper) {env : Env} {σ : Store}, wpS P call n (l.map fun o => stOf ops o []) K env σ → aops P call n ops l K env σ
  | [], _, _, h => h
  | o :: r, env, σ, h => by
    simp only [List.map_cons] at h
    unfold wpS at h
    unfold aops
    rcases gd_of h with ⟨e, h⟩ | ⟨e, h⟩
    · rw [e]
      exact aexec_mono hc (fun v σ' q => putK_mono (fun e' q' => wpS_plain hc r q') q.2) h
    · rw [e]
      exact putK_mono (fun e' q' => wpS_plain hc r q') h

theorem opKind_eff {o : Op} : isEff P o = false → (opKind P o = 0 ∨ opKind P o = 1) := by
  intro h
  unfold isEff at h
  simp only [Bool.or_eq_false_iff, beq_eq_false_iff_ne, ne_eq] at h
  have h1 := h.1
  clear h
  unfold opKind at h1 ⊢
  split
  all_goals simp_all
  all_goals (repeat' split) <;> simp_all
  all_goals (repeat' split) <;> simp_all

theorem wpS_drawn (hc : CallLe call call) {ops : Array Oper} {K : Env → Store → Prop} : ∀ (f : Nat) {listed : Array Bool} {l : List St} {env : Env} {σ : Store}, sched P ops f listed = some l → wpS P call n l K env σ → adraw P call n ops f listed K env σ
  | 0, _, _, _, _, e, _ => by cases e
  | f + 1, listed, l, env, σ, e, h => by
    unfold sched at e
    unfold adraw
    split at e
    · rename_i i hi
      split at e
      · rename_i o ho
        cases hs : sched P ops f (listed.setIfInBounds i true) with
        | none => simp [hs] at e
        | some l' =>
          simp only [hs, Option.map_some, Option.some.injEq] at e
          subst e
          unfold wpS at h
          rw [hi]
          simp only [ho]
          have hfl : isEff P o.op = false := by
            have := List.find?_some hi
            simpa [floatAt, ho] using this
          rcases gd_of h with ⟨eg, h⟩ | ⟨eg, h⟩
          · rw [eg]
            simp only
            have hso : (stOf ops o []).op = o.op := rfl
            unfold aexec at h
            rw [hso] at h
            rcases opKind_eff hfl with hk | hk
            · rw [hk] at h
              simp only at h
              have h0 : ¬ (opKind P o.op = 1) := by omega
              rw [if_neg h0]
              split at h
              · rename_i v hv
                rw [show aval P (aeval env) o.op σ = some v from hv]
                exact putK_mono (fun e' q' => wpS_drawn hc f hs q') h.2
              · exact h.elim
            · rw [hk] at h
              simp only at h
              rw [if_pos hk]
              split at h
              · rename_i r hr
                rw [show aalloc P (aeval env) o.op = some r from hr]
                exact putK_mono (fun e' q' => wpS_drawn hc f hs q') h.2
              · exact h.elim
          · rw [eg]
            exact putK_mono (fun e' q' => wpS_drawn hc f hs q') h
      · cases e
    · rename_i hi hr
      cases e
      rw [hi, hr]
      exact h
    · rename_i i hi hr
      split at e
      · rename_i o ho
        cases hs : sched P ops f (listed.setIfInBounds i true) with
        | none => simp [hs] at e
        | some l' =>
          simp only [hs, Option.map_some, Option.some.injEq] at e
          subst e
          unfold wpS at h
          rw [hi, hr]
          simp only [ho]
          rcases gd_of h with ⟨eg, h⟩ | ⟨eg, h⟩
          · rw [eg]
            exact aexec_mono hc (fun v σ' q => ⟨chk_true q.1, putK_mono (fun e' q' => wpS_drawn hc f hs q') q.2⟩) h
          · rw [eg]
            exact putK_mono (fun e' q' => wpS_drawn hc f hs q') h
      · cases e
    · cases e

theorem wpD_sound (hc : CallLe call call) : ∀ (c : Code) {d : Cd} {K : KontX} {env : Env} {σ : Store}, compile P c = some d → wpD P call n d K env σ → awpC P call n c K env σ := by
  intro c
  induction c with
  | skip => intro d K env σ e h; cases e; exact h
  | label l => intro d K env σ e h; cases e; exact h
  | region id ops draw =>
    intro d K env σ e h
    unfold compile at e
    unfold awpC
    split at e
    · rename_i hd
      rw [if_pos hd]
      split at e
      · rename_i hok
        cases hs : sched P ops (ops.size + 1) (Array.replicate ops.size false) with
        | none => simp [hs] at e
        | some l =>
          simp only [hs, Option.map_some, Option.some.injEq] at e
          subst e
          exact ⟨hok, wpS_drawn hc _ hs h⟩
      · cases e
    · rename_i hd
      rw [if_neg hd]
      cases e
      exact wpS_plain hc _ h
  | seq a b iha ihb =>
    intro d K env σ e h
    unfold compile at e
    split at e
    · rename_i x y hx hy
      cases e
      unfold awpC
      refine awpC_mono hc a ?_ (iha hx h)
      intro e env σ q
      cases e with
      | normal => exact ihb hy q
      | exit i => exact q
      | ret => exact q
    · cases e
  | cond c t e iht ihe =>
    intro d K env σ e' h
    unfold compile at e'
    split at e'
    · rename_i x y hx hy
      cases e'
      unfold wpD cv at h
      unfold awpC
      split at h
      · rename_i b hb
        rw [hb]
        cases b
        · exact ihe hy h
        · exact iht hx h
      · exact h.elim
    · cases e'
  | block id c ih =>
    intro d K env σ e h
    unfold compile at e
    cases hx : compile P c with
    | none => simp [hx] at e
    | some x =>
      simp only [hx, Option.map_some, Option.some.injEq] at e
      subst e
      exact ih hx h
  | loop c ih =>
    intro d K env σ e h
    unfold compile at e
    cases hx : compile P c with
    | none => simp [hx] at e
    | some x =>
      simp only [hx, Option.map_some, Option.some.injEq] at e
      subst e
      intro Z hZ hW
      exact h Z (fun env σ q => hZ env σ (ih hx q)) hW
  | rangeFunc f ps a b _ _ => intro d K env σ e; cases e
  | exit id => intro d K env σ e h; cases e; exact h
  | scope c ih => intro d K env σ e h; exact ih e h
  | goto l => intro d K env σ e; cases e
  | ret => intro d K env σ e h; cases e; exact h
  | refuse r => intro d K env σ e; cases e

/-- What a function answers. -/
def retD (P : Program) (rs : List ResultVar) (K : Kont) : KontX := fun e env σ => match e with
  | .exit _ => False
  | _ => match aresL P env σ rs with
    | some [v] => K v σ
    | some vs => K (.tup vs) σ
    | none => False

/-- A call, by its function's text worked out. -/
theorem acall_text {T : Table} {f : FuncId} {fn : Func} {c : Code} {d : Cd} {m : Nat} {rs : List ResultVar} (hT : T f = none) (hf : P.funcs[f]? = some fn) (hb : fn.body = some c) (hd : compile P c = some d) (hm : fn.ntmps = m) (hrs : fn.results.toList = rs)
    {args : List AV} {K : Kont} {σ : Store} (hl : args.length ≤ m) (h : wpD P (acall P T) m d (retD P rs K) (env0 args) σ) : acall P T f args K σ := by
  refine acall_intro ?_
  unfold astep abody
  rw [hT, hf]
  simp only [hb, hm, hl, if_true]
  subst hrs
  have hcl : CallLe (acall P T) (acall P T) := fun f args K K' σ hK q => acall_mono q hK
  refine wpD_sound hcl c hd ?_
  have : retK P fn K = retD P fn.results.toList K := by
    funext e env σ
    cases e <;> rfl
  rw [this]
  exact h

theorem acall_of {T : Table} {f : FuncId} {fn : Func} {d : Cd} {m : Nat} {rs : List ResultVar} (hT : T f = none) (hf : P.funcs[f]? = some fn) (hd : fn.body.bind (compile P) = some d) (hm : fn.ntmps = m) (hrs : fn.results.toList = rs)
    {args : List AV} {K : Kont} {σ : Store} (hl : args.length ≤ m) (h : wpD P (acall P T) m d (retD P rs K) (env0 args) σ) : acall P T f args K σ := by
  cases hb : fn.body with
  | none => rw [hb] at hd; cases hd
  | some c => exact acall_text hT hf hb (by rw [hb] at hd; exact hd) hm hrs hl h

theorem gd_mono {g : Option (Option Tmp × Bool)} {env : Env} {y n y' n' : Prop} (hy : y → y') (hn : n → n') (h : gd g env y n) : gd g env y' n' := by
  unfold gd at h ⊢
  split at h
  · exact hy h
  · exact hn h
  · split at h
    · unfold cs at h ⊢
      split at h
      · exact hy h
      · exact hn h
    · exact hn h
    · exact h.elim

theorem wpS_mono (hc : CallLe call call) {K K' : Env → Store → Prop} (hK : ∀ e σ, K e σ → K' e σ) : ∀ (l : List St) {env : Env} {σ : Store}, wpS P call n l K env σ → wpS P call n l K' env σ
  | [], _, _, h => hK _ _ h
  | s :: r, env, σ, h => by
    unfold wpS at h ⊢
    exact gd_mono (fun q => aexec_mono hc (fun v σ' q => ⟨q.1, putK_mono (fun e' q' => wpS_mono hc hK r q') q.2⟩) q) (fun q => putK_mono (fun e' q' => wpS_mono hc hK r q') q) h

theorem wpD_mono (hc : CallLe call call) : ∀ (d : Cd) {K K' : KontX}, (∀ e env σ, K e env σ → K' e env σ) → ∀ {env : Env} {σ : Store}, wpD P call n d K env σ → wpD P call n d K' env σ := by
  intro d
  induction d with
  | skip => intro K K' hK env σ h; exact hK _ _ _ h
  | sts l => intro K K' hK env σ h; exact wpS_mono hc (hK .normal) l h
  | seq a b iha ihb =>
    intro K K' hK env σ h
    unfold wpD at h ⊢
    exact iha (fun e env σ q => by cases e <;> first | exact ihb hK q | exact hK _ _ _ q) h
  | cond c t e iht ihe =>
    intro K K' hK env σ h
    unfold wpD cv at h ⊢
    split at h
    · unfold cs at h ⊢
      split at h
      · exact iht hK h
      · exact ihe hK h
    · exact h.elim
  | block id c ih =>
    intro K K' hK env σ h
    unfold wpD at h ⊢
    exact ih (fun e env σ q => by
      cases e with
      | exit i =>
        simp only [contB] at q ⊢
        split at q
        · rename_i hi; rw [if_pos hi]; exact hK _ _ _ q
        · rename_i hi; rw [if_neg hi]; exact hK _ _ _ q
      | _ => exact hK _ _ _ q) h
  | loop c ih =>
    intro K K' hK env σ h
    unfold wpD at h ⊢
    intro Z hZ
    exact h Z fun env σ q => hZ env σ (ih (fun e env σ q => by cases e <;> first | exact q | exact hK _ _ _ q) q)
  | exit id => intro K K' hK env σ h; exact hK _ _ _ h
  | ret => intro K K' hK env σ h; exact hK _ _ _ h

theorem acall_le_self {T : Table} : CallLe (acall P T) (acall P T) := fun f args K K' σ hK q => acall_mono q hK

/-- Things said otherwise. -/
def Weak (env : Env) (σ : Store) (env2 : Env) (σ2 : Store) : Prop := Frz σ σ2 ∧ ∀ t, Imp σ2 (env t) (env2 t)
theorem Weak.refl (env : Env) (σ : Store) : Weak env σ env σ := ⟨Frz.refl σ, fun t => Imp.refl σ _⟩

/-- A loop by what holds ahead of each round, and a number that goes down. -/
theorem loop_inv (hc : CallLe call call) {c : Cd} {K : KontX} (I : Nat → Env → Store → Prop) {m : Nat} {env : Env} {σ : Store} (h : I m env σ)
    (hr : ∀ m env σ, I m env σ → wpD P call n c (contS (fun env' σ' => ∃ m', m' < m ∧ I m' env' σ') K) env σ) : wpD P call n (.loop c) K env σ := by
  intro X hX hW
  induction m using Nat.strongRecOn generalizing env σ with
  | _ m ih =>
    refine hX env σ (wpD_mono hc c ?_ (hr m env σ h))
    intro e env' σ' q
    cases e with
    | normal => obtain ⟨m', hlt, hi⟩ := q; exact ih m' hlt hi
    | exit i => exact q
    | ret => exact q

/-- So, with things said otherwise at the loop's head. -/
theorem loop_invW (hc : CallLe call call) {c : Cd} {K : KontX} (I : Nat → Env → Store → Prop) {m : Nat} {env env1 : Env} {σ σ1 : Store} (h0 : Weak env σ env1 σ1) (h : I m env1 σ1)
    (hr : ∀ m env σ, I m env σ → wpD P call n c (contS (fun env' σ' => ∃ m' env2 σ2, m' < m ∧ Weak env' σ' env2 σ2 ∧ I m' env2 σ2) K) env σ) : wpD P call n (.loop c) K env σ := by
  intro X hX hW
  refine hW env σ env1 σ1 h0.1 h0.2 ?_
  clear h0 env σ
  induction m using Nat.strongRecOn generalizing env1 σ1 with
  | _ m ih =>
    refine hX env1 σ1 (wpD_mono hc c ?_ (hr m env1 σ1 h))
    intro e env' σ' q
    cases e with
    | normal => obtain ⟨m', env2, σ2, hlt, hw, hi⟩ := q; exact hW env' σ' env2 σ2 hw.1 hw.2 (ih m' hlt hi)
    | exit i => exact q
    | ret => exact q

/-- One round of a loop. -/
theorem loop_round (hc : CallLe call call) {c : Cd} {K : KontX} {env : Env} {σ : Store} (h : wpD P call n c (contS (wpD P call n (.loop c) K) K) env σ) : wpD P call n (.loop c) K env σ :=
  fun X hX hW => hX env σ (wpD_mono hc c (fun e env σ q => by cases e <;> first | exact q X hX hW | exact q) h)

end
end Go.Proofs.Ytbkmjmhoclflnaa.Fw
