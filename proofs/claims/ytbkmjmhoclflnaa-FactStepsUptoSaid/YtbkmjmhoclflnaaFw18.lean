/- Code, and calls. -/
import Derived.Test.YtbkmjmhoclflnaaFw17
import Derived.Scope
namespace Go.Proofs.Ytbkmjmhoclflnaa.Fw
open Go Go.RowKit
set_option linter.unusedVariables false
set_option linter.unusedSimpArgs false

inductive AX where
  | normal
  | exit (id : Nat)
  | ret

def AX.exit? : AX → Exit
  | .normal => .normal
  | .exit i => .exit i
  | .ret => .ret

abbrev KontX := AX → Env → Store → Prop

def contS (X : Env → Store → Prop) (K : KontX) : KontX := fun e env σ => match e with
  | .normal => X env σ
  | .exit i => K (.exit i) env σ
  | .ret => K .ret env σ

def contB (id : Nat) (K : KontX) : KontX := fun e env σ => match e with
  | .normal => K .normal env σ
  | .exit i => if i = id then K .normal env σ else K (.exit i) env σ
  | .ret => K .ret env σ

/-! ### What may be said otherwise -/
/-- What is known of a store may be said so too. -/
def Frz (σ σ2 : Store) : Prop := σ2.length = σ.length ∧ ∀ w0 μ w, Rel w0 μ σ w → ∃ μ' : Ren, μ.le μ' ∧ (∀ j, μ' j = μ j) ∧ Rel w0 μ' σ2 w
/-- What is known of a value may be said so too. -/
def Imp (σ : Store) (v v2 : AV) : Prop := ∀ w0 μ w x, Rel w0 μ σ w → VR μ v x → VR μ v2 x
inductive Imps (σ : Store) : List AV → List AV → Prop
  | nil : Imps σ [] []
  | cons {v v2 : AV} {l l2 : List AV} (h : Imp σ v v2) (t : Imps σ l l2) : Imps σ (v :: l) (v2 :: l2)
/-- Behind a call (at whose beginning the store was σ0): what is known of its answer and the store may be said so too. -/
def Ent (σ0 : Store) (v : AV) (σ : Store) (v2 : AV) (σ2 : Store) : Prop :=
  σ0.length ≤ σ2.length ∧ ∀ w0 μ0 w00 μ w x, Rel w0 μ0 σ0 w00 → μ0.le μ → Ext σ0.length μ0 μ → Rel w0 μ σ w → VR μ v x → ∃ μ' : Ren, μ0.le μ' ∧ Ext σ0.length μ0 μ' ∧ VR μ' v2 x ∧ Rel w0 μ' σ2 w

theorem Frz.refl (σ : Store) : Frz σ σ := ⟨rfl, fun w0 μ w R => ⟨μ, Ren.le_refl μ, fun _ => rfl, R⟩⟩
theorem Frz.trans {a b c : Store} (h : Frz a b) (k : Frz b c) : Frz a c := ⟨k.1.trans h.1, fun w0 μ w R => by
  obtain ⟨μ1, h1, h2, h3⟩ := h.2 w0 μ w R
  obtain ⟨μ2, k1, k2, k3⟩ := k.2 w0 μ1 w h3
  exact ⟨μ2, Ren.le_trans h1 k1, fun j => (k2 j).trans (h2 j), k3⟩⟩
theorem Imp.refl (σ : Store) (v : AV) : Imp σ v v := fun _ _ _ _ _ h => h
theorem Imp.trans {σ : Store} {a b c : AV} (h : Imp σ a b) (k : Imp σ b c) : Imp σ a c := fun w0 μ w x R q => k w0 μ w x R (h w0 μ w x R q)
theorem Imps.sim {w0 : World} {μ : Ren} {w : World} {σ : Store} (R : Rel w0 μ σ w) : ∀ {l l2 : List AV} {xs : List Value}, Imps σ l l2 → VRs μ l xs → VRs μ l2 xs
  | _, _, _, .nil, .nil => .nil
  | _, _, _, .cons h t, .cons a b => .cons (h _ _ _ _ R a) (t.sim R b)

/-- A loop: the least that its rounds lead to; at its head things may be said otherwise. -/
def aloop (body : KontX → Env → Store → Prop) (K : KontX) (env : Env) (σ : Store) : Prop :=
  ∀ X : Env → Store → Prop, (∀ env σ, body (contS X K) env σ → X env σ) → (∀ env σ env2 σ2, Frz σ σ2 → (∀ t, Imp σ2 (env t) (env2 t)) → X env2 σ2 → X env σ) → X env σ

def awpC (P : Program) (call : CallT) (n : Nat) : Code → KontX → Env → Store → Prop
  | .skip, K, env, σ => K .normal env σ
  | .label _, K, env, σ => K .normal env σ
  | .region _ ops draw, K, env, σ => if draw then (drawOk P ops = true ∧ adraw P call n ops (ops.size + 1) (Array.replicate ops.size false) (K .normal) env σ) else aops P call n ops ops.toList (K .normal) env σ
  | .seq a b, K, env, σ => awpC P call n a (contS (awpC P call n b K) K) env σ
  | .cond c t e, K, env, σ => match aeval env c with
    | .bool true => awpC P call n t K env σ
    | .bool false => awpC P call n e K env σ
    | _ => False
  | .block id c, K, env, σ => awpC P call n c (contB id K) env σ
  | .loop c, K, env, σ => aloop (awpC P call n c) K env σ
  | .exit id, K, env, σ => K (.exit id) env σ
  | .ret, K, env, σ => K .ret env σ
  | .scope c, K, env, σ => awpC P call n c K env σ
  | _, _, _, _ => False

def aresL (P : Program) (env : Env) (σ : Store) : List ResultVar → Option (List AV)
  | [] => some []
  | .tmp t :: r => match aresL P env σ r with
    | some l => some (env t :: l)
    | none => none
  | .cell a t :: r => match aLoad P t (env a) σ, aresL P env σ r with
    | some v, some l => some (v :: l)
    | _, _ => none

def aresults (P : Program) (fn : Func) (K : Kont) (env : Env) (σ : Store) : Prop :=
  match aresL P env σ fn.results.toList with
  | some [v] => K v σ
  | some vs => K (.tup vs) σ
  | none => False

def env0 (args : List AV) : Env := fun t => args.getD t (.tup [])

def retK (P : Program) (fn : Func) (K : Kont) : KontX := fun e env σ => match e with
  | .normal => aresults P fn K env σ
  | .ret => aresults P fn K env σ
  | .exit _ => False

/-- A call, by its function's text. -/
def abody (P : Program) (call : CallT) : CallT := fun f args K σ =>
  match P.funcs[f]? with
  | some fn => match fn.body with
    | some c => if args.length ≤ fn.ntmps then awpC P call fn.ntmps c (retK P fn K) (env0 args) σ else False
    | none => False
  | none => False

/-- What is known of a function ahead: in the place of its text. -/
structure Spec where
  run : List AV → Kont → Store → Prop
  mono : ∀ args (K K' : Kont) σ, (∀ v σ, K v σ → K' v σ) → run args K σ → run args K' σ

abbrev Table := FuncId → Option Spec

def astep (P : Program) (T : Table) (call : CallT) : CallT := fun f args K σ =>
  match T f with
  | some s => s.run args K σ
  | none => abody P call f args K σ

/-- What is closed under the steps of calls. -/
structure Closed (P : Program) (T : Table) (X : CallT) : Prop where
  step : ∀ f args K σ, astep P T X f args K σ → X f args K σ
  ret : ∀ f args (K : Kont) σ, X f args (fun v σ' => ∃ v2 σ2, Ent σ v σ' v2 σ2 ∧ K v2 σ2) σ → X f args K σ
  arg : ∀ f args K σ, (∀ w0 μ w xs, Rel w0 μ σ w → VRs μ args xs → ∃ args2 σ2, ∃ μ' : Ren, μ.le μ' ∧ (∀ j, μ' j = μ j) ∧ Rel w0 μ' σ2 w ∧ VRs μ' args2 xs ∧ σ2.length = σ.length ∧ X f args2 K σ2) → X f args K σ

/-- Calls: the least that texts and specifications lead to. -/
def acall (P : Program) (T : Table) : CallT := fun f args K σ => ∀ X : CallT, Closed P T X → X f args K σ

section
variable {P : Program}

/-! ### More to be shown behind, less to be shown -/
def CallLe (X Y : CallT) : Prop := ∀ f args (K K' : Kont) σ, (∀ v σ, K v σ → K' v σ) → X f args K σ → Y f args K' σ

theorem aeff_mono {X Y : CallT} (h : CallLe X Y) {ρ : Operand → AV} {o : Op} {K K' : Kont} (hK : ∀ v σ, K v σ → K' v σ) {σ : Store} (hh : aeff P X ρ o K σ) : aeff P Y ρ o K' σ := by
  unfold aeff at hh ⊢
  split at hh <;> try (exact hh.elim)
  · split at hh
    · exact hK _ _ hh
    · exact hh
  · split at hh
    · exact hK _ _ hh
    · exact hh
  · split at hh
    · exact hK _ _ hh
    · exact hh
  · split at hh
    · exact hK _ _ hh
    · exact hh
  · split at hh
    · exact fun p hp => hK _ _ (hh p hp)
    · exact hh
  · split at hh
    · split at hh
      · exact hK _ _ hh
      · exact hh
    · exact hh
  · split at hh
    · split at hh
      · exact hK _ _ hh
      · exact hh
    · exact hh
  · split at hh
    · split at hh
      · exact hK _ _ hh
      · exact hh
    · exact hh
  · split at hh
    · split at hh
      · exact hK _ _ hh
      · exact hh
    · exact hh
  · split at hh
    · split at hh
      · rename_i hc; simp only [hc, if_true]; exact h _ _ _ _ _ hK hh
      · exact hh.elim
    · exact hh
  · split at hh
    · exact hK _ _ hh
    · exact hh

theorem aexec_mono {X Y : CallT} (h : CallLe X Y) {ρ : Operand → AV} {o : Op} {K K' : Kont} (hK : ∀ v σ, K v σ → K' v σ) {σ : Store} (hh : aexec P X ρ o K σ) : aexec P Y ρ o K' σ := by
  unfold aexec at hh ⊢
  split at hh
  · split at hh
    · exact hK _ _ hh
    · exact hh
  · split at hh
    · exact hK _ _ hh
    · exact hh
  · exact aeff_mono h hK hh

theorem putK_mono {n : Nat} {env : Env} {dst : Option Tmp} {v : AV} {K K' : Env → Prop} (hK : ∀ e, K e → K' e) (h : putK n env dst v K) : putK n env dst v K' := by
  unfold putK at h ⊢
  cases dst with
  | none => exact hK _ h
  | some d =>
    simp only at h ⊢
    split at h
    · rename_i hd; rw [if_pos hd]; exact hK _ h
    · exact h.elim

theorem aops_mono {X Y : CallT} (h : CallLe X Y) {n : Nat} {ops : Array Oper} {K K' : Env → Store → Prop} (hK : ∀ e σ, K e σ → K' e σ) : ∀ (l : List Oper) {env : Env} {σ : Store}, aops P X n ops l K env σ → aops P Y n ops l K' env σ
  | [], _, _, hh => hK _ _ hh
  | o :: r, env, σ, hh => by
    unfold aops at hh ⊢
    split at hh
    · exact aexec_mono h (fun v σ' hp => putK_mono (fun e he => aops_mono h hK r he) hp) hh
    · exact putK_mono (fun e he => aops_mono h hK r he) hh
    · exact hh.elim

theorem adraw_mono {X Y : CallT} (h : CallLe X Y) {n : Nat} {ops : Array Oper} {K K' : Env → Store → Prop} (hK : ∀ e σ, K e σ → K' e σ) : ∀ (f : Nat) {D : Array Bool} {env : Env} {σ : Store}, adraw P X n ops f D K env σ → adraw P Y n ops f D K' env σ
  | 0, _, _, _, hh => hh
  | f + 1, D, env, σ, hh => by
    unfold adraw at hh ⊢
    split at hh
    · split at hh
      · split at hh
        · split at hh
          · rename_i hk
            simp only [hk, if_true]
            split at hh
            · exact putK_mono (fun e he => adraw_mono h hK f he) hh
            · exact hh
          · rename_i hk
            simp only [hk, if_false]
            split at hh
            · exact putK_mono (fun e he => adraw_mono h hK f he) hh
            · exact hh
        · exact putK_mono (fun e he => adraw_mono h hK f he) hh
        · exact hh
      · exact hh
    · exact hK _ _ hh
    · split at hh
      · split at hh
        · exact aexec_mono h (fun v σ' hp => ⟨hp.1, putK_mono (fun e he => adraw_mono h hK f he) hp.2⟩) hh
        · exact putK_mono (fun e he => adraw_mono h hK f he) hh
        · exact hh
      · exact hh
    · exact hh.elim

theorem awpC_mono {X Y : CallT} (h : CallLe X Y) {n : Nat} : ∀ (c : Code) {K K' : KontX} (hK : ∀ e env σ, K e env σ → K' e env σ) {env : Env} {σ : Store}, awpC P X n c K env σ → awpC P Y n c K' env σ := by
  intro c
  induction c with
  | skip => intro K K' hK env σ hh; exact hK _ _ _ hh
  | label l => intro K K' hK env σ hh; exact hK _ _ _ hh
  | region id ops draw =>
    intro K K' hK env σ hh
    unfold awpC at hh ⊢
    split at hh
    · rename_i hd; rw [if_pos hd]; exact ⟨hh.1, adraw_mono h (hK .normal) _ hh.2⟩
    · rename_i hd; rw [if_neg hd]; exact aops_mono h (hK .normal) _ hh
  | seq a b iha ihb =>
    intro K K' hK env σ hh
    unfold awpC at hh ⊢
    exact iha (fun e env σ q => by cases e <;> first | exact ihb hK q | exact hK _ _ _ q) hh
  | cond c t e iht ihe =>
    intro K K' hK env σ hh
    unfold awpC at hh ⊢
    split at hh
    · exact iht hK hh
    · exact ihe hK hh
    · exact hh.elim
  | block id c ih =>
    intro K K' hK env σ hh
    unfold awpC at hh ⊢
    exact ih (fun e env σ q => by
      cases e with
      | exit i =>
        simp only [contB] at q ⊢
        split at q
        · rename_i hi; rw [if_pos hi]; exact hK _ _ _ q
        · rename_i hi; rw [if_neg hi]; exact hK _ _ _ q
      | _ => exact hK _ _ _ q) hh
  | loop c ih =>
    intro K K' hK env σ hh
    unfold awpC at hh ⊢
    intro Z hZ hW
    exact hh Z (fun env σ q => hZ env σ (ih (fun e env σ q => by cases e <;> first | exact q | exact hK _ _ _ q) q)) hW
  | rangeFunc f ps a b _ _ => intro K K' hK env σ hh; exact hh.elim
  | exit id => intro K K' hK env σ hh; exact hK _ _ _ hh
  | scope c ih => intro K K' hK env σ hh; unfold awpC at hh ⊢; exact ih hK hh
  | goto l => intro K K' hK env σ hh; exact hh.elim
  | ret => intro K K' hK env σ hh; exact hK _ _ _ hh
  | refuse w => intro K K' hK env σ hh; exact hh.elim

theorem retK_mono {fn : Func} {K K' : Kont} (hK : ∀ v σ, K v σ → K' v σ) : ∀ e env σ, retK P fn K e env σ → retK P fn K' e env σ := by
  intro e env σ h
  have key : aresults P fn K env σ → aresults P fn K' env σ := by
    intro h
    unfold aresults at h ⊢
    split at h
    · exact hK _ _ h
    · exact hK _ _ h
    · exact h
  cases e <;> first | exact key h | exact h

theorem abody_mono {X Y : CallT} (h : CallLe X Y) : CallLe (abody P X) (abody P Y) := by
  intro f args K K' σ hK hh
  unfold abody at hh ⊢
  split at hh
  · split at hh
    · split at hh
      · rename_i hl; simp only [hl, if_true]; exact awpC_mono h _ (retK_mono hK) hh
      · exact hh.elim
    · exact hh
  · exact hh

theorem astep_mono {T : Table} {X Y : CallT} (h : CallLe X Y) : CallLe (astep P T X) (astep P T Y) := by
  intro f args K K' σ hK hh
  unfold astep at hh ⊢
  split at hh
  · exact Spec.mono _ _ _ _ _ hK hh
  · exact abody_mono h f args K K' σ hK hh

theorem acall_le {T : Table} {X : CallT} (hX : Closed P T X) : CallLe (acall P T) X := by
  intro f args K K' σ hK h
  have := h (fun f args K σ => ∀ K' : Kont, (∀ v σ, K v σ → K' v σ) → X f args K' σ) ⟨fun f args K σ hh K' hK => by
    refine hX.step f args K' σ (astep_mono (fun f a K K' σ hK q => q K' hK) f args K K' σ hK hh), fun f args K σ hh K' hK => by
    refine hX.ret f args K' σ (hh _ fun v σ' q => ?_)
    obtain ⟨v2, σ2, h1, h2⟩ := q
    exact ⟨v2, σ2, h1, hK _ _ h2⟩, fun f args K σ hh K' hK => hX.arg f args K' σ fun w0 μ w xs R hv => by
    obtain ⟨args2, σ2, μ', q1, q2, q3, q4, q5, q6⟩ := hh w0 μ w xs R hv
    exact ⟨args2, σ2, μ', q1, q2, q3, q4, q5, q6 K' hK⟩⟩
  exact this K' hK

theorem acall_mono {T : Table} {f : FuncId} {args : List AV} {K K' : Kont} {σ : Store} (h : acall P T f args K σ) (hK : ∀ v σ, K v σ → K' v σ) : acall P T f args K' σ :=
  fun X hX => acall_le hX f args K K' σ hK h

/-- A call may be unfolded. -/
theorem acall_intro {T : Table} {f : FuncId} {args : List AV} {K : Kont} {σ : Store} (h : astep P T (acall P T) f args K σ) : acall P T f args K σ :=
  fun X hX => hX.step f args K σ (astep_mono (acall_le hX) f args K K σ (fun _ _ q => q) h)
/-- Behind a call things may be said otherwise. -/
theorem acall_ret {T : Table} {f : FuncId} {args : List AV} {K : Kont} {σ : Store} (h : acall P T f args (fun v σ' => ∃ v2 σ2, Ent σ v σ' v2 σ2 ∧ K v2 σ2) σ) : acall P T f args K σ :=
  fun X hX => hX.ret f args K σ (h X hX)
/-- Ahead of a call too. -/
theorem acall_arg {T : Table} {f : FuncId} {args args2 : List AV} {K : Kont} {σ σ2 : Store} (h1 : Frz σ σ2) (h2 : Imps σ2 args args2) (h : acall P T f args2 K σ2) : acall P T f args K σ :=
  fun X hX => hX.arg f args K σ fun w0 μ w xs R hv => by
    obtain ⟨μ', q1, q2, q3⟩ := h1.2 w0 μ w R
    exact ⟨args2, σ2, μ', q1, q2, q3, h2.sim q3 (hv.mono q1), h1.1, h X hX⟩
/-- An empty slice is nil, or not. -/
theorem acall_nil {T : Table} {f : FuncId} {a b : List AV} {k : Nat} {cap : Cap} {K : Kont} {σ : Store} (h1 : acall P T f (a ++ .slNil :: b) K σ) (h2 : acall P T f (a ++ .sle :: b) K σ) : acall P T f (a ++ .im k [] cap :: b) K σ :=
  fun X hX => hX.arg f _ K σ fun w0 μ w xs R hv => by
    have gen : ∀ {a : List AV} {xs : List Value}, VRs μ (a ++ .im k [] cap :: b) xs → VRs μ (a ++ .slNil :: b) xs ∨ VRs μ (a ++ .sle :: b) xs ∨ ∃ c', VRs μ (a ++ .im k [] cap :: b) xs ∧ c' = 0 ∧ False := by
      intro a
      induction a with
      | nil =>
        intro xs q
        cases q with
        | cons p t =>
          cases p with
          | im hf hv hk hn hc => exact .inr (.inl (.cons .sle t))
          | imE hc hz =>
            rename_i c' ad
            cases ad with
            | some ad => exact .inr (.inl (.cons .sle t))
            | none =>
              have := hz rfl
              subst this
              exact .inl (.cons .slNil t)
      | cons v a ih =>
        intro xs q
        cases q with
        | cons p t =>
          rcases ih t with q | q | ⟨_, _, _, q⟩
          · exact .inl (.cons p q)
          · exact .inr (.inl (.cons p q))
          · exact q.elim
    rcases gen hv with q | q | ⟨_, _, _, q⟩
    · exact ⟨_, σ, μ, Ren.le_refl μ, fun _ => rfl, R, q, rfl, h1 X hX⟩
    · exact ⟨_, σ, μ, Ren.le_refl μ, fun _ => rfl, R, q, rfl, h2 X hX⟩
    · exact q.elim

/-- A loop may be unrolled. -/
theorem aloop_intro {call : CallT} {n : Nat} {c : Code} {K : KontX} {env : Env} {σ : Store} (h : awpC P call n c (contS (aloop (awpC P call n c) K) K) env σ) (hc : CallLe call call) : aloop (awpC P call n c) K env σ :=
  fun X hX hW => hX env σ (awpC_mono hc c (fun e env σ q => by cases e <;> first | exact q X hX hW | exact q) h)

end
end Go.Proofs.Ytbkmjmhoclflnaa.Fw
