/- Regions: in the order of the text, and in any order. -/
import Derived.Test.YtbkmjmhoclflnaaFw14
import Derived.Tactics
namespace Go.Proofs.Ytbkmjmhoclflnaa.Fw
open Go Go.RowKit
set_option linter.unusedVariables false
set_option linter.unusedSimpArgs false

def upd (env : Env) (d : Tmp) (v : AV) : Env := fun t => if t = d then v else env t

/-- A value laid into a slot (of n slots). -/
def putK (n : Nat) (env : Env) (dst : Option Tmp) (v : AV) (K : Env → Prop) : Prop :=
  match dst with
  | none => K env
  | some d => if d < n then K (upd env d v) else False

def putE (env : Env) (dst : Option Tmp) (v : AV) : Env :=
  match dst with
  | none => env
  | some d => upd env d v

theorem putK_spec {n : Nat} {env : Env} {dst : Option Tmp} {v : AV} {K : Env → Prop} (h : putK n env dst v K) : K (putE env dst v) ∧ ∀ d, dst = some d → d < n := by
  unfold putK at h
  cases dst with
  | none => exact ⟨h, fun d e => by cases e⟩
  | some d =>
    simp only at h
    split at h
    · rename_i hd; exact ⟨h, fun d' e => by cases e; exact hd⟩
    · exact h.elim

def EnvRel (μ : Ren) (n : Nat) (env : Env) (tmps : Array Value) : Prop := tmps.size = n ∧ ∀ t, VR μ (env t) (tmps.getD t undef)

theorem EnvRel.mono {μ μ' : Ren} (hm : μ.le μ') {n : Nat} {env : Env} {tmps : Array Value} (h : EnvRel μ n env tmps) : EnvRel μ' n env tmps := ⟨h.1, fun t => (h.2 t).mono hm⟩

theorem getD_put {tmps : Array Value} {d t : Nat} {v : Value} (hd : d < tmps.size) : (tmps.setIfInBounds d v).getD t undef = if t = d then v else tmps.getD t undef := by
  by_cases e : t = d
  · subst e
    simp [Array.getD_eq_getD_getElem?, hd]
  · rw [if_neg e]
    simp [Array.getD_eq_getD_getElem?, Array.getElem?_setIfInBounds_ne (Ne.symm e)]

theorem EnvRel.put {μ : Ren} {n : Nat} {env : Env} {a : Act} {dst : Option Tmp} {v : AV} {v' : Value} (h : EnvRel μ n env a.tmps) (hv : VR μ v v') (hd : ∀ d, dst = some d → d < n) : EnvRel μ n (putE env dst v) (a.put dst v').tmps := by
  cases dst with
  | none => exact h
  | some d =>
    refine ⟨by simp [Act.put, h.1], fun t => ?_⟩
    have hlt : d < a.tmps.size := by rw [h.1]; exact hd d rfl
    simp only [Act.put, putE, upd, getD_put hlt]
    split
    · exact hv
    · exact h.2 t

theorem glob_sim {μ : Ren} (hg : Globs μ) (env : Env) (a : Act) (g : Nat) : VR μ (aeval env (.global g)) (a.eval (.global g)) := by
  show VR μ (match globs g with | some row => .imp row 0 | none => .bad) (.pointer (some ⟨g, 0, none⟩))
  cases e : globs g with
  | none => exact .bad
  | some row =>
    obtain ⟨cs, h1, h2⟩ := hg g row e
    exact .imp (off := 0) h1 (h2.mono μ.bare_le)
theorem aeval_sim {μ : Ren} (hg : Globs μ) {n : Nat} {env : Env} {a : Act} (h : EnvRel μ n env a.tmps) (x : Operand) : VR μ (aeval env x) (a.eval x) := by
  cases x with
  | tmp t => exact h.2 t
  | const v => exact VR_ofV μ v
  | func f => exact .fn .nil .nil
  | global g => exact glob_sim hg env a g

section
variable (P : Program) (call : CallT) (n : Nat) (ops : Array Oper)

/-- Is a guarded operation wanted? -/
def guardOf (o : Oper) (env : Env) : Option Bool :=
  match o.guard with
  | none => some true
  | some (j, want) => match (ops[j]?).bind (·.dst) with
    | some t => match env t with
      | .bool b => some (b == want)
      | .tup [] => some false
      | _ => none
    | none => some false

def aops : List Oper → (Env → Store → Prop) → Env → Store → Prop
  | [], K, env, σ => K env σ
  | o :: r, K, env, σ => match guardOf ops o env with
    | some true => aexec P call (aeval env) o.op (fun v σ' => putK n env o.dst v fun env' => aops r K env' σ') σ
    | some false => putK n env o.dst (.tup []) fun env' => aops r K env' σ
    | none => False

end

section
variable {P : Program} {call : CallT} {n : Nat} {ops : Array Oper}

theorem guard_sim {o : Oper} {env : Env} {tmps : Array Value} {b : Bool} (h : guardOf ops o env = some b) (hr : ∀ j want t, o.guard = some (j, want) → (ops[j]?).bind (·.dst) = some t → ∃ μ, VR μ (env t) (tmps.getD t undef)) :
    Region.wanted o (yielded ops tmps) = b := by
  unfold guardOf at h
  unfold Region.wanted
  cases hg : o.guard with
  | none => simp only [hg, Option.some.injEq] at h; exact h
  | some jw =>
    obtain ⟨j, want⟩ := jw
    simp only [hg] at h
    simp only
    unfold yielded
    cases ht : (ops[j]?).bind (·.dst) with
    | none => simp only [ht, Option.some.injEq] at h; subst h; rfl
    | some t =>
      simp only [ht] at h
      obtain ⟨μ, hv⟩ := hr j want t hg ht
      simp only [Option.bind_some]
      rw [Array.getD_eq_getD_getElem?] at hv
      cases hx : tmps[t]? with
      | none =>
        rw [hx] at hv
        simp only [Option.getD_none] at hv
        split at h
        · rename_i b' e
          rw [e] at hv
          cases hv
        · simp only [Option.some.injEq] at h; subst h; rfl
        · cases h
      | some x =>
        rw [hx] at hv
        simp only [Option.getD_some] at hv
        split at h
        · rename_i b' e
          rw [e] at hv
          cases hv
          simp only [Option.some.injEq] at h
          subst h
          simp
        · rename_i e
          rw [e] at hv
          cases hv
          simp only [Option.some.injEq] at h
          subst h
          rfl
        · cases h

/-- A region in the order of its text. -/
theorem aops_sim {w0 : World} (hcall : CallsOk P w0 call) {Q : Exit → Act → World → Prop} : ∀ (l : List Oper) {K : Env → Store → Prop} {env : Env} {σ : Store} {μ : Ren} {a : Act} {w : World} (N : Nat) (μ0 : Ren) (ds : List Deferred),
    aops P call n ops l K env σ → Rel w0 μ σ w → EnvRel μ n env a.tmps → N ≤ σ.length → μ0.le μ → Ext N μ0 μ → a.defers = ds →
    (∀ env' σ' μ' a' w', K env' σ' → Rel w0 μ' σ' w' → EnvRel μ' n env' a'.tmps → N ≤ σ'.length → μ0.le μ' → Ext N μ0 μ' → a'.defers = ds → Q .normal a' w') →
    wpList P ops Q l a w
  | [], K, env, σ, μ, a, w, N, μ0, ds, h, R, E, hN, hle, hext, hds, hQ => hQ env σ μ a w h R E hN hle hext hds
  | o :: r, K, env, σ, μ, a, w, N, μ0, ds, h, R, E, hN, hle, hext, hds, hQ => by
    unfold aops at h
    unfold wpList
    split at h
    · rename_i hg
      rw [if_pos (guard_sim hg fun j want t _ _ => ⟨μ, E.2 t⟩)]
      refine .inl (Oper.wp_mono ?_ (aexec_sim hcall R (fun x _ => aeval_sim R.glb E x) h))
      rintro a' w' ⟨v, v', σ', rfl, hK, hlen, μ', k1, k2, k3, k4⟩
      obtain ⟨hK2, hd⟩ := putK_spec hK
      exact aops_sim hcall r N μ0 ds hK2 k4 ((E.mono k1).put k3 hd) (by omega) (Ren.le_trans hle k1) (hext.trans (k2.mono hN)) (by rw [← hds]; cases o.dst <;> rfl) hQ
    · rename_i hg
      rw [if_neg (by rw [guard_sim hg fun j want t _ _ => ⟨μ, E.2 t⟩]; simp)]
      obtain ⟨hK2, hd⟩ := putK_spec h
      exact aops_sim hcall r N μ0 ds hK2 R (E.put (.tup .nil) hd) hN hle hext (by rw [← hds]; cases o.dst <;> rfl) hQ
    · exact h.elim

end
end Go.Proofs.Ytbkmjmhoclflnaa.Fw
