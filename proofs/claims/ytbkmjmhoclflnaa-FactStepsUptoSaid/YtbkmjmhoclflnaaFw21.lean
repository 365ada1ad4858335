/- The walk's rules: one for each word of the code. -/
import Derived.Test.YtbkmjmhoclflnaaFw20
namespace Go.Proofs.Ytbkmjmhoclflnaa.Fw
open Go Go.RowKit
set_option linter.unusedVariables false
set_option linter.unusedSimpArgs false

/-! ### Words at which the walk halts where something is not known yet: what is behind them stays untouched -/
universe uu
structure Dep {α : Sort uu} (a : α) : Type where

def oB {α : Type} (o : Option α) (k : α → Prop) (u : Dep k) : Prop := ob o k
def cS (b : Bool) (y n : Prop) (u : Dep y) (v : Dep n) : Prop := cs b y n
def cV (x : AV) (y n : Prop) (u : Dep y) (v : Dep n) : Prop := cv x y n
theorem oB_some {α : Type} (v : α) (k : α → Prop) (u : Dep k) : oB (some v) k u = k v := (rfl)
theorem oB_of {α : Type} {o : Option α} {v : α} (h : o = some v) {k : α → Prop} {u : Dep k} (hk : k v) : oB o k u := by subst h; exact hk
theorem cS_true (y n : Prop) (u : Dep y) (v : Dep n) : cS true y n u v = y := (rfl)
theorem cS_false (y n : Prop) (u : Dep y) (v : Dep n) : cS false y n u v = n := (rfl)
theorem cS_intro {b : Bool} {y n : Prop} {u : Dep y} {v : Dep n} (hy : b = true → y) (hn : b = false → n) : cS b y n u v := cs_intro hy hn
theorem cV_bool (b : Bool) (y n : Prop) (u : Dep y) (v : Dep n) : cV (.bool b) y n u v = cS b y n u v := (rfl)
theorem cs_lock (b : Bool) (y n : Prop) : cs b y n = cS b y n ⟨⟩ ⟨⟩ := (rfl)
theorem cv_lock (x : AV) (y n : Prop) : cv x y n = cV x y n ⟨⟩ ⟨⟩ := (rfl)

/-- A choice by a guard's slot. -/
def gV (v : AV) (want : Bool) (y n : Prop) (u : Dep y) (w : Dep n) : Prop := match v with
  | .bool b => cs (b == want) y n
  | .tup [] => n
  | _ => False
theorem gV_true (b : Bool) (y n : Prop) (u : Dep y) (w : Dep n) : gV (.bool b) true y n u w = cS b y n u w := by
  show cs (b == true) y n = cs b y n
  cases b <;> rfl
theorem gV_false (b : Bool) (y n : Prop) (u : Dep y) (w : Dep n) : gV (.bool b) false y n u w = cS b n y w u := by
  show cs (b == false) y n = cs b n y
  cases b <;> rfl
theorem gV_tup (want : Bool) (y n : Prop) (u : Dep y) (w : Dep n) : gV (.tup []) want y n u w = n := (rfl)
theorem gd_none (env : Env) (y n : Prop) : gd none env y n = y := (rfl)
theorem gd_nil (env : Env) (b : Bool) (y n : Prop) : gd (some (none, b)) env y n = n := (rfl)
theorem gd_slot (env : Env) (t : Tmp) (want : Bool) (y n : Prop) : gd (some (some t, want)) env y n = gV (env t) want y n ⟨⟩ ⟨⟩ := by
  show (match env t with
    | .bool b => cs (b == want) y n
    | .tup [] => n
    | _ => False) = gV (env t) want y n ⟨⟩ ⟨⟩
  unfold gV
  cases env t <;> rfl

/-- A call of a function's value. -/
def ac (call : CallT) (g : FuncId) (args : List AV) (K : Kont) (σ : Store) (u : Dep K) : Prop := call g args K σ
def acv (P : Program) (call : CallT) (f : AV) (args : List AV) (K : Kont) (σ : Store) (u : Dep K) : Prop := match f with
  | .fn (.func g) first captured => if callable P g then call g (first ++ args ++ captured) K σ else False
  | _ => False
theorem acv_fn {P : Program} {call : CallT} {g : FuncId} {first captured args : List AV} {K : Kont} {σ : Store} {u : Dep K} (h : callable P g = true) :
    acv P call (.fn (.func g) first captured) args K σ u = ac call g (first ++ args ++ captured) K σ u := by unfold acv ac; simp [h]

section
variable {P : Program} {call : CallT} {n : Nat}

/-! ### Code -/
theorem wpD_skip (K : KontX) (env : Env) (σ : Store) : wpD P call n .skip K env σ = K .normal env σ := (rfl)
theorem wpD_sts (l : List St) (K : KontX) (env : Env) (σ : Store) : wpD P call n (.sts l) K env σ = wpS P call n l (K .normal) env σ := (rfl)
theorem wpD_seq (a b : Cd) (K : KontX) (env : Env) (σ : Store) : wpD P call n (.seq a b) K env σ = wpD P call n a (contS (wpD P call n b K) K) env σ := (rfl)
theorem wpD_cond (c : Operand) (a b : Cd) (K : KontX) (env : Env) (σ : Store) : wpD P call n (.cond c a b) K env σ = cV (aeval env c) (wpD P call n a K env σ) (wpD P call n b K env σ) ⟨⟩ ⟨⟩ := (rfl)
theorem wpD_block (i : Nat) (a : Cd) (K : KontX) (env : Env) (σ : Store) : wpD P call n (.block i a) K env σ = wpD P call n a (contB i K) env σ := (rfl)
theorem wpD_exit (i : Nat) (K : KontX) (env : Env) (σ : Store) : wpD P call n (.exit i) K env σ = K (.exit i) env σ := (rfl)
theorem wpD_ret (K : KontX) (env : Env) (σ : Store) : wpD P call n .ret K env σ = K .ret env σ := (rfl)

/-- A loop. -/
def lp (P : Program) (call : CallT) (n : Nat) (c : Cd) (K : KontX) (env : Env) (σ : Store) (u : Dep K) : Prop := wpD P call n (.loop c) K env σ
theorem wpD_loop (c : Cd) (K : KontX) (env : Env) (σ : Store) : wpD P call n (.loop c) K env σ = lp P call n c K env σ ⟨⟩ := (rfl)

theorem wpS_nil (K : Env → Store → Prop) (env : Env) (σ : Store) : wpS P call n [] K env σ = K env σ := (rfl)
theorem wpS_cons (d : Option Tmp) (o : Op) (g : Option (Option Tmp × Bool)) (r : List St) (K : Env → Store → Prop) (env : Env) (σ : Store) :
    wpS P call n (⟨d, o, g, []⟩ :: r) K env σ = gd g env (aexec P call (aeval env) o (fun v σ' => putK n env d v fun e => wpS P call n r K e σ') σ) (putK n env d (.tup []) fun e => wpS P call n r K e σ) := by
  show gd g env (aexec P call (aeval env) o (fun v σ' => True ∧ putK n env d v fun e => wpS P call n r K e σ') σ) _ = _
  simp only [true_and]
theorem wpS_consC (d : Option Tmp) (o : Op) (g : Option (Option Tmp × Bool)) (c : Ck) (cs : List Ck) (r : List St) (K : Env → Store → Prop) (env : Env) (σ : Store) :
    wpS P call n (⟨d, o, g, c :: cs⟩ :: r) K env σ = gd g env (aexec P call (aeval env) o (fun v σ' => ckAll P env σ σ' (c :: cs) ∧ putK n env d v fun e => wpS P call n r K e σ') σ) (putK n env d (.tup []) fun e => wpS P call n r K e σ) := (rfl)
theorem ckAll_nil (env : Env) (σ σ' : Store) : ckAll P env σ σ' [] = True := (rfl)
theorem ckAll_cons (env : Env) (σ σ' : Store) (c : Ck) (r : List Ck) : ckAll P env σ σ' (c :: r) = (ckOne P env σ σ' c ∧ ckAll P env σ σ' r) := (rfl)
theorem ckOne_val (env : Env) (σ σ' : Store) (d : Tmp) (o : Op) (g : Option (Option Tmp × Bool)) : ckOne P env σ σ' ⟨some d, o, g, false⟩ = gd g env (aval P (aeval env) o σ' = some (env d)) True := (rfl)

theorem contS_normal (X : Env → Store → Prop) (K : KontX) (env : Env) (σ : Store) : contS X K .normal env σ = X env σ := (rfl)
theorem contS_exit (X : Env → Store → Prop) (K : KontX) (i : Nat) (env : Env) (σ : Store) : contS X K (.exit i) env σ = K (.exit i) env σ := (rfl)
theorem contS_ret (X : Env → Store → Prop) (K : KontX) (env : Env) (σ : Store) : contS X K .ret env σ = K .ret env σ := (rfl)
theorem contB_normal (i : Nat) (K : KontX) (env : Env) (σ : Store) : contB i K .normal env σ = K .normal env σ := (rfl)
theorem contB_exit (i j : Nat) (K : KontX) (env : Env) (σ : Store) : contB i K (.exit j) env σ = if j = i then K .normal env σ else K (.exit j) env σ := (rfl)
theorem contB_ret (i : Nat) (K : KontX) (env : Env) (σ : Store) : contB i K .ret env σ = K .ret env σ := (rfl)

/-- Answers handed on. -/
def rt (l : Option (List AV)) (K : AV → Prop) (u : Dep K) : Prop := match l with
  | some [v] => K v
  | some vs => K (.tup vs)
  | none => False
theorem rt_0 (K : AV → Prop) (u : Dep K) : rt (some []) K u = K (.tup []) := (rfl)
theorem rt_1 (v : AV) (K : AV → Prop) (u : Dep K) : rt (some [v]) K u = K v := (rfl)
theorem rt_2 (v w : AV) (l : List AV) (K : AV → Prop) (u : Dep K) : rt (some (v :: w :: l)) K u = K (.tup (v :: w :: l)) := (rfl)
theorem retD_ret (rs : List ResultVar) (K : Kont) (env : Env) (σ : Store) : retD P rs K .ret env σ = rt (aresL P env σ rs) (fun v => K v σ) ⟨⟩ := (rfl)
theorem retD_normal (rs : List ResultVar) (K : Kont) (env : Env) (σ : Store) : retD P rs K .normal env σ = rt (aresL P env σ rs) (fun v => K v σ) ⟨⟩ := (rfl)
theorem aresL_nil (env : Env) (σ : Store) : aresL P env σ [] = some [] := (rfl)
theorem aresL_tmp (env : Env) (σ : Store) (t : Tmp) (r : List ResultVar) : aresL P env σ (.tmp t :: r) = (aresL P env σ r).map (env t :: ·) := by
  show (match aresL P env σ r with | some l => some (env t :: l) | none => none) = _
  cases aresL P env σ r <;> rfl

theorem aresL_cell (env : Env) (σ : Store) (a : Tmp) (t : TypeId) (r : List ResultVar) : aresL P env σ (.cell a t :: r) = (aLoad P t (env a) σ).bind fun v => (aresL P env σ r).map (v :: ·) := by
  show (match aLoad P t (env a) σ, aresL P env σ r with
    | some v, some l => some (v :: l)
    | _, _ => none) = _
  cases aLoad P t (env a) σ <;> cases aresL P env σ r <;> rfl

theorem putK_some {m : Nat} {env : Env} {d : Tmp} {v : AV} {K : Env → Prop} (h : d < m) : putK m env (some d) v K = K (upd env d v) := by simp [putK, h]
theorem putK_none {m : Nat} {env : Env} {v : AV} {K : Env → Prop} : putK m env none v K = K env := (rfl)
theorem upd_at (e : Env) (d : Tmp) (v : AV) (t : Tmp) : upd e d v t = if t = d then v else e t := (rfl)
theorem env0_zero (a : AV) (l : List AV) : env0 (a :: l) 0 = a := (rfl)
theorem env0_succ (a : AV) (l : List AV) (t : Nat) : env0 (a :: l) (t + 1) = env0 l t := (rfl)
theorem env0_nil (t : Nat) : env0 [] t = .tup [] := by simp [env0]
theorem aeval_tmp (env : Env) (t : Tmp) : aeval env (.tmp t) = env t := (rfl)
theorem aeval_const (env : Env) (v : Value) : aeval env (.const v) = ofV v := (rfl)
theorem aeval_func (env : Env) (f : FuncId) : aeval env (.func f) = .fn (.func f) [] [] := (rfl)
theorem ofV_bool (b : Bool) : ofV (.bool b) = .bool b := (rfl)
theorem ofV_int (k : IntKind) (i : Int) : ofV (.int k i) = .int k i := (rfl)
theorem ofV_str (s : ByteArray) : ofV (.string s) = .str s.data.toList := (rfl)
theorem ofV_ptr : ofV (.pointer none) = .ptrNil := (rfl)
theorem ofV_sl : ofV (.slice none 0 0) = .slNil := (rfl)
theorem ofV_map : ofV (.map none) = .mapNil := (rfl)
theorem ofV_fn : ofV .nilFunc = .fnNil := (rfl)
theorem ofV_iface : ofV .nilIface = .ifaceNil := (rfl)
theorem ofV_agg (cs : Array Value) : ofV (.agg cs) = .agg (cs.toList.map ofV1) := (rfl)

/-! ### Operations -/
variable {ρ : Operand → AV} {K : Kont} {σ : Store}
theorem ax_move (x : Operand) : aexec P call ρ (.move x) K σ = oB (some (ρ x)) (fun v => K v σ) ⟨⟩ := (rfl)
theorem ax_assign (x : Operand) : aexec P call ρ (.assign x) K σ = oB (some (ρ x)) (fun v => K v σ) ⟨⟩ := (rfl)
theorem ax_pick (c a b : Operand) : aexec P call ρ (.pick c a b) K σ = oB (aPick (ρ c) (ρ a) (ρ b)) (fun v => K v σ) ⟨⟩ := by kernel_rfl
theorem ax_load (t : TypeId) (a : Operand) : aexec P call ρ (.load t a) K σ = oB (aLoad P t (ρ a) σ) (fun v => K v σ) ⟨⟩ := by kernel_rfl
theorem ax_nilCheck (x : Operand) : aexec P call ρ (.nilCheck x) K σ = oB (aNil (ρ x)) (fun v => K v σ) ⟨⟩ := by kernel_rfl
theorem ax_binOp (op : BinOp) (t : TypeId) (x y : Operand) (u : TypeId) : aexec P call ρ (.binOp op t x y u) K σ = oB (aBin P op t (isC x || isC y) (ρ x) (ρ y)) (fun v => K v σ) ⟨⟩ := by kernel_rfl
theorem ax_unOp (op : UnOp) (t : TypeId) (x : Operand) : aexec P call ρ (.unOp op t x) K σ = oB (aUn op (ρ x)) (fun v => K v σ) ⟨⟩ := by kernel_rfl
theorem ax_conv {src dst : TypeId} {x : Operand} (h : opKind P (.convert src dst x) = 0) : aexec P call ρ (.convert src dst x) K σ = oB (aConv P src dst (ρ x) σ) (fun v => K v σ) ⟨⟩ := by
  unfold aexec; simp only [h]
  have e : aval P ρ (.convert src dst x) σ = aConv P src dst (ρ x) σ := (rfl)
  rw [e]
  cases aConv P src dst (ρ x) σ <;> rfl
theorem ax_conv1 {src dst : TypeId} {x : Operand} (h : opKind P (.convert src dst x) = 1) : aexec P call ρ (.convert src dst x) K σ = oB (aalloc P ρ (.convert src dst x)) (fun r => K (r.2 σ.length) (σ ++ [r.1])) ⟨⟩ := by
  unfold aexec; simp only [h]
  cases aalloc P ρ (.convert src dst x) <;> rfl
theorem ax_makeFunc (fn : Fn) (a b : Array Operand) : aexec P call ρ (.makeFunc fn a b) K σ = oB (some (AV.fn fn (a.toList.map ρ) (b.toList.map ρ))) (fun v => K v σ) ⟨⟩ := (rfl)
theorem ax_slice (t : TypeId) (x : Operand) (lo hi mx : Option Operand) : aexec P call ρ (.slice t x lo hi mx) K σ = oB (aSlice P t (ρ x) (lo.map ρ) (hi.map ρ) (mx.map ρ)) (fun v => K v σ) ⟨⟩ := by kernel_rfl
theorem ax_fieldAddr (s : TypeId) (x : Operand) (f : Nat) : aexec P call ρ (.fieldAddr s x f) K σ = oB (aFieldAddr P s (ρ x) f) (fun v => K v σ) ⟨⟩ := by kernel_rfl
theorem ax_field (s : TypeId) (x : Operand) (f : Nat) : aexec P call ρ (.field s x f) K σ = oB (aField P s (ρ x) f) (fun v => K v σ) ⟨⟩ := by kernel_rfl
theorem ax_indexAddr (t : TypeId) (x i : Operand) : aexec P call ρ (.indexAddr t x i) K σ = oB (aIndexAddr P t (ρ x) (ρ i)) (fun v => K v σ) ⟨⟩ := by kernel_rfl
theorem ax_index (t : TypeId) (x i : Operand) : aexec P call ρ (.index t x i) K σ = oB (aIndex P t (ρ x) (ρ i)) (fun v => K v σ) ⟨⟩ := by kernel_rfl
theorem ax_lookup (t : TypeId) (m k : Operand) (ok : Bool) : aexec P call ρ (.lookup t m k ok) K σ = oB (aLookup P t (ρ m) (ρ k) ok σ) (fun v => K v σ) ⟨⟩ := by kernel_rfl
theorem ax_extract (t : Operand) (i : Nat) : aexec P call ρ (.extract t i) K σ = oB (aExtract (ρ t) i) (fun v => K v σ) ⟨⟩ := by kernel_rfl
theorem ax_build (t : TypeId) (parts : Array (Nat × Operand)) : aexec P call ρ (.build t parts) K σ = oB (aBuilt P t (parts.toList.map fun p => (p.1, ρ p.2))) (fun v => K (.agg v) σ) ⟨⟩ := by
  show (match ((aBuilt P t (parts.toList.map fun p => (p.1, ρ p.2))).map AV.agg) with | some v => K v σ | none => False) = _
  cases aBuilt P t (parts.toList.map fun p => (p.1, ρ p.2)) <;> rfl
theorem ax_entry (it : Operand) : aexec P call ρ (.entry it) K σ = oB (aEntry (ρ it) σ) (fun v => K v σ) ⟨⟩ := by kernel_rfl
theorem ax_typeAssert (x : Operand) (t a : TypeId) (ok : Bool) : aexec P call ρ (.typeAssert x t a ok) K σ = oB (aAssert P (ρ x) a ok) (fun v => K v σ) ⟨⟩ := by kernel_rfl
theorem ax_makeInterface (t : TypeId) (x : Operand) : aexec P call ρ (.makeInterface t x) K σ = oB (if isIface P t then none else some (AV.iface t (ρ x))) (fun v => K v σ) ⟨⟩ := by kernel_rfl
theorem ax_alloc (t : TypeId) : aexec P call ρ (.alloc t) K σ = oB (zeroCellsOf P t) (fun z => K (.ptr σ.length 0) (σ ++ [.cells z t])) ⟨⟩ := by
  show (match ((zeroCellsOf P t).map fun z => ((.cells z t, fun i => .ptr i 0) : AObj × (Nat → AV))) with | some r => K (r.2 σ.length) (σ ++ [r.1]) | none => False) = _
  cases zeroCellsOf P t <;> rfl
theorem ax_box (t : TypeId) (x : Operand) : aexec P call ρ (.box t x) K σ = oB (acells (ρ x)) (fun z => K (.ptr σ.length 0) (σ ++ [.cells z t])) ⟨⟩ := by
  show (match ((acells (ρ x)).map fun z => ((.cells z t, fun i => .ptr i 0) : AObj × (Nat → AV))) with | some r => K (r.2 σ.length) (σ ++ [r.1]) | none => False) = _
  cases acells (ρ x) <;> rfl
theorem ax_makeMap (t : TypeId) : aexec P call ρ (.makeMap t none) K σ = K (.map σ.length) (σ ++ [.map [] 0]) := (rfl)
theorem ax_buildSlice {t e : TypeId} {m k : Nat} {z : List AV} (hu : P.underlying t = some (.slice e)) (hk : tySize P e = some k) (hz : zeroCellsOf P e = some z) (parts : Array (Nat × Operand)) (hm : m * k ≤ 2 ^ 24) :
    aexec P call ρ (.buildSlice t m parts) K σ = oB (afill (fun i => some (i * k, k)) (azeros (if m * k = 0 then [] else z) (m * k)) (parts.toList.map fun p => (p.1, ρ p.2))) (fun cs => K (.sl σ.length 0 m (.exact m)) (σ ++ [.cells cs e])) ⟨⟩ := by
  have : aalloc P ρ (.buildSlice t m parts) = (afill (fun i => some (i * k, k)) (azeros (if m * k = 0 then [] else z) (m * k)) (parts.toList.map fun p => (p.1, ρ p.2))).map fun cs => (.cells cs e, fun i => .sl i 0 m (.exact m)) := by
    simp only [aalloc, hu, hk, hz, if_neg (Nat.not_lt.2 hm)]
    cases afill (fun i => some (i * k, k)) (azeros (if m * k = 0 then [] else z) (m * k)) (parts.toList.map fun p => (p.1, ρ p.2)) <;> rfl
  show (match aalloc P ρ (.buildSlice t m parts) with | some r => K (r.2 σ.length) (σ ++ [r.1]) | none => False) = _
  rw [this]
  cases afill (fun i => some (i * k, k)) (azeros (if m * k = 0 then [] else z) (m * k)) (parts.toList.map fun p => (p.1, ρ p.2)) <;> rfl
theorem ax_makeSlice (t : TypeId) (l c : Operand) : aexec P call ρ (.makeSlice t l c) K σ = oB (aalloc P ρ (.makeSlice t l c)) (fun r => K (r.2 σ.length) (σ ++ [r.1])) ⟨⟩ := by kernel_rfl
theorem ax_store (t : TypeId) (a v : Operand) : aexec P call ρ (.store t a v) K σ = oB (aStore P t (ρ a) (ρ v) σ) (fun σ' => K (.tup []) σ') ⟨⟩ := by kernel_rfl
theorem ax_mapUpdate (t : TypeId) (m k v : Operand) : aexec P call ρ (.mapUpdate t m k v) K σ = oB (aMapUpd P t (ρ m) (ρ k) (ρ v) σ) (fun σ' => K (.tup []) σ') ⟨⟩ := by kernel_rfl
theorem ax_insert (t : TypeId) (m k v : Operand) : aexec P call ρ (.insert t m k v) K σ = oB (aMapUpd P t (ρ m) (ρ k) (ρ v) σ) (fun σ' => K (.tup []) σ') ⟨⟩ := by kernel_rfl
theorem ax_range (t : TypeId) (x : Operand) : aexec P call ρ (.range t x) K σ = oB (aRange P t (ρ x) σ) (fun o => K (.ptr σ.length 0) (σ ++ [o])) ⟨⟩ := by kernel_rfl
theorem ax_next (it : Operand) (b : Bool) : aexec P call ρ (.next it b) K σ = oB (aNext (ρ it) b σ) (fun l => ∀ p, p ∈ l → K p.1 p.2) ⟨⟩ := by kernel_rfl
theorem ax_append (s x : Operand) (tys : Array TypeId) : aexec P call ρ (.call { callee := .builtin .append, args := #[s, x], argTypes := tys }) K σ = oB (aAppend P tys (ρ s) (ρ x) σ) (fun r => K r.1 r.2) ⟨⟩ := by kernel_rfl
theorem ax_copy (s x : Operand) (tys : Array TypeId) : aexec P call ρ (.call { callee := .builtin .copy, args := #[s, x], argTypes := tys }) K σ = oB (aCopy P tys (ρ s) (ρ x) σ) (fun r => K r.1 r.2) ⟨⟩ := by kernel_rfl
theorem ax_delete {m k : Operand} {tys : Array TypeId} {t : TypeId} (h : tys[0]? = some t) : aexec P call ρ (.call { callee := .builtin .delete, args := #[m, k], argTypes := tys }) K σ = oB (aDelete P t (ρ m) (ρ k) σ) (fun σ' => K (.tup []) σ') ⟨⟩ := by
  show (match [ρ m, ρ k], tys[0]? with
    | [m, k], some t => match aDelete P t m k σ with
      | some σ' => K (.tup []) σ'
      | none => False
    | _, _ => False) = _
  rw [h]
  dsimp only
  cases aDelete P t (ρ m) (ρ k) σ <;> rfl
theorem ax_clear {m : Operand} {tys : Array TypeId} {t : TypeId} (h : tys[0]? = some t) : aexec P call ρ (.call { callee := .builtin .clear, args := #[m], argTypes := tys }) K σ = oB (aClear P t (ρ m) σ) (fun σ' => K (.tup []) σ') ⟨⟩ := by
  show (match [ρ m], tys[0]? with
    | [x], some t => match aClear P t x σ with
      | some σ' => K (.tup []) σ'
      | none => False
    | _, _ => False) = _
  rw [h]
  dsimp only
  cases aClear P t (ρ m) σ <;> rfl
theorem ax_len (x : Operand) (tys : Array TypeId) : aexec P call ρ (.call { callee := .builtin .len, args := #[x], argTypes := tys }) K σ = oB (aBuiltin P .len tys [ρ x] σ) (fun v => K v σ) ⟨⟩ := by kernel_rfl
theorem ax_cap (x : Operand) (tys : Array TypeId) : aexec P call ρ (.call { callee := .builtin .cap, args := #[x], argTypes := tys }) K σ = oB (aBuiltin P .cap tys [ρ x] σ) (fun v => K v σ) ⟨⟩ := by kernel_rfl
theorem ax_max (x y : Operand) (tys : Array TypeId) : aexec P call ρ (.call { callee := .builtin .max, args := #[x, y], argTypes := tys }) K σ = oB (aMax2 (ρ x) (ρ y)) (fun v => K v σ) ⟨⟩ := by kernel_rfl
theorem ax_min (x y : Operand) (tys : Array TypeId) : aexec P call ρ (.call { callee := .builtin .min, args := #[x, y], argTypes := tys }) K σ = oB (aMin2 (ρ x) (ρ y)) (fun v => K v σ) ⟨⟩ := by kernel_rfl
theorem ax_call (f : Operand) (args : Array Operand) (tys : Array TypeId) : aexec P call ρ (.call { callee := .value f, args := args, argTypes := tys }) K σ = acv P call (ρ f) (args.toList.map ρ) K σ ⟨⟩ := by
  show (match ρ f with
    | .fn (.func g) first captured => if callable P g then call g (first ++ args.toList.map ρ ++ captured) K σ else False
    | _ => False) = _
  unfold acv
  split <;> rfl

theorem av_load (t : TypeId) (a : Operand) : aval P ρ (.load t a) σ = aLoad P t (ρ a) σ := (rfl)
theorem av_nilCheck (x : Operand) : aval P ρ (.nilCheck x) σ = aNil (ρ x) := (rfl)
theorem av_move (x : Operand) : aval P ρ (.move x) σ = some (ρ x) := (rfl)
theorem av_pick (c a b : Operand) : aval P ρ (.pick c a b) σ = aPick (ρ c) (ρ a) (ρ b) := (rfl)
theorem av_extract (t : Operand) (i : Nat) : aval P ρ (.extract t i) σ = aExtract (ρ t) i := (rfl)
theorem av_binOp (op : BinOp) (t : TypeId) (x y : Operand) (u : TypeId) : aval P ρ (.binOp op t x y u) σ = aBin P op t (isC x || isC y) (ρ x) (ρ y) := (rfl)
theorem av_fieldAddr (s : TypeId) (x : Operand) (f : Nat) : aval P ρ (.fieldAddr s x f) σ = aFieldAddr P s (ρ x) f := (rfl)
theorem av_indexAddr (t : TypeId) (x i : Operand) : aval P ρ (.indexAddr t x i) σ = aIndexAddr P t (ρ x) (ρ i) := (rfl)
theorem av_lookup (t : TypeId) (m k : Operand) (ok : Bool) : aval P ρ (.lookup t m k ok) σ = aLookup P t (ρ m) (ρ k) ok σ := (rfl)
theorem av_len (x : Operand) (tys : Array TypeId) : aval P ρ (.call { callee := .builtin .len, args := #[x], argTypes := tys }) σ = aBuiltin P .len tys [ρ x] σ := (rfl)

/-! ### Values -/
theorem aNil_ptr (i o : Nat) : aNil (.ptr i o) = some (.ptr i o) := (rfl)
theorem aNil_fn (f : FuncId) (a b : List AV) : aNil (.fn (.func f) a b) = some (.fn (.func f) a b) := (rfl)
theorem aNil_iface (t : TypeId) (v : AV) : aNil (.iface t v) = some (.iface t v) := (rfl)
theorem aPick_and (b : Bool) (x : Bool) : aPick (.bool b) (.bool x) (.bool false) = some (.bool (b && x)) := by cases b <;> rfl
theorem aPick_or (b : Bool) (x : Bool) : aPick (.bool b) (.bool true) (.bool x) = some (.bool (b || x)) := by cases b <;> rfl
theorem aPick_t (x y : AV) : aPick (.bool true) x y = some x := (rfl)
theorem aPick_f (x y : AV) : aPick (.bool false) x y = some y := (rfl)
theorem aExtract_0 (v : AV) (l : List AV) : aExtract (.tup (v :: l)) 0 = some v := (rfl)
theorem aExtract_1 (u v : AV) (l : List AV) : aExtract (.tup (u :: v :: l)) 1 = some v := (rfl)
theorem aExtract_2 (u v w : AV) (l : List AV) : aExtract (.tup (u :: v :: w :: l)) 2 = some w := (rfl)
theorem aExtract_3 (u v w x : AV) (l : List AV) : aExtract (.tup (u :: v :: w :: x :: l)) 3 = some x := (rfl)
variable {t : TypeId} {cx : Bool}
theorem aBin_add (k : IntKind) (x y : Int) : aBin P .add t cx (.int k x) (.int k y) = some (.int k (k.wrap (x + y))) := by simp [aBin, aIntBin]
theorem aBin_sub (k : IntKind) (x y : Int) : aBin P .sub t cx (.int k x) (.int k y) = some (.int k (k.wrap (x - y))) := by simp [aBin, aIntBin]
theorem aBin_mul (k : IntKind) (x y : Int) : aBin P .mul t cx (.int k x) (.int k y) = some (.int k (k.wrap (x * y))) := by simp [aBin, aIntBin]
theorem aBin_quo (k : IntKind) (x y : Int) (h : y ≠ 0) : aBin P .quo t cx (.int k x) (.int k y) = some (.int k (k.wrap (x.tdiv y))) := by simp [aBin, aIntBin, h]
theorem aBin_rem (k : IntKind) (x y : Int) (h : y ≠ 0) : aBin P .rem t cx (.int k x) (.int k y) = some (.int k (x.tmod y)) := by simp [aBin, aIntBin, h]
theorem aBin_and (k : IntKind) (x y : Int) : aBin P .and t cx (.int k x) (.int k y) = some (.int k (k.wrap (BitVec.ofInt k.bits x &&& BitVec.ofInt k.bits y).toNat)) := by simp [aBin, aIntBin]
theorem aBin_or (k : IntKind) (x y : Int) : aBin P .or t cx (.int k x) (.int k y) = some (.int k (k.wrap (BitVec.ofInt k.bits x ||| BitVec.ofInt k.bits y).toNat)) := by simp [aBin, aIntBin]
theorem aBin_xor (k : IntKind) (x y : Int) : aBin P .xor t cx (.int k x) (.int k y) = some (.int k (k.wrap (BitVec.ofInt k.bits x ^^^ BitVec.ofInt k.bits y).toNat)) := by simp [aBin, aIntBin]
theorem aBin_eql (k : IntKind) (x y : Int) : aBin P .eql t cx (.int k x) (.int k y) = some (.bool (decide (x = y))) := by
  simp only [aBin, aIntBin, if_true]
  congr 2
theorem aBin_neq (k : IntKind) (x y : Int) : aBin P .neq t cx (.int k x) (.int k y) = some (.bool (!decide (x = y))) := by
  simp only [aBin, aIntBin, if_true]
  congr 2
theorem aBin_lss (k : IntKind) (x y : Int) : aBin P .lss t cx (.int k x) (.int k y) = some (.bool (decide (x < y))) := by simp [aBin, aIntBin]
theorem aBin_leq (k : IntKind) (x y : Int) : aBin P .leq t cx (.int k x) (.int k y) = some (.bool (decide (x ≤ y))) := by simp [aBin, aIntBin]
theorem aBin_gtr (k : IntKind) (x y : Int) : aBin P .gtr t cx (.int k x) (.int k y) = some (.bool (decide (y < x))) := by simp [aBin, aIntBin]
theorem aBin_geq (k : IntKind) (x y : Int) : aBin P .geq t cx (.int k x) (.int k y) = some (.bool (decide (y ≤ x))) := by simp [aBin, aIntBin]
theorem aBin_shl (k k' : IntKind) (x y : Int) : aBin P .shl t cx (.int k x) (.int k' y) = aShift .shl k x y := by simp [aBin]
theorem aBin_shr (k k' : IntKind) (x y : Int) : aBin P .shr t cx (.int k x) (.int k' y) = aShift .shr k x y := by simp [aBin]
theorem aShift_shl (k : IntKind) (x y : Int) (h : 0 ≤ y) : aShift .shl k x y = some (.int k (k.wrap (x * 2 ^ min y.toNat k.bits))) := by simp [aShift, Int.not_lt.2 h]
theorem aShift_shr (k : IntKind) (x y : Int) (h : 0 ≤ y) : aShift .shr k x y = some (.int k (x.fdiv (2 ^ min y.toNat k.bits))) := by simp [aShift, Int.not_lt.2 h]
theorem aBin_seql (x y : List UInt8) : aBin P .eql t cx (.str x) (.str y) = some (.bool (x == y)) := by simp [aBin, aStrBin]
theorem aBin_sneq (x y : List UInt8) : aBin P .neq t cx (.str x) (.str y) = some (.bool !(x == y)) := by simp [aBin, aStrBin]
theorem aBin_slss (x y : List UInt8) : aBin P .lss t cx (.str x) (.str y) = some (.bool (Op.bytesLess x y)) := by simp [aBin, aStrBin]
theorem aBin_beql (h : P.underlying t = some .bool) (x y : Bool) : aBin P .eql t cx (.bool x) (.bool y) = some (.bool (x == y)) := by simp [aBin, aEq, h, aEq1, isAggD, eqOk]
theorem aBin_bneq (h : P.underlying t = some .bool) (x y : Bool) : aBin P .neq t cx (.bool x) (.bool y) = some (.bool !(x == y)) := by simp [aBin, aEq, h, aEq1, isAggD, eqOk]
theorem aUn_not (b : Bool) : aUn .not (.bool b) = some (.bool !b) := (rfl)
theorem aUn_neg (k : IntKind) (x : Int) : aUn .neg (.int k x) = some (.int k (k.wrap (0 - x))) := (rfl)

theorem wrap_s64 {x : Int} (h : -9223372036854775808 ≤ x) (k : x ≤ 9223372036854775807) : IntKind.i64.wrap x = x := by
  simp only [IntKind.wrap, IntKind.bits, IntKind.signed, Bool.true_and]
  split
  · rename_i c
    have c1 := of_decide_eq_true c
    have c2 : x % 18446744073709551616 ≥ 9223372036854775808 := c1
    omega
  · rename_i c
    have c2 : ¬ (x % 18446744073709551616 ≥ 9223372036854775808) := fun q => c (decide_eq_true q)
    omega
theorem wrap_u64 {x : Int} (h : 0 ≤ x) (k : x ≤ 18446744073709551615) : IntKind.u64.wrap x = x := by
  simp only [IntKind.wrap, IntKind.bits, IntKind.signed, Bool.false_and, Bool.false_eq_true, if_false]
  omega
theorem wrap_u8 {x : Int} (h : 0 ≤ x) (k : x ≤ 255) : IntKind.u8.wrap x = x := by
  simp only [IntKind.wrap, IntKind.bits, IntKind.signed, Bool.false_and, Bool.false_eq_true, if_false]
  omega
theorem wrap_u32 {x : Int} (h : 0 ≤ x) (k : x ≤ 4294967295) : IntKind.u32.wrap x = x := by
  simp only [IntKind.wrap, IntKind.bits, IntKind.signed, Bool.false_and, Bool.false_eq_true, if_false]
  omega

/-! ### Cells -/
theorem rdCell_get {σ : Store} {i o : Nat} {vs : List AV} {ty : TypeId} (h : σ[i]? = some (.cells vs ty)) : rdCell σ i o = vs[o]? := by simp [rdCell, h]
theorem wrCells_get {σ : Store} {i o : Nat} {vs cs : List AV} {ty : TypeId} (h : σ[i]? = some (.cells vs ty)) (hl : o + cs.length ≤ vs.length) (hc : cs.all AV.one = true) : wrCells σ i o cs = some (σ.set i (.cells (aput vs o cs) ty)) := by
  simp only [wrCells, h, hl, hc, and_self, if_true]
theorem aStore_ptr {k : Nat} (hk : tySize P t = some k) {i o : Nat} {v : AV} {cs : List AV} (hc : acells v = some cs) (hl : cs.length = k) : aStore P t (.ptr i o) v σ = wrCells σ i o cs := by
  simp only [aStore, hc, hk, hl, if_true]

def aStoreK (k i o : Nat) (v : AV) (σ : Store) : Option Store := match acells v with
  | some cs => if cs.length = k then wrCells σ i o cs else none
  | none => none
theorem aStore_K {k : Nat} (hk : tySize P t = some k) (i o : Nat) (v : AV) (σ : Store) : aStore P t (.ptr i o) v σ = aStoreK k i o v σ := by
  unfold aStore aStoreK
  rw [hk]
  cases acells v <;> rfl
theorem stK_agg {k i o : Nat} {cs : List AV} (h : cs.length = k) : aStoreK k i o (.agg cs) σ = wrCells σ i o cs := by simp [aStoreK, acells, h]
theorem stK_int (i o : Nat) (k : IntKind) (x : Int) : aStoreK 1 i o (.int k x) σ = wrCells σ i o [.int k x] := (rfl)
theorem stK_bool (i o : Nat) (x : Bool) : aStoreK 1 i o (.bool x) σ = wrCells σ i o [.bool x] := (rfl)
theorem stK_str (i o : Nat) (x : List UInt8) : aStoreK 1 i o (.str x) σ = wrCells σ i o [.str x] := (rfl)
theorem stK_ptr (i o a b : Nat) : aStoreK 1 i o (.ptr a b) σ = wrCells σ i o [.ptr a b] := (rfl)
theorem stK_ptrNil (i o : Nat) : aStoreK 1 i o .ptrNil σ = wrCells σ i o [.ptrNil] := (rfl)
theorem stK_sl (i o a b c : Nat) (d : Cap) : aStoreK 1 i o (.sl a b c d) σ = wrCells σ i o [.sl a b c d] := (rfl)
theorem stK_slNil (i o : Nat) : aStoreK 1 i o .slNil σ = wrCells σ i o [.slNil] := (rfl)
theorem stK_map (i o a : Nat) : aStoreK 1 i o (.map a) σ = wrCells σ i o [.map a] := (rfl)
theorem stK_mapNil (i o : Nat) : aStoreK 1 i o .mapNil σ = wrCells σ i o [.mapNil] := (rfl)
theorem stK_fn (i o : Nat) (f : Fn) (a b : List AV) : aStoreK 1 i o (.fn f a b) σ = wrCells σ i o [.fn f a b] := (rfl)
theorem stK_fnNil (i o : Nat) : aStoreK 1 i o .fnNil σ = wrCells σ i o [.fnNil] := (rfl)
theorem stK_ifaceNil (i o : Nat) : aStoreK 1 i o .ifaceNil σ = wrCells σ i o [.ifaceNil] := (rfl)
theorem ac_agg (cs : List AV) : acells (.agg cs) = some cs := (rfl)
theorem ac_int (k : IntKind) (x : Int) : acells (.int k x) = some [.int k x] := (rfl)
theorem ac_bool (x : Bool) : acells (.bool x) = some [.bool x] := (rfl)
theorem ac_str (x : List UInt8) : acells (.str x) = some [.str x] := (rfl)
theorem ac_ptr (a b : Nat) : acells (.ptr a b) = some [.ptr a b] := (rfl)
theorem ac_ptrNil : acells .ptrNil = some [.ptrNil] := (rfl)
theorem ac_sl (a b c : Nat) (d : Cap) : acells (.sl a b c d) = some [.sl a b c d] := (rfl)
theorem ac_slNil : acells .slNil = some [.slNil] := (rfl)
theorem ac_map (a : Nat) : acells (.map a) = some [.map a] := (rfl)
theorem ac_fn (f : Fn) (a b : List AV) : acells (.fn f a b) = some [.fn f a b] := (rfl)

/-! ### What lies behind a store that was there -/
variable {g : Store}
theorem get_new (k : Nat) : (σ ++ g)[σ.length + k]? = g[k]? := by
  rw [List.getElem?_append_right (Nat.le_add_right _ _), Nat.add_sub_cancel_left]
theorem get_new0 : (σ ++ g)[σ.length]? = g[0]? := get_new 0
theorem get_old {i : Nat} (h : i < σ.length) : (σ ++ g)[i]? = σ[i]? := List.getElem?_append_left h
theorem rd_new (k o : Nat) : rdCell (σ ++ g) (σ.length + k) o = rdCell g k o := by simp only [rdCell, get_new]
theorem rd_new0 (o : Nat) : rdCell (σ ++ g) σ.length o = rdCell g 0 o := rd_new 0 o
theorem rd_old {i : Nat} (h : i < σ.length) (o : Nat) : rdCell (σ ++ g) i o = rdCell σ i o := by simp only [rdCell, get_old h]
theorem set_new (k : Nat) (x : AObj) : (σ ++ g).set (σ.length + k) x = σ ++ g.set k x := by
  rw [List.set_append_right _ _ (Nat.le_add_right _ _), Nat.add_sub_cancel_left]
theorem set_new0 (x : AObj) : (σ ++ g).set σ.length x = σ ++ g.set 0 x := set_new 0 x
theorem set_old {i : Nat} (h : i < σ.length) (x : AObj) : (σ ++ g).set i x = σ.set i x ++ g := List.set_append_left _ _ h
theorem wr_new (k o : Nat) (cs : List AV) : wrCells (σ ++ g) (σ.length + k) o cs = (wrCells g k o cs).map (σ ++ ·) := by
  unfold wrCells
  rw [get_new]
  split
  · split
    · simp [set_new]
    · rfl
  · rfl
theorem wr_new0 (o : Nat) (cs : List AV) : wrCells (σ ++ g) σ.length o cs = (wrCells g 0 o cs).map (σ ++ ·) := wr_new 0 o cs
theorem wr_old {i : Nat} (h : i < σ.length) (o : Nat) (cs : List AV) : wrCells (σ ++ g) i o cs = (wrCells σ i o cs).map (· ++ g) := by
  unfold wrCells
  rw [get_old h]
  split
  · split
    · simp [set_old h]
    · rfl
  · rfl
theorem rdCells_congr {σ τ : Store} {i : Nat} (h : τ[i]? = σ[i]?) : ∀ (n o : Nat), rdCells τ i o n = rdCells σ i o n
  | 0, _ => rfl
  | n + 1, o => by
    unfold rdCells
    rw [rdCells_congr h n]
    simp only [rdCell, h]
theorem rds_new (k o n : Nat) : rdCells (σ ++ g) (σ.length + k) o n = rdCells g k o n := by
  induction n generalizing o with
  | zero => rfl
  | succ n ih => unfold rdCells; rw [rd_new, ih]
theorem rds_new0 (o n : Nat) : rdCells (σ ++ g) σ.length o n = rdCells g 0 o n := rds_new 0 o n
theorem rds_old {i : Nat} (h : i < σ.length) (o n : Nat) : rdCells (σ ++ g) i o n = rdCells σ i o n := rdCells_congr (get_old h) n o
theorem rdCells_get {i : Nat} {vs : List AV} {ty : TypeId} (h : σ[i]? = some (.cells vs ty)) : ∀ (n o : Nat), o + n ≤ vs.length → rdCells σ i o n = some ((vs.drop o).take n)
  | 0, o, _ => by simp [rdCells]
  | n + 1, o, hl => by
    unfold rdCells
    have hlt : o < vs.length := by omega
    rw [rdCell_get h, List.getElem?_eq_getElem hlt, rdCells_get h n (o + 1) (by omega)]
    rw [List.drop_eq_getElem_cons hlt, List.take_succ_cons]
theorem rds_1 {vs : List AV} {ty : TypeId} {r : Store} (n o : Nat) (h : o + n ≤ vs.length) : rdCells (.cells vs ty :: r) 0 o n = some ((vs.drop o).take n) := rdCells_get rfl n o h
theorem rd_1 {vs : List AV} {ty : TypeId} {r : Store} (o : Nat) : rdCell (.cells vs ty :: r) 0 o = vs[o]? := (rfl)
theorem rd_2 {x : AObj} {r : Store} (k o : Nat) : rdCell (x :: r) (k + 1) o = rdCell r k o := (rfl)
theorem wr_1 {vs cs : List AV} {ty : TypeId} {r : Store} {o : Nat} (hl : o + cs.length ≤ vs.length) (hc : cs.all AV.one = true) : wrCells (.cells vs ty :: r) 0 o cs = some (.cells (aput vs o cs) ty :: r) := by
  rw [wrCells_get (i := 0) rfl hl hc]; rfl
theorem wr_2 {x : AObj} {r : Store} (k o : Nat) (cs : List AV) : wrCells (x :: r) (k + 1) o cs = (wrCells r k o cs).map (x :: ·) := by
  unfold wrCells
  rw [List.getElem?_cons_succ]
  cases r[k]? with
  | none => rfl
  | some ob =>
    cases ob with
    | cells vs ty =>
      simp only [List.set_cons_succ]
      split <;> rfl
    | _ => rfl
theorem rds_2 {x : AObj} {r : Store} (k o n : Nat) : rdCells (x :: r) (k + 1) o n = rdCells r k o n := by
  induction n generalizing o with
  | zero => rfl
  | succ n ih => unfold rdCells; rw [rd_2, ih]
def obd {α β : Type} (o : Option α) (k : α → Option β) (u : Dep k) : Option β := o.bind k
theorem obd_some {α β : Type} (v : α) (k : α → Option β) (u : Dep k) : obd (some v) k u = k v := (rfl)
theorem afill_nil (p : Nat → Option (Nat × Nat)) (zs : List AV) : afill p zs [] = some zs := (rfl)
theorem afill_cons (p : Nat → Option (Nat × Nat)) (zs : List AV) (i : Nat) (v : AV) (r : List (Nat × AV)) : afill p zs ((i, v) :: r) =
    obd (p i) (fun q => obd (acells v) (fun cs => if cs.length = q.2 ∧ q.1 + cs.length ≤ zs.length then afill p (aput zs q.1 cs) r else none) ⟨⟩) ⟨⟩ := by
  conv => lhs; unfold afill
  unfold obd
  cases p i with
  | none => rfl
  | some q =>
    cases acells v with
    | none => rfl
    | some cs =>
      simp only [Option.bind_some]
      by_cases h : cs.length ≠ q.2 ∨ q.1 + cs.length > zs.length
      · have h1 : (cs.length ≠ q.2 || q.1 + cs.length > zs.length) = true := by simpa using h
        have h2 : ¬ (cs.length = q.2 ∧ q.1 + cs.length ≤ zs.length) := by omega
        rw [if_pos h1, if_neg h2]
      · have h1 : ¬ ((cs.length ≠ q.2 || q.1 + cs.length > zs.length) = true) := by simpa using h
        rw [if_neg h1, if_pos (by omega)]
theorem aput_nil (zs : List AV) (o : Nat) : aput zs o [] = zs := (rfl)
theorem aput_cons (zs : List AV) (o : Nat) (c : AV) (r : List AV) : aput zs o (c :: r) = aput (zs.set o c) (o + 1) r := (rfl)
end
end Go.Proofs.Ytbkmjmhoclflnaa.Fw
