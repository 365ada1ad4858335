/- Help for the walks. -/
import Derived.Test.YtbkmjmhoclflnaaFw25
namespace Go.Proofs.Ytbkmjmhoclflnaa.Fw
open Go Go.RowKit
set_option linter.unusedVariables false
set_option linter.unusedSimpArgs false

section
variable {P : Program}
theorem ax_clear' {call : CallT} {ρ : Operand → AV} {K : Kont} {σ : Store} (m : Operand) (t : TypeId) : aexec P call ρ (.call { callee := .builtin .clear, args := #[m], argTypes := #[t] }) K σ = oB (aClear P t (ρ m) σ) (fun σ' => K (.tup []) σ') ⟨⟩ := ax_clear rfl
theorem ax_delete' {call : CallT} {ρ : Operand → AV} {K : Kont} {σ : Store} (m k : Operand) (t u : TypeId) : aexec P call ρ (.call { callee := .builtin .delete, args := #[m, k], argTypes := #[t, u] }) K σ = oB (aDelete P t (ρ m) (ρ k) σ) (fun σ' => K (.tup []) σ') ⟨⟩ := ax_delete rfl

/-! ### Strings in order -/
theorem blt_irrefl : ∀ x : List UInt8, Op.bytesLess x x = false
  | [] => rfl
  | a :: x => by simp [Op.bytesLess, blt_irrefl x]
theorem blt_tri : ∀ x y : List UInt8, (!(Op.bytesLess x y || x == y)) = Op.bytesLess y x
  | [], [] => rfl
  | [], b :: y => rfl
  | a :: x, [] => rfl
  | a :: x, b :: y => by
    have ih := blt_tri x y
    simp only [Op.bytesLess, List.cons_beq_cons]
    by_cases h : a < b
    · have h1 : ¬ b < a := fun h2 => UInt8.lt_irrefl _ (UInt8.lt_trans h h2)
      have h2 : (b == a) = false := by simp; rintro rfl; exact UInt8.lt_irrefl _ h
      simp [h, h1, h2]
    · by_cases e : a = b
      · subst e
        simp [UInt8.lt_irrefl] at ih ⊢
        exact ih
      · have h1 : b < a := by
          have h3 : ¬ a.toNat < b.toNat := fun q => h (UInt8.lt_iff_toNat_lt.2 q)
          have h4 : a.toNat ≠ b.toNat := fun q => e (UInt8.toNat_inj.1 q)
          exact UInt8.lt_iff_toNat_lt.2 (by omega)
        simp [h, e, h1]
theorem blt_asymm {x y : List UInt8} (h : Op.bytesLess x y = true) : Op.bytesLess y x = false := by rw [← blt_tri x y]; simp [h]
theorem blt_conn {x y : List UInt8} (h : Op.bytesLess x y = false) (k : Op.bytesLess y x = false) : x = y := by
  have := blt_tri x y
  rw [h, k] at this
  simpa using this
theorem blt_trans : ∀ {x y z : List UInt8}, Op.bytesLess x y = true → Op.bytesLess y z = true → Op.bytesLess x z = true
  | _, [], _, h, _ => by simp [Op.bytesLess] at h
  | _, _ :: _, [], _, h => by simp [Op.bytesLess] at h
  | [], _ :: _, _ :: _, _, _ => rfl
  | a :: x, b :: y, c :: z, h, k => by
    simp only [Op.bytesLess, Bool.or_eq_true, decide_eq_true_eq, Bool.and_eq_true, beq_iff_eq] at h k ⊢
    rcases h with h | ⟨rfl, h⟩
    · rcases k with k | ⟨rfl, k⟩
      · exact .inl (UInt8.lt_trans h k)
      · exact .inl h
    · rcases k with k | ⟨rfl, k⟩
      · exact .inl k
      · exact .inr ⟨rfl, blt_trans h k⟩
theorem aBin_sgtr {t : TypeId} {cx : Bool} (x y : List UInt8) : aBin P .gtr t cx (.str x) (.str y) = some (.bool (Op.bytesLess y x)) := by
  simp only [aBin, aStrBin]; rw [blt_tri]
theorem aBin_sgeq {t : TypeId} {cx : Bool} (x y : List UInt8) : aBin P .geq t cx (.str x) (.str y) = some (.bool (!Op.bytesLess x y)) := by simp [aBin, aStrBin]
theorem aBin_sleq {t : TypeId} {cx : Bool} (x y : List UInt8) : aBin P .leq t cx (.str x) (.str y) = some (.bool (!Op.bytesLess y x)) := by
  simp only [aBin, aStrBin]; rw [← blt_tri x y]; simp

/-! ### Numbers that do not run over -/
theorem wadd (a b : Nat) (h : a + b < 9223372036854775808) : IntKind.i64.wrap ((a : Int) + (b : Int)) = ((a + b : Nat) : Int) := by rw [wrap_s64 (by omega) (by omega)]; omega
theorem wadd1 (a : Nat) (h : a + 1 < 9223372036854775808) : IntKind.i64.wrap ((a : Int) + 1) = ((a + 1 : Nat) : Int) := by rw [wrap_s64 (by omega) (by omega)]; omega
theorem wsub (a b : Nat) (h : b ≤ a) (k : a < 9223372036854775808) : IntKind.i64.wrap ((a : Int) - (b : Int)) = ((a - b : Nat) : Int) := by rw [wrap_s64 (by omega) (by omega)]; omega
theorem wsub1 (a : Nat) (h : 1 ≤ a) (k : a < 9223372036854775808) : IntKind.i64.wrap ((a : Int) - 1) = ((a - 1 : Nat) : Int) := by rw [wrap_s64 (by omega) (by omega)]; omega
theorem natLit (n : Nat) : ((OfNat.ofNat n : Nat) : Int) = (OfNat.ofNat n : Int) := rfl
theorem wu (a : Nat) (h : a < 18446744073709551616) : IntKind.u64.wrap (a : Int) = a := wrap_u64 (by omega) (by omega)
theorem ws (a : Nat) (h : a < 9223372036854775808) : IntKind.i64.wrap (a : Int) = a := wrap_s64 (by omega) (by omega)
theorem shr1 (x : Nat) : aShift .shr .u64 (x : Int) 1 = some (.int .u64 ((x / 2 : Nat) : Int)) := by
  have h : min (Int.toNat 1) IntKind.u64.bits = 1 := by decide
  simp only [aShift, h]
  rw [if_neg (by decide)]
  congr 2
  rw [Int.fdiv_eq_ediv_of_nonneg _ (by decide)]
  omega
theorem inat {k : IntKind} {a b : Nat} (h : a = b) : AV.int k (a : Int) = AV.int k (b : Int) := by rw [h]
theorem iint {k : IntKind} {a b : Int} (h : a = b) : AV.int k a = AV.int k b := by rw [h]
theorem dlt {a b : Nat} : decide ((a : Int) < (b : Int)) = decide (a < b) := by simp
theorem dle {a b : Nat} : decide ((a : Int) ≤ (b : Int)) = decide (a ≤ b) := by simp
theorem deq {a b : Nat} : decide ((a : Int) = (b : Int)) = decide (a = b) := by rw [decide_eq_decide]; omega

/-- Behind a round: what holds ahead of the next. -/
structure Rnd (I : Nat → Env → Store → Prop) (m : Nat) (env : Env) (σ : Store) : Prop where
  ex : ∃ m', m' < m ∧ I m' env σ
structure RndW (I : Nat → Env → Store → Prop) (m : Nat) (env : Env) (σ : Store) : Prop where
  ex : ∃ m' env2 σ2, m' < m ∧ Weak env σ env2 σ2 ∧ I m' env2 σ2
theorem Rnd.mk' {I : Nat → Env → Store → Prop} {m : Nat} {env : Env} {σ : Store} (m' : Nat) (h : m' < m) (k : I m' env σ) : Rnd I m env σ := ⟨m', h, k⟩
theorem RndW.mk' {I : Nat → Env → Store → Prop} {m : Nat} {env : Env} {σ : Store} (m' : Nat) (h : m' < m) (k : I m' env σ) : RndW I m env σ := ⟨m', env, σ, h, Weak.refl env σ, k⟩
theorem loopI {T : Table} {n m : Nat} {c : Cd} {K : KontX} {env : Env} {σ : Store} (I : Nat → Env → Store → Prop) (h : I m env σ)
    (hr : ∀ m env σ, I m env σ → wpD P (acall P T) n c (contS (Rnd I m) K) env σ) : lp P (acall P T) n c K env σ ⟨⟩ :=
  loop_inv acall_le_self I h fun m env σ hI => wpD_mono acall_le_self c (fun e env σ q => by cases e <;> first | exact q.ex | exact q) (hr m env σ hI)
theorem loopIW {T : Table} {n m : Nat} {c : Cd} {K : KontX} {env env1 : Env} {σ σ1 : Store} (I : Nat → Env → Store → Prop) (h0 : Weak env σ env1 σ1) (h : I m env1 σ1)
    (hr : ∀ m env σ, I m env σ → wpD P (acall P T) n c (contS (RndW I m) K) env σ) : lp P (acall P T) n c K env σ ⟨⟩ :=
  loop_invW acall_le_self I h0 h fun m env σ hI => wpD_mono acall_le_self c (fun e env σ q => by cases e <;> first | exact q.ex | exact q) (hr m env σ hI)
/-- One slot said otherwise. -/
theorem Weak.one {env : Env} {σ : Store} (d : Tmp) {v : AV} (h : Imp σ (env d) v) : Weak env σ (upd env d v) σ := ⟨Frz.refl σ, fun t => by
  unfold upd
  split
  · subst_vars; exact h
  · exact Imp.refl σ _⟩


theorem Frz.at {σ g : Store} {j : Nat} {vs : List AV} {ty : TypeId} (hg : g[j]? = some (.cells vs ty)) : Frz (σ ++ g) (σ ++ g.set j (.frozen vs ty)) := by
  have h : (σ ++ g)[σ.length + j]? = some (.cells vs ty) := by rw [get_new]; exact hg
  have := Frz.freeze h
  rwa [set_new] at this
/-- A fresh row answered: frozen. -/
theorem ret_row {σ g : Store} {j k : Nat} {vs : List AV} {ty : TypeId} {cap : Cap} {rows : List (List AV)} (hg : g[j]? = some (.cells vs ty)) (hr : rows.flatten = vs) (hk : ∀ r ∈ rows, r.length = k) :
    Frz (σ ++ g) (σ ++ g.set j (.frozen vs ty)) ∧ Imp (σ ++ g.set j (.frozen vs ty)) (.sl (σ.length + j) 0 rows.length cap) (.im k rows .ro) := by
  have hlt := (List.getElem?_eq_some_iff.1 hg).1
  refine ⟨Frz.at hg, Imp.frozen (vs := vs) (ty := ty) (by rw [get_new, List.getElem?_set_self hlt]) ?_ hk rfl ?_⟩
  · rw [hr, List.drop_zero, ← flat_len hk, hr, List.take_length]
  · rw [← flat_len hk, hr]; omega
theorem ret_row0 {σ g : Store} {k : Nat} {vs : List AV} {ty : TypeId} {cap : Cap} {rows : List (List AV)} (hg : g[0]? = some (.cells vs ty)) (hr : rows.flatten = vs) (hk : ∀ r ∈ rows, r.length = k) :
    Frz (σ ++ g) (σ ++ g.set 0 (.frozen vs ty)) ∧ Imp (σ ++ g.set 0 (.frozen vs ty)) (.sl σ.length 0 rows.length cap) (.im k rows .ro) := ret_row (j := 0) hg hr hk

/-- A fresh row by append: of nothing, and a frozen slice. -/
theorem app_new {t t' e : TypeId} {u : TypeDesc} {k b : Nat} {z : List AV} {rows2 : List (List AV)} {i o : Nat} {c2 : Cap} {σ : Store}
    (hu : P.underlying t = some (.slice e)) (hk : tySize P e = some k) (hz : zeroCellsOf P e = some z) (hb : tyBytes P e = some b) (hzl : z.length = k) (hu' : P.underlying t' = some u) (hui : isIntD u = false)
    (hroom : rows2.length * b ≤ 2 ^ 45 ∧ rows2.length ≤ 2 ^ 45 ∧ b ≤ 2 ^ 32) (hne : rows2 ≠ []) :
    aAppend P #[t, t'] (.sl i o 0 (.exact 0)) (.im k rows2 c2) σ = some (.sl σ.length 0 rows2.length (.spare k), σ ++ [.cells rows2.flatten e]) ∧
    aAppend P #[t, t'] .slNil (.im k rows2 c2) σ = some (.sl σ.length 0 rows2.length (.spare k), σ ++ [.cells rows2.flatten e]) := by
  have hsrc : aSrc P k e (some t') (.im k rows2 c2) σ = some (rows2.length, rows2.flatten) := by
    unfold aSrc
    simp only [Option.bind_some, hu']
    cases u <;> first | (simp [isIntD] at hui; done) | simp
  have hroom' : aRoom P e rows2.length = true := by
    unfold aRoom; rw [hb]
    simp only [Bool.and_eq_true, decide_eq_true_eq]
    exact ⟨⟨hroom.1, hroom.2.1⟩, hroom.2.2⟩
  have hn0 : ¬ rows2.length = 0 := by intro h; exact hne (List.eq_nil_of_length_eq_zero h)
  have hn1 : ¬ (0 + rows2.length ≤ 0) := by omega
  have hrd : rdCells σ i o (0 * k) = some [] := by rw [Nat.zero_mul]; rfl
  constructor
  · unfold aAppend
    simp only [List.getElem?_toArray, List.getElem?_cons_zero, List.getElem?_cons_succ, Option.bind_some, hu, hk, hz, hzl, ne_eq, not_true_eq_false, if_false, hsrc, hn0, hn1, hrd, Nat.zero_add, hroom', if_true, List.nil_append]
    simp [hn0]
  · unfold aAppend
    simp only [List.getElem?_toArray, List.getElem?_cons_zero, List.getElem?_cons_succ, Option.bind_some, hu, hk, hz, hzl, ne_eq, not_true_eq_false, if_false, hsrc, hn0, hroom', if_true]
end
end Go.Proofs.Ytbkmjmhoclflnaa.Fw
