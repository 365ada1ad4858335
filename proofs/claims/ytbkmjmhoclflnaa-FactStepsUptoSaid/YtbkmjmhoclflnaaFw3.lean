/- More operations that only read. -/
import Derived.Test.YtbkmjmhoclflnaaFw2
namespace Go.Proofs.Ytbkmjmhoclflnaa.Fw
open Go Go.RowKit
set_option linter.unusedVariables false
set_option linter.unusedSimpArgs false

section
variable {P : Program}

theorem aEq_sim {μ : Ren} {t : TypeId} {x y : AV} {x' y' : Value} (hx : VR μ x x') (hy : VR μ y y') {r : Bool} (h : aEq P t x y = some r) (w : World) :
    (Op.equal t x' y').run P w = .ok r w := by
  unfold aEq at h
  split at h
  · rename_i fs xs ys hu
    cases hx with
    | agg hxs => rename_i xs'; cases hy with
      | agg hys =>
        rename_i ys'
        split at h
        · cases h
        · rename_i hp
          have hf : P.fieldsOf t = fs := by simp [Program.fieldsOf, hu]
          have := run_equalIn_struct (P := P) w 9999 t xs' ys' (by rw [hf]; exact hu) (by simpa using hp)
          show (Op.equalIn (9999 + 1) t (.agg xs') (.agg ys')).run P w = _
          rw [this, hf]
          exact aEqFs_sim hxs hys 9998 w _ _ h
  · rename_i n e xs ys hu
    cases h
  · rename_i d hu h1 h2
    split at h
    · cases h
    · exact aEq1_sim hu hx hy h 9999 w
  · cases h

/-! ### nilCheck, pick, extract -/
def aNil : AV → Option AV
  | .ptr i o => some (.ptr i o)
  | .imp r o => some (.imp r o)
  | .fn (.func f) xs ys => some (.fn (.func f) xs ys)
  | .iface t v => some (.iface t v)
  | _ => none

def aPick (c a b : AV) : Option AV :=
  match c with
  | .bool t => some (if t then a else b)
  | _ => none

def aExtract (t : AV) (i : Nat) : Option AV :=
  match t with
  | .tup vs => vs[i]?
  | _ => none

theorem aExtract_sim {μ : Ren} {t v : AV} {t' : Value} (ht : VR μ t t') {i : Nat} (h : aExtract t i = some v) (w : World) : ∃ v', (Instr.extract t' i).run P w = .ok v' w ∧ VR μ v v' := by
  unfold aExtract at h
  split at h
  · cases ht with
    | tup hs =>
      obtain ⟨v', h1, h2⟩ := hs.get h
      refine ⟨v', ?_, h2⟩
      simp only [Instr.extract]
      rw [show (_ : Array Value)[i]? = some v' by simpa using h1]
      rfl
  · cases h

/-! ### Binary and unary operations -/
def eqOk (P : Program) (t : TypeId) (cx : Bool) (a b : AV) : Bool :=
  match a, b with
  | .ifaceNil, .ifaceNil => cx
  | .agg _, .agg _ => !(P.eqGuardType P.depth t)
  | _, _ => true

def aBin (P : Program) (op : BinOp) (t : TypeId) (cx : Bool) (a b : AV) : Option AV :=
  match a, b with
  | .int k x, .int k' y => match op with
    | .shl | .shr => aShift op k x y
    | _ => if k = k' then aIntBin op k x y else none
  | .str x, .str y => aStrBin op x y
  | a, b => if eqOk P t cx a b then (match op, aEq P t a b with
      | .eql, some r => some (.bool r)
      | .neq, some r => some (.bool !r)
      | _, _ => none) else none

def aUn (op : UnOp) (x : AV) : Option AV :=
  match op, x with
  | .neg, .int k n => some (.int k (k.wrap (0 - n)))
  | .xor, .int k n => aIntBin .xor k (if k.signed then -1 else k.max) n
  | .not, .bool b => some (.bool !b)
  | _, _ => none

theorem aUn_sim {μ : Ren} {op : UnOp} {x v : AV} {x' : Value} (hx : VR μ x x') (h : aUn op x = some v) (w : World) : ∃ v', (Op.unary op x').run P w = .ok v' w ∧ VR μ v v' := by
  unfold aUn at h
  split at h
  · cases hx; cases h; exact ⟨_, rfl, .int _ _⟩
  · cases hx; cases h; exact ⟨_, rfl, .int _ _⟩
  · cases hx; cases h; exact ⟨_, rfl, .bool _⟩
  · cases h

theorem aIntBin_sim {μ : Ren} {op : BinOp} (hop : op ≠ .shl ∧ op ≠ .shr) {t : TypeId} {k : IntKind} {a b : Int} {v : AV} (h : aIntBin op k a b = some v) (w : World) :
    ∃ v', (binOp op t (.int k a) (.int k b)).run P w = .ok v' w ∧ VR μ v v' := by
  cases op <;> simp only [aIntBin] at h
  case shl => exact absurd rfl hop.1
  case shr => exact absurd rfl hop.2
  case quo =>
    split at h
    · cases h
    · rename_i hb
      cases h
      exact ⟨.int k _, by simp only [binOp, Op.intDiv, if_neg hb, ne_eq, not_true_eq_false, if_false]; rfl, .int _ _⟩
  case rem =>
    split at h
    · cases h
    · rename_i hb
      cases h
      exact ⟨.int k _, by simp only [binOp, Op.intDiv, if_neg hb, ne_eq, not_true_eq_false, if_false]; rfl, .int _ _⟩
  all_goals first
    | (cases h; refine ⟨_, ?_, .int _ _⟩; simp [binOp, Op.intArith, Op.intBits]; done)
    | (cases h; refine ⟨_, ?_, .bool _⟩; simp [binOp, Op.intCmp]; done)

theorem aShift_sim {μ : Ren} {op : BinOp} (hop : op = .shl ∨ op = .shr) {t : TypeId} {k k' : IntKind} {a b : Int} {v : AV} (h : aShift op k a b = some v) (w : World) :
    ∃ v', (binOp op t (.int k a) (.int k' b)).run P w = .ok v' w ∧ VR μ v v' := by
  unfold aShift at h
  split at h
  · cases h
  · rename_i hb
    rcases hop with rfl | rfl <;> simp only at h <;> cases h <;> refine ⟨.int k _, ?_, .int _ _⟩ <;> simp only [binOp, Op.shift, if_neg hb] <;> rfl

theorem aStrBin_sim {μ : Ren} {op : BinOp} {t : TypeId} {x y : List UInt8} {x' y' : ByteArray} (hx : x'.data.toList = x) (hy : y'.data.toList = y) {v : AV} (h : aStrBin op x y = some v) (w : World) :
    ∃ v', (binOp op t (.string x') (.string y')).run P w = .ok v' w ∧ VR μ v v' := by
  subst hx; subst hy
  have e1 := ByteArray.toList_eq x'
  have e2 := ByteArray.toList_eq y'
  have s1 : x'.data.toList.length = x'.size := Array.length_toList
  have s2 : y'.data.toList.length = y'.size := Array.length_toList
  cases op <;> simp only [aStrBin] at h <;> try (cases h; done)
  case add =>
    rw [s1, s2] at h
    split at h
    · cases h
    · rename_i hlt
      cases h
      refine ⟨.string (x' ++ y'), ?_, .str (by simp)⟩
      simp only [binOp, Op.stringOp, Sem.run_ite, hlt, if_false, Sem.run_pure]
  all_goals (cases h; refine ⟨_, ?_, .bool _⟩; simp [binOp, Op.stringOp, e1, e2]; done)

theorem eqGuard_other {op : BinOp} {t : TypeId} {x y : Operand} {a b : Value} (h : op ≠ .eql ∧ op ≠ .neq) (w : World) : (eqGuard op t x y a b).run P w = .ok () w := by
  unfold eqGuard
  cases op <;> first | (exact absurd rfl h.1) | (exact absurd rfl h.2) | rfl

def isC : Operand → Bool
  | .const _ => true
  | _ => false

theorem eqGuard_plain {op : BinOp} {t : TypeId} {x y : Operand} {a b : Value} (h1 : a = .nilIface → b = .nilIface → False) (h2 : ∀ r s, a = .agg r → b = .agg s → False) (w : World) : (eqGuard op t x y a b).run P w = .ok () w := by
  unfold eqGuard
  cases op <;> first
    | rfl
    | (cases a <;> cases b <;> first | rfl | exact (h1 rfl rfl).elim | exact (h2 _ _ rfl rfl).elim)

theorem eqGuard_const {op : BinOp} {t : TypeId} {x y : Operand} (h : (isC x || isC y) = true) (w : World) : (eqGuard op t x y .nilIface .nilIface).run P w = .ok () w := by
  unfold eqGuard
  cases op <;> first | rfl | (cases x <;> cases y <;> first | rfl | (simp [isC] at h; done))

theorem eqGuard_agg {op : BinOp} {t : TypeId} {x y : Operand} {a b : Array Value} (h : P.eqGuardType P.depth t = false) (w : World) : (eqGuard op t x y (.agg a) (.agg b)).run P w = .ok () w := by
  unfold eqGuard
  cases op <;> first
    | rfl
    | (simp only [Sem.run_bind, Sem.run_ite, run_program, Result.andThen_ok, h, Bool.not_false, if_true]; rfl)

theorem aEq_bin {μ : Ren} {t : TypeId} {x y : Operand} {a b : AV} {a' b' : Value} (ha : VR μ a a') (hb : VR μ b b') {r : Bool} (hr : aEq P t a b = some r)
    (n1 : ∀ (k : IntKind) (x : Int) (k' : IntKind) (y : Int), a = .int k x → b = .int k' y → False) (n2 : ∀ (x y : List UInt8), a = .str x → b = .str y → False) (hok : eqOk P t (isC x || isC y) a b = true) (w : World) :
    (do eqGuard .eql t x y a' b'; binOp .eql t a' b').run P w = .ok (.bool r) w ∧ (do eqGuard .neq t x y a' b'; binOp .neq t a' b').run P w = .ok (.bool !r) w := by
  have he := aEq_sim ha hb hr w
  suffices H : (∀ op, (eqGuard op t x y a' b').run P w = .ok () w) ∧ (binOp .eql t a' b').run P w = ((Op.equal t a' b').run P w).andThen (fun r w => .ok (.bool r) w) ∧ (binOp .neq t a' b').run P w = ((Op.equal t a' b').run P w).andThen (fun r w => .ok (.bool !r) w) by
    obtain ⟨h1, h2, h3⟩ := H
    simp only [Sem.run_bind, h1, Result.andThen_ok, h2, h3, he, and_self]
  clear he
  unfold aEq at hr
  split at hr
  · cases ha; cases hb
    exact ⟨fun op => eqGuard_agg (by simpa [eqOk] using hok) w, Sem.run_bind' _ _ _ _, Sem.run_bind' _ _ _ _⟩
  · cases hr
  · split at hr
    · cases hr
    · unfold aEq1 at hr
      split at hr
      case h_2 => exact (n1 _ _ _ _ rfl rfl).elim
      case h_3 => exact (n2 _ _ rfl rfl).elim
      case h_16 =>
        cases ha; cases hb
        exact ⟨fun op => eqGuard_const (by simpa [eqOk] using hok) w, Sem.run_bind' _ _ _ _, Sem.run_bind' _ _ _ _⟩
      case h_25 => cases hr
      all_goals
        cases ha; cases hb
        exact ⟨fun op => eqGuard_plain (fun h1 h2 => by first | (cases h1; done) | (cases h2; done)) (fun r s h => by cases h) w, Sem.run_bind' _ _ _ _, Sem.run_bind' _ _ _ _⟩
  · cases hr

/-- '==' and its kin: the guard ahead of them lets it by, and the model gives what is related. -/
theorem aBin_sim {μ : Ren} {op : BinOp} {t : TypeId} {x y : Operand} {a b v : AV} {a' b' : Value} (ha : VR μ a a') (hb : VR μ b b') (h : aBin P op t (isC x || isC y) a b = some v) (w : World) :
    ∃ v', (do eqGuard op t x y a' b'; binOp op t a' b').run P w = .ok v' w ∧ VR μ v v' := by
  unfold aBin at h
  split at h
  · rename_i k m k' n
    cases ha; cases hb
    have hg : (eqGuard op t x y (.int k m) (.int k' n)).run P w = .ok () w := eqGuard_plain (fun h => by cases h) (fun r s h => by cases h) w
    simp only [Sem.run_bind, hg, Result.andThen_ok]
    split at h
    · exact aShift_sim (.inl rfl) h w
    · exact aShift_sim (.inr rfl) h w
    · rename_i h1 h2
      split at h
      · rename_i e; subst e; exact aIntBin_sim ⟨h1, h2⟩ h w
      · cases h
  · rename_i s u
    cases ha with
    | str e1 => cases hb with
      | str e2 =>
        rename_i s' u'
        have hg : (eqGuard op t x y (.string s') (.string u')).run P w = .ok () w := eqGuard_plain (fun h => by cases h) (fun r s h => by cases h) w
        simp only [Sem.run_bind, hg, Result.andThen_ok]
        exact aStrBin_sim e1 e2 h w
  · rename_i n1 n2
    split at h
    · rename_i hok
      split at h
      · rename_i r hr
        cases h
        exact ⟨.bool r, (aEq_bin ha hb hr n1 n2 hok w).1, .bool r⟩
      · rename_i r hr
        cases h
        exact ⟨.bool !r, (aEq_bin ha hb hr n1 n2 hok w).2, .bool !r⟩
      · cases h
    · cases h

end
end Go.Proofs.Ytbkmjmhoclflnaa.Fw
