/- What may be said otherwise: freezing, forgetting, dropping. -/
import Derived.Test.YtbkmjmhoclflnaaFw23
namespace Go.Proofs.Ytbkmjmhoclflnaa.Fw
open Go Go.RowKit
set_option linter.unusedVariables false
set_option linter.unusedSimpArgs false

/-! ### Values -/
theorem Imp.slNil (σ : Store) (k : Nat) : Imp σ .slNil (.im k [] (.exact 0)) := by
  intro w0 μ w x R h; cases h; exact .imE rfl fun _ => rfl
theorem Imp.slNilRo (σ : Store) (k : Nat) : Imp σ .slNil (.im k [] .ro) := by
  intro w0 μ w x R h; cases h; exact .imE trivial fun _ => rfl
theorem Imp.ro (σ : Store) (k : Nat) (rows : List (List AV)) (cap : Cap) : Imp σ (.im k rows cap) (.im k rows .ro) := by
  intro w0 μ w x R h
  cases h with
  | im hf hv hk hn hc => exact .im hf hv hk hn trivial
  | imE hc hz => exact .imE trivial hz
theorem Imps.refl (σ : Store) : ∀ l, Imps σ l l
  | [] => .nil
  | v :: l => .cons (Imp.refl σ v) (Imps.refl σ l)
theorem Imps.length {σ : Store} : ∀ {l l2 : List AV}, Imps σ l l2 → l.length = l2.length
  | _, _, .nil => rfl
  | _, _, .cons _ t => by simp [t.length]
theorem Imps.append {σ : Store} : ∀ {a a2 b b2 : List AV}, Imps σ a a2 → Imps σ b b2 → Imps σ (a ++ b) (a2 ++ b2)
  | _, _, _, _, .nil, k => k
  | _, _, _, _, .cons h t, k => .cons h (t.append k)
theorem Imps.sim' {w0 : World} {μ : Ren} {w : World} {σ : Store} (R : Rel w0 μ σ w) {l l2 : List AV} {xs : List Value} (h : Imps σ l l2) (k : VRs μ l xs) : VRs μ l2 xs := h.sim R k
theorem Imp.agg {σ : Store} {a b : List AV} (h : Imps σ a b) : Imp σ (.agg a) (.agg b) := by
  intro w0 μ w x R k; cases k with | agg q => exact .agg (h.sim R q)
theorem Imp.tup {σ : Store} {a b : List AV} (h : Imps σ a b) : Imp σ (.tup a) (.tup b) := by
  intro w0 μ w x R k; cases k with | tup q => exact .tup (h.sim R q)
theorem Imp.iface {σ : Store} {t : TypeId} {a b : AV} (h : Imp σ a b) : Imp σ (.iface t a) (.iface t b) := by
  intro w0 μ w x R k; cases k with | iface q => exact .iface (h _ _ _ _ R q)
theorem Imp.fn {σ : Store} {f : Fn} {a a2 b b2 : List AV} (h : Imps σ a a2) (k : Imps σ b b2) : Imp σ (.fn f a b) (.fn f a2 b2) := by
  intro w0 μ w x R q; cases q with | fn q1 q2 => exact .fn (h.sim R q1) (k.sim R q2)
theorem Imp.imp {σ : Store} {r r2 : List AV} {o : Nat} (h : Imps σ r r2) : Imp σ (.imp r o) (.imp r2 o) := by
  intro w0 μ w x R q; cases q with | imp hf hv => exact .imp hf (h.sim R hv)
inductive Impss (σ : Store) : List (List AV) → List (List AV) → Prop
  | nil : Impss σ [] []
  | cons {v v2 : List AV} {l l2 : List (List AV)} (h : Imps σ v v2) (t : Impss σ l l2) : Impss σ (v :: l) (v2 :: l2)
theorem Impss.refl (σ : Store) : ∀ l, Impss σ l l
  | [] => .nil
  | v :: l => .cons (Imps.refl σ v) (Impss.refl σ l)
theorem Impss.append {σ : Store} : ∀ {a a2 b b2 : List (List AV)}, Impss σ a a2 → Impss σ b b2 → Impss σ (a ++ b) (a2 ++ b2)
  | _, _, _, _, .nil, k => k
  | _, _, _, _, .cons h t, k => .cons h (t.append k)
theorem Impss.length {σ : Store} : ∀ {l l2 : List (List AV)}, Impss σ l l2 → l.length = l2.length
  | _, _, .nil => rfl
  | _, _, .cons _ t => by simp [t.length]
theorem Impss.flatten {σ : Store} : ∀ {l l2 : List (List AV)}, Impss σ l l2 → Imps σ l.flatten l2.flatten
  | _, _, .nil => .nil
  | _, _, .cons h t => by simpa using h.append t.flatten
theorem Impss.len {σ : Store} {k : Nat} : ∀ {l l2 : List (List AV)}, Impss σ l l2 → (∀ r ∈ l, r.length = k) → ∀ r ∈ l2, r.length = k
  | _, _, .nil, _, r, hr => by cases hr
  | _, _, .cons h t, hk, r, hr => by
    rcases List.mem_cons.1 hr with rfl | hr
    · rw [← h.length]; exact hk _ (by simp)
    · exact t.len (fun x hx => hk x (by simp [hx])) r hr
theorem Imp.im {σ : Store} {k : Nat} {a b : List (List AV)} {cap : Cap} (h : Impss σ a b) : Imp σ (.im k a cap) (.im k b cap) := by
  intro w0 μ w x R q
  cases q with
  | im hf hv hk hn hc =>
    rw [h.length] at hn hc ⊢
    exact .im hf (h.flatten.sim R hv) (h.len hk) hn hc
  | imE hc hz => cases h; exact .imE hc hz

/-- A slice of a frozen row, by what it holds. -/
theorem Imp.frozen {σ : Store} {r o n k : Nat} {cap : Cap} {vs : List AV} {ty : TypeId} {rows : List (List AV)} (h : σ[r]? = some (.frozen vs ty)) (hr : rows.flatten = (vs.drop o).take (n * k)) (hk : ∀ x ∈ rows, x.length = k) (hn : rows.length = n) (hl : o + n * k ≤ vs.length) :
    Imp σ (.sl r o n cap) (.im k rows .ro) := by
  intro w0 μ w x R q
  obtain ⟨L, off', c', rfl, hi, hnc, hc, hoff⟩ := VR_sl_addr q
  subst hn
  by_cases h0 : 0 < rows.length
  · have := hoff h0
    subst this
    obtain ⟨cs, h1, h2⟩ := R.obj r L _ hi h
    have hcl := h2.length
    refine .im (cs := (cs.drop o).take (rows.length * k)) ?_ (by rw [hr]; exact (h2.drop _).take _) hk hnc trivial
    rcases h1.part o (rows.length * k) with h3 | h3
    · exact h3
    · omega
  · have : rows = [] := List.eq_nil_of_length_eq_zero (by omega)
    subst this
    exact .imE trivial fun e => by cases e

/-! ### Stores -/
theorem Rel.turn {w0 : World} {μ : Ren} {σ : Store} {w : World} (R : Rel w0 μ σ w) {i : Nat} {o o2 : AObj} (ho : σ[i]? = some o) (hm : o2.mut = true → o.mut = true) (ht : o2.isTok = true → o.isTok = true) (ht2 : o.isTok = true → o2.isTok = true ∨ o2.mut = false) (h : ∀ L, μ i = some L → ORel w0 μ L o2 w) : Rel w0 μ (σ.set i o2) w := by
  have hlt := (List.getElem?_eq_some_iff.1 ho).1
  have old : ∀ (k : Nat) (ok : AObj), (σ.set i o2)[k]? = some ok → (k = i ∧ ok = o2) ∨ (k ≠ i ∧ σ[k]? = some ok) := by
    intro k ok e
    by_cases h : k = i
    · subst h; rw [List.getElem?_set_self hlt] at e; cases e; exact .inl ⟨rfl, rfl⟩
    · rw [List.getElem?_set_ne (Ne.symm h)] at e; exact .inr ⟨h, e⟩
  have key : ∀ (k : Nat) (ok : AObj), (σ.set i o2)[k]? = some ok → ok.mut = true → ∃ ok' : AObj, σ[k]? = some ok' ∧ ok'.mut = true := by
    intro k ok e em
    rcases old k ok e with ⟨rfl, rfl⟩ | ⟨h, e⟩
    · exact ⟨o, ho, hm em⟩
    · exact ⟨ok, e, em⟩
  refine ⟨R.below, ?_, ?_, fun j Lj e => ⟨by simpa using (R.dom j Lj e).1, (R.dom j Lj e).2⟩, R.frz, ?_, ?_, R.glb⟩
  · intro j Lj oj hj hoj
    rcases old j oj hoj with ⟨rfl, rfl⟩ | ⟨_, e⟩
    · exact h Lj hj
    · exact R.obj j Lj oj hj e
  · intro a b La Lb oa ob hne ha hb hoa hob hma hmb
    obtain ⟨oa', h1, h2⟩ := key a oa hoa hma
    obtain ⟨ob', h3, h4⟩ := key b ob hob hmb
    exact R.inj a b La Lb oa' ob' hne ha hb h1 h3 h2 h4
  · intro j Lj oj hj hoj hmj htj
    rcases old j oj hoj with ⟨rfl, rfl⟩ | ⟨_, e⟩
    · refine R.sep j Lj o hj ho (hm hmj) ?_
      cases hot : o.isTok with
      | false => rfl
      | true =>
        rcases ht2 hot with h | h
        · rw [htj] at h; cases h
        · rw [hmj] at h; cases h
    · exact R.sep j Lj oj hj e hmj htj
  · intro j Lj oj hj hoj htj
    rcases old j oj hoj with ⟨rfl, rfl⟩ | ⟨_, e⟩
    · exact R.tok j Lj o hj ho (ht htj)
    · exact R.tok j Lj oj hj e htj

/-- A row is frozen. -/
theorem Frz.freeze {σ : Store} {i : Nat} {vs : List AV} {ty : TypeId} (h : σ[i]? = some (.cells vs ty)) : Frz σ (σ.set i (.frozen vs ty)) := by
  refine ⟨by simp, fun w0 μ w R => ?_⟩
  cases hL : μ i with
  | none => exact ⟨μ, Ren.le_refl μ, fun _ => rfl, R.turn h (fun e => by cases e) (fun e => by cases e) (fun e => by cases e) fun L e => by rw [hL] at e; cases e⟩
  | some L =>
    obtain ⟨hge, cs, fr, h1, h2, h3, h4, h5⟩ := R.obj i L _ hL h
    have hz := R.sep i L _ hL h rfl rfl
    have hle : μ.le ⟨μ.ren, fun b => if b = L.b then some cs.toList else μ.fz b⟩ := by
      refine ⟨fun _ _ e => e, fun b zs e => ?_⟩
      have hb : b ≠ L.b := by rintro rfl; rw [hz] at e; cases e
      exact ⟨[], by show (if b = L.b then some cs.toList else μ.fz b) = _; rw [if_neg hb]; simpa using e⟩
    refine ⟨_, hle, fun _ => rfl, ?_⟩
    have hlt := (List.getElem?_eq_some_iff.1 h).1
    have old : ∀ (k : Nat) (ok : AObj), (σ.set i (.frozen vs ty))[k]? = some ok → (k = i ∧ ok = .frozen vs ty) ∨ (k ≠ i ∧ σ[k]? = some ok) := by
      intro k ok e
      by_cases h : k = i
      · subst h; rw [List.getElem?_set_self hlt] at e; cases e; exact .inl ⟨rfl, rfl⟩
      · rw [List.getElem?_set_ne (Ne.symm h)] at e; exact .inr ⟨h, e⟩
    have hfz : ∀ b, b ≠ L.b → (if b = L.b then some cs.toList else μ.fz b) = μ.fz b := fun b hb => if_neg hb
    refine ⟨R.below, ?_, ?_, fun j Lj e => ⟨by simpa using (R.dom j Lj e).1, (R.dom j Lj e).2⟩, ?_, ?_, ?_, R.glb.mono hle⟩
    · intro j Lj oj hj hoj
      rcases old j oj hoj with ⟨rfl, rfl⟩ | ⟨_, e⟩
      · have hj' : μ j = some Lj := hj
        rw [hL] at hj'
        cases hj'
        exact ⟨_, ⟨cs.toList, if_pos rfl, by simp; omega, by rw [List.length_take, Nat.min_eq_left (by simp; omega)]⟩, h5.mono hle⟩
      · exact (R.obj j Lj oj hj e).mono hle
    · intro a b La Lb oa ob hne ha hb hoa hob hma hmb
      rcases old a oa hoa with ⟨rfl, rfl⟩ | ⟨_, e1⟩
      · cases hma
      · rcases old b ob hob with ⟨rfl, rfl⟩ | ⟨_, e2⟩
        · cases hmb
        · exact R.inj a b La Lb oa ob hne ha hb e1 e2 hma hmb
    · intro b zs e
      by_cases hb : b = L.b
      · subst hb
        have e' : (if L.b = L.b then some cs.toList else μ.fz L.b) = some zs := e
        rw [if_pos rfl] at e'
        cases e'
        exact ⟨cs, ty, fr, h1, [], by simp⟩
      · have e' : (if b = L.b then some cs.toList else μ.fz b) = some zs := e
        rw [if_neg hb] at e'
        exact R.frz b zs e'
    · intro j Lj oj hj hoj hmj htj
      rcases old j oj hoj with ⟨rfl, rfl⟩ | ⟨hne, e⟩
      · cases hmj
      · show (if Lj.b = L.b then some cs.toList else μ.fz Lj.b) = none
        rw [if_neg (R.inj j i Lj L oj _ hne hj hL e h hmj rfl)]
        exact R.sep j Lj oj hj e hmj htj
    · intro j Lj oj hj hoj htj
      rcases old j oj hoj with ⟨rfl, rfl⟩ | ⟨hne, e⟩
      · cases htj
      · have hmj : oj.mut = true := by cases oj <;> first | rfl | cases htj
        show ∃ zs, (if Lj.b = L.b then some cs.toList else μ.fz Lj.b) = some zs ∧ zs.length = Lj.d
        rw [if_neg (R.inj j i Lj L oj _ hne hj hL e h hmj rfl)]
        exact R.tok j Lj oj hj e htj

/-- An object's cells said otherwise. -/
theorem Frz.cells {σ : Store} {i : Nat} {vs vs2 : List AV} {ty : TypeId} (h : σ[i]? = some (.cells vs ty)) (hI : Imps σ vs vs2) : Frz σ (σ.set i (.cells vs2 ty)) := by
  refine ⟨by simp, fun w0 μ w R => ⟨μ, Ren.le_refl μ, fun _ => rfl, R.turn h (fun _ => rfl) (fun e => by cases e) (fun e => by cases e) fun L hL => ?_⟩⟩
  obtain ⟨hge, cs, fr, h1, h2, h3, h4, h5⟩ := R.obj i L _ hL h
  rw [hI.length] at h3 h5
  exact ⟨hge, cs, fr, h1, h2, h3, h4, hI.sim R h5⟩
theorem Frz.dead {σ : Store} (i : Nat) : Frz σ (σ.set i .dead) := ⟨by simp, fun w0 μ w R => ⟨μ, Ren.le_refl μ, fun _ => rfl, R.kill i⟩⟩
inductive MImps (σ : Store) : List (AV × AV × Nat) → List (AV × AV × Nat) → Prop
  | nil : MImps σ [] []
  | cons {k k2 v v2 : AV} {b : Nat} {l l2 : List (AV × AV × Nat)} (hk : Imp σ k k2) (hv : Imp σ v v2) (t : MImps σ l l2) : MImps σ ((k, v, b) :: l) ((k2, v2, b) :: l2)
theorem MImps.refl (σ : Store) : ∀ l, MImps σ l l
  | [] => .nil
  | (k, v, b) :: l => .cons (Imp.refl σ k) (Imp.refl σ v) (MImps.refl σ l)
theorem MImps.sim {w0 : World} {μ : Ren} {w : World} {σ : Store} (R : Rel w0 μ σ w) : ∀ {l l2 : List (AV × AV × Nat)} {xs : List MapEntry}, MImps σ l l2 → MRs μ l xs → MRs μ l2 xs
  | _, _, _, .nil, .nil => .nil
  | _, _, _, .cons h k t, .cons a b c => .cons (h _ _ _ _ R a) (k _ _ _ _ R b) (t.sim R c)
theorem Frz.map {σ : Store} {i : Nat} {es es2 : List (AV × AV × Nat)} {c : Nat} (h : σ[i]? = some (.map es c)) (hI : MImps σ es es2) : Frz σ (σ.set i (.map es2 c)) := by
  refine ⟨by simp, fun w0 μ w R => ⟨μ, Ren.le_refl μ, fun _ => rfl, R.turn h (fun _ => rfl) (fun e => by cases e) (fun e => by cases e) fun L hL => ?_⟩⟩
  obtain ⟨hge, ces, h1, h2⟩ := R.obj i L _ hL h
  exact ⟨hge, ces, h1, hI.sim R h2⟩

/-! ### What hangs on the first N objects alone -/
def Clo (N : Nat) (v : AV) : Prop := ∀ (μ μ' : Ren) (x : Value), (∀ i, i < N → μ' i = μ i) → μ.fle μ' → VR μ v x → VR μ' v x
def Clos (N : Nat) (l : List AV) : Prop := ∀ (μ μ' : Ren) (xs : List Value), (∀ i, i < N → μ' i = μ i) → μ.fle μ' → VRs μ l xs → VRs μ' l xs
theorem Clos.nil (N : Nat) : Clos N [] := fun _ _ _ _ _ h => by cases h; exact .nil
theorem Clos.cons {N : Nat} {v : AV} {l : List AV} (h : Clo N v) (t : Clos N l) : Clos N (v :: l) := fun μ μ' xs e f q => by
  cases q with | cons a b => exact .cons (h μ μ' _ e f a) (t μ μ' _ e f b)
theorem Clos.of {N : Nat} : ∀ {l : List AV}, (∀ v ∈ l, Clo N v) → Clos N l
  | [], _ => Clos.nil N
  | v :: l, h => Clos.cons (h v (by simp)) (Clos.of fun x hx => h x (by simp [hx]))
theorem Clo.bool (N : Nat) (b : Bool) : Clo N (.bool b) := fun _ _ _ _ _ h => by cases h; exact .bool _
theorem Clo.int (N : Nat) (k : IntKind) (n : Int) : Clo N (.int k n) := fun _ _ _ _ _ h => by cases h; exact .int _ _
theorem Clo.str (N : Nat) (s : List UInt8) : Clo N (.str s) := fun _ _ _ _ _ h => by cases h with | str e => exact .str e
theorem Clo.ptrNil (N : Nat) : Clo N .ptrNil := fun _ _ _ _ _ h => by cases h; exact .ptrNil
theorem Clo.slNil (N : Nat) : Clo N .slNil := fun _ _ _ _ _ h => by cases h; exact .slNil
theorem Clo.mapNil (N : Nat) : Clo N .mapNil := fun _ _ _ _ _ h => by cases h; exact .mapNil
theorem Clo.fnNil (N : Nat) : Clo N .fnNil := fun _ _ _ _ _ h => by cases h; exact .fnNil
theorem Clo.ifaceNil (N : Nat) : Clo N .ifaceNil := fun _ _ _ _ _ h => by cases h; exact .ifaceNil
theorem Clo.ptr {N i o : Nat} (hi : i < N) : Clo N (.ptr i o) := fun μ μ' _ e _ h => by cases h with | ptr q => exact .ptr (by rw [e i hi]; exact q)
theorem Clo.map {N i : Nat} (hi : i < N) : Clo N (.map i) := fun μ μ' _ e _ h => by cases h with | map q => exact .map (by rw [e i hi]; exact q)
theorem Clo.sl {N i o n : Nat} {cap : Cap} (hi : i < N) : Clo N (.sl i o n cap) := fun μ μ' _ e _ h => by cases h with | sl q hn hc => exact .sl (by rw [e i hi]; exact q) hn hc
theorem Clo.agg {N : Nat} {l : List AV} (h : Clos N l) : Clo N (.agg l) := fun μ μ' _ e f q => by cases q with | agg q => exact .agg (h μ μ' _ e f q)
theorem Clo.tup {N : Nat} {l : List AV} (h : Clos N l) : Clo N (.tup l) := fun μ μ' _ e f q => by cases q with | tup q => exact .tup (h μ μ' _ e f q)
theorem Clo.fn {N : Nat} {g : Fn} {a b : List AV} (h : Clos N a) (k : Clos N b) : Clo N (.fn g a b) := fun μ μ' _ e f q => by cases q with | fn q1 q2 => exact .fn (h μ μ' _ e f q1) (k μ μ' _ e f q2)
theorem Clo.iface {N : Nat} {t : TypeId} {v : AV} (h : Clo N v) : Clo N (.iface t v) := fun μ μ' _ e f q => by cases q with | iface q => exact .iface (h μ μ' _ e f q)
theorem Clo.imp {N o : Nat} {r : List AV} (h : Clos N r) : Clo N (.imp r o) := fun μ μ' _ e f q => by cases q with | imp hf hv => exact .imp (hf.mono f) (h μ μ' _ e f hv)
def CapLt (N : Nat) : Cap → Prop
  | .tok t => t < N
  | _ => True
theorem Clo.im {N k : Nat} {rows : List (List AV)} {cap : Cap} (h : Clos N rows.flatten) (hc : CapLt N cap) : Clo N (.im k rows cap) := fun μ μ' _ e f q => by
  cases q with
  | im hf hv hk hn hcap =>
    refine .im (hf.mono f) (h μ μ' _ e f hv) hk hn ?_
    cases cap with
    | tok t => obtain ⟨L, h1, h2⟩ := hcap; exact ⟨L, by rw [e t hc]; exact h1, h2⟩
    | exact c => exact hcap
    | ro => exact hcap
    | spare s => exact hcap
  | imE hc hz => exact .imE hc hz
theorem Clo.sle (N : Nat) : Clo N .sle := fun _ _ _ _ _ h => by cases h; exact .sle
theorem Clo.bad (N : Nat) : Clo N .bad := fun _ _ _ _ _ _ => .bad
theorem Clos.flat {N : Nat} : ∀ {rows : List (List AV)}, (∀ r ∈ rows, Clos N r) → Clos N rows.flatten
  | [], _ => Clos.nil N
  | r :: rows, h => by
    have h1 := h r (by simp)
    have h2 := Clos.flat (rows := rows) fun x hx => h x (by simp [hx])
    rw [List.flatten_cons]
    intro μ μ' xs e f q
    have gen : ∀ {a b : List AV} {xs : List Value}, VRs μ (a ++ b) xs → ∃ ys zs, xs = ys ++ zs ∧ VRs μ a ys ∧ VRs μ b zs := by
      intro a
      induction a with
      | nil => intro b xs q; exact ⟨[], xs, rfl, .nil, q⟩
      | cons v a ih =>
        intro b xs q
        cases q with
        | cons p t =>
          obtain ⟨ys, zs, rfl, p1, p2⟩ := ih t
          exact ⟨_ :: ys, zs, rfl, .cons p p1, p2⟩
    obtain ⟨ys, zs, rfl, p1, p2⟩ := gen q
    exact (h1 μ μ' _ e f p1).append (h2 μ μ' _ e f p2)

theorem VR.clo {μ0 : Ren} {N : Nat} (hN : ∀ i L, μ0 i = some L → i < N) {v : AV} {x : Value} (h : VR μ0 v x) : Clo N v := by
  refine VR.rec (motive_1 := fun v x _ => Clo N v) (motive_2 := fun vs xs _ => Clos N vs) ?_ ?_ ?_ ?_ ?_ ?_ ?_ ?_ ?_ ?_ ?_ ?_ ?_ ?_ ?_ ?_ ?_ ?_ ?_ ?_ ?_ ?_ h
  · exact fun b => Clo.bool N b
  · exact fun k n => Clo.int N k n
  · exact fun {s} _ _ => Clo.str N s
  · exact Clo.ptrNil N
  · exact fun h => Clo.ptr (hN _ _ h)
  · exact Clo.slNil N
  · exact fun h _ _ => Clo.sl (hN _ _ h)
  · exact Clo.mapNil N
  · exact fun h => Clo.map (hN _ _ h)
  · exact Clo.fnNil N
  · exact fun _ _ h1 h2 => Clo.fn h1 h2
  · exact Clo.ifaceNil N
  · exact fun _ h => Clo.iface h
  · exact fun _ h => Clo.agg h
  · exact fun _ h => Clo.tup h
  · intro k b off c' rows cap cs hf hv hk hn hc ih
    refine Clo.im ih ?_
    cases cap with
    | tok t => obtain ⟨L, h1, _⟩ := hc; exact hN _ _ h1
    | _ => trivial
  · intro k c' cap a hc hz
    refine Clo.im (by simpa using Clos.nil N) ?_
    cases cap with
    | tok t => exact hc.elim
    | _ => trivial
  · exact fun hf hv ih => Clo.imp ih
  · exact Clo.sle N
  · exact Clo.bad N
  · exact Clos.nil N
  · exact fun _ _ h t => Clos.cons h t
theorem VRs.clo {μ0 : Ren} {N : Nat} (hN : ∀ i L, μ0 i = some L → i < N) : ∀ {vs : List AV} {xs : List Value}, VRs μ0 vs xs → Clos N vs
  | _, _, .nil => Clos.nil N
  | _, _, .cons h t => Clos.cons (h.clo hN) (t.clo hN)

def CloO (N : Nat) (o : AObj) : Prop := ∀ (w0 : World) (μ μ' : Ren) (w : World) (L : Loc), (∀ i, i < N → μ' i = μ i) → μ.fle μ' → ORel w0 μ L o w → ORel w0 μ' L o w
theorem CloO.cells {N : Nat} {vs : List AV} {ty : TypeId} (h : Clos N vs) : CloO N (.cells vs ty) := by
  intro w0 μ μ' w L e f q
  obtain ⟨h0, cs, fr, h1, h2, h3, h4, h5⟩ := q
  exact ⟨h0, cs, fr, h1, h2, h3, h4, h μ μ' _ e f h5⟩
theorem CloO.frozen {N : Nat} {vs : List AV} {ty : TypeId} (h : Clos N vs) : CloO N (.frozen vs ty) := by
  intro w0 μ μ' w L e f q
  obtain ⟨cs, h1, h2⟩ := q
  exact ⟨cs, h1.mono f, h μ μ' _ e f h2⟩
theorem CloO.dead (N : Nat) : CloO N .dead := fun _ _ _ _ _ _ _ _ => trivial
theorem CloO.tok (N : Nat) : CloO N .tok := fun _ _ _ _ _ _ _ q => q
theorem CloO.map {N : Nat} {es : List (AV × AV × Nat)} {c : Nat} (h : ∀ e ∈ es, Clo N e.1 ∧ Clo N e.2.1) : CloO N (.map es c) := by
  intro w0 μ μ' w L e f q
  obtain ⟨h0, ces, h1, h2⟩ := q
  refine ⟨h0, ces, h1, ?_⟩
  clear h1
  generalize ces.toList = l at h2
  induction h2 with
  | nil => exact .nil
  | cons hk hv t ih => exact .cons ((h _ List.mem_cons_self).1 μ μ' _ e f hk) ((h _ List.mem_cons_self).2 μ μ' _ e f hv) (ih fun x hx => h x (List.mem_cons_of_mem _ hx))

theorem ORel.clo {w0 : World} {μ0 : Ren} {N : Nat} (hN : ∀ i L, μ0 i = some L → i < N) {L : Loc} {o : AObj} {w : World} (h : ORel w0 μ0 L o w) : CloO N o := by
  cases o with
  | cells vs ty => obtain ⟨h0, cs, fr, h1, h2, h3, h4, h5⟩ := h; exact CloO.cells (h5.clo hN)
  | frozen vs ty => obtain ⟨cs, h1, h2⟩ := h; exact CloO.frozen (h2.clo hN)
  | dead => exact CloO.dead N
  | tok => exact CloO.tok N
  | map es c =>
    obtain ⟨h0, ces, h1, h2⟩ := h
    refine CloO.map fun e he => ?_
    clear h1
    generalize ces.toList = l at h2
    induction h2 with
    | nil => cases he
    | cons hk hv t ih =>
      rcases List.mem_cons.1 he with rfl | he
      · exact ⟨hk.clo hN, hv.clo hN⟩
      · exact ih he
  | ro rd =>
    obtain ⟨h1, h2, cs, ty, fr, h3, h4⟩ := h
    intro w0' μ μ' w' L' e f q
    obtain ⟨q1, q2, qs, qt, qf, q3, q4⟩ := q
    refine ⟨q1, q2, qs, qt, qf, q3, fun o v ho => ?_⟩
    obtain ⟨v', _, hv⟩ := h4 o v ho
    obtain ⟨u', h5, hu⟩ := q4 o v ho
    exact ⟨u', h5, hv.clo hN μ μ' _ e f hu⟩
  | mit m since seen stepped =>
    obtain ⟨h1, hd, m', h2, h3⟩ := h
    intro w0' μ μ' w' L' e f q
    obtain ⟨q1, q2, qm, q3, q4⟩ := q
    refine ⟨q1, q2, qm, q3, ?_⟩
    cases m <;> cases qm <;> simp only at q4 ⊢
    cases m' with
    | none => exact h3.elim
    | some mb =>
      obtain ⟨Lm, a, b⟩ := q4
      obtain ⟨Lm0, a0, _⟩ := h3
      exact ⟨Lm, by rw [e _ (hN _ _ a0)]; exact a, b⟩
  | sit s pos => intro w0' μ μ' w' L' e f q; exact q

/-! ### Behind a call -/
theorem Ent.refl {σ0 σ : Store} (h : σ0.length ≤ σ.length) (v : AV) : Ent σ0 v σ v σ := ⟨h, fun w0 μ0 w00 μ w x R0 hle hext R hv => ⟨μ, hle, hext, hv, R⟩⟩
theorem Ent.frz {σ0 σ σ1 σ2 : Store} {v v1 v2 : AV} (h : Frz σ σ1) (hi : Imp σ1 v v1) (k : Ent σ0 v1 σ1 v2 σ2) : Ent σ0 v σ v2 σ2 := by
  refine ⟨k.1, fun w0 μ0 w00 μ w x R0 hle hext R hv => ?_⟩
  obtain ⟨μ1, h1, h2, h3⟩ := h.2 w0 μ w R
  exact k.2 w0 μ0 w00 μ1 w x R0 (Ren.le_trans hle h1) (fun i hi => (h2 i).trans (hext i hi)) h3 (hi _ _ _ _ h3 (hv.mono h1))

def Ren.cut (μ : Ren) (N : Nat) : Ren := ⟨fun j => if j < N then μ j else none, μ.fz⟩
theorem Ren.cut_lt {μ : Ren} {N i : Nat} (h : i < N) : (μ.cut N) i = μ i := if_pos h
theorem Ren.cut_some {μ : Ren} {N i : Nat} {L : Loc} (h : (μ.cut N) i = some L) : i < N ∧ μ i = some L := by
  have h' : (if i < N then μ i else none) = some L := h
  split at h'
  · rename_i hi; exact ⟨hi, h'⟩
  · cases h'

/-- The last objects are dropped. -/
theorem Ent.drop {σ0 σ1 g : Store} {v : AV} (hl : σ0.length ≤ σ1.length) (hv : Clo σ1.length v) (ho : ∀ (i : Nat) (o : AObj), σ1[i]? = some o → σ0[i]? = some o ∨ CloO σ1.length o) : Ent σ0 v (σ1 ++ g) v σ1 := by
  refine ⟨hl, fun w0 μ0 w00 μ w x R0 hle hext R hvx => ⟨μ.cut σ1.length, ⟨fun i L e => ?_, hle.fz⟩, fun i hi => ?_, hv μ _ x (fun i hi => Ren.cut_lt hi) (Ren.fle_of_eq rfl) hvx, ?_⟩⟩
  · rw [Ren.cut_lt (by have := (R0.dom i L e).1; omega)]; exact hle.ren i L e
  · rw [Ren.cut_lt (by omega)]; exact hext i hi
  · have hget : ∀ i (o : AObj), i < σ1.length → σ1[i]? = some o → (σ1 ++ g)[i]? = some o := fun i o hi e => by rw [List.getElem?_append_left hi]; exact e
    refine ⟨R.below, ?_, ?_, ?_, R.frz, ?_, ?_, R.glb.fmono (Ren.fle_of_eq rfl)⟩
    · intro i L o hi hoi
      obtain ⟨hlt, hi'⟩ := Ren.cut_some hi
      have hR := R.obj i L o hi' (hget i o hlt hoi)
      have hc : CloO σ1.length o := by
        rcases ho i o hoi with h0 | h0
        · have hi0 : i < σ0.length := (List.getElem?_eq_some_iff.1 h0).1
          have hm0 : μ0 i = some L := by rw [← hext i hi0]; exact hi'
          exact (R0.obj i L o hm0 h0).clo fun j Lj e => by have := (R0.dom j Lj e).1; omega
        · exact h0
      exact hc w0 μ _ w L (fun j hj => Ren.cut_lt hj) (Ren.fle_of_eq rfl) hR
    · intro i j Li Lj oi oj hne hi hj hoi hoj hmi hmj
      obtain ⟨h1, h2⟩ := Ren.cut_some hi
      obtain ⟨h3, h4⟩ := Ren.cut_some hj
      exact R.inj i j Li Lj oi oj hne h2 h4 (hget i oi h1 hoi) (hget j oj h3 hoj) hmi hmj
    · intro i L hi
      obtain ⟨h1, h2⟩ := Ren.cut_some hi
      exact ⟨h1, (R.dom i L h2).2⟩
    · intro i L o hi hoi hm ht
      obtain ⟨h1, h2⟩ := Ren.cut_some hi
      exact R.sep i L o h2 (hget i o h1 hoi) hm ht
    · intro i L o hi hoi ht
      obtain ⟨h1, h2⟩ := Ren.cut_some hi
      exact R.tok i L o h2 (hget i o h1 hoi) ht

end Go.Proofs.Ytbkmjmhoclflnaa.Fw
