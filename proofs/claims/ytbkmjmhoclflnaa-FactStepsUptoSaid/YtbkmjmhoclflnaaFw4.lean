/- More operations that only read: conversions, slices, fields, indexes. -/
import Derived.Test.YtbkmjmhoclflnaaFw3
import Derived.Laws.BytesString
namespace Go.Proofs.Ytbkmjmhoclflnaa.Fw
open Go Go.RowKit
set_option linter.unusedVariables false
set_option linter.unusedSimpArgs false

section
variable {P : Program}

/-! ### Conversions -/
def bytesOf : List AV → Option (List UInt8)
  | [] => some []
  | .int .u8 n :: r => match bytesOf r with
    | some l => some (UInt8.ofNat n.toNat :: l)
    | none => none
  | _ => none

theorem bytesOf_vals {μ : Ren} : ∀ {vs : List AV} {cs : List Value} {l : List UInt8}, VRs μ vs cs → bytesOf vs = some l →
    ∃ ns : List Int, cs = ns.map (Value.int .u8) ∧ l = ns.map fun n => UInt8.ofNat n.toNat
  | _, _, l, .nil, h => by simp only [bytesOf, Option.some.injEq] at h; subst h; exact ⟨[], rfl, rfl⟩
  | x :: xs, y :: ys, l, .cons hx t, h => by
    unfold bytesOf at h
    split at h
    · rename_i e; cases e
    · rename_i n r e
      cases e
      split at h
      · rename_i l2 h2
        cases h
        cases hx
        obtain ⟨ns, e1, e2⟩ := bytesOf_vals t h2
        exact ⟨n :: ns, by simp [e1], by simp [e2]⟩
      · cases h
    · cases h

def isU8 (P : Program) (e : TypeId) : Bool := match P.underlying e with
  | some (.int .u8) => true
  | _ => false

def aConv (P : Program) (src dst : TypeId) (x : AV) (σ : Store) : Option AV :=
  match P.underlying src, P.underlying dst, x with
  | some _, some (.int k), .int _ n => some (.int k (k.wrap n))
  | some _, some .string, .str s => some (.str s)
  | some (.slice e), some .string, .slNil => if isU8 P e then some (.str []) else none
  | some (.slice e), some .string, .sl i o n cap => if isU8 P e then (match rdCells σ i o n with
      | some vs => (bytesOf vs).map .str
      | none => none) else none
  | some (.slice e), some .string, .im k rows cap => if isU8 P e ∧ k = 1 then (bytesOf rows.flatten).map .str else none
  | _, _, _ => none

theorem VR_sl_addr {μ : Ren} {i o n : Nat} {cap : Cap} {v : Value} (h : VR μ (.sl i o n cap) v) : ∃ L off' c', v = .slice (some ⟨L.b, off', none⟩) n c' ∧ μ i = some L ∧ n ≤ c' ∧ CapOk cap L o off' c' ∧ (0 < n → off' = L.d + o) := by
  cases h with
  | sl hi hn hc =>
    rename_i L off' c'
    refine ⟨L, off', c', rfl, hi, hn, hc, fun h0 => ?_⟩
    cases cap with
    | exact c => exact hc.2.resolve_left (by omega)
    | spare es => exact (hc.resolve_left (by omega)).1
    | ro => exact hc.resolve_left (by omega)
    | tok t => exact hc.elim

theorem push_all : ∀ (ns : List Int) (s : ByteArray), (ns.foldl (fun r n => r.push (UInt8.ofNat n.toNat)) s).data.toList = s.data.toList ++ ns.map fun n => UInt8.ofNat n.toNat
  | [], s => by simp
  | n :: ns, s => by rw [List.foldl_cons, push_all ns]; simp [ByteArray.push]

/-- The cells that a slice of n places (of so many cells each) leads to. -/
theorem sl_cells {w0 w : World} {μ : Ren} {σ : Store} (R : Rel w0 μ σ w) {i o n k : Nat} {L : Loc} (hi : μ i = some L) {off' : Nat} (hoff : 0 < n → off' = L.d + o) {vs : List AV} (h : rdCells σ i o (n * k) = some vs) :
    ∃ cs : List Value, cs.length = n * k ∧ VRs μ vs cs ∧ ∀ j v, cs[j]? = some v → w.cell? ((⟨L.b, off', none⟩ : Addr).add j) = some v := by
  obtain ⟨cs, h1, h2, h3⟩ := rdCells_sim R hi _ _ h
  refine ⟨cs, h1, h2, fun j v e => ?_⟩
  have hlt := (List.getElem?_eq_some_iff.1 e).1
  have hn : 0 < n := by
    rcases Nat.eq_zero_or_pos n with e0 | e0
    · subst e0; simp at h1; simp [h1] at hlt
    · exact e0
  rw [add_none, hoff hn]
  exact h3 j v e

theorem flat_len {k : Nat} : ∀ {rows : List (List AV)}, (∀ r ∈ rows, r.length = k) → rows.flatten.length = rows.length * k
  | [], _ => by simp
  | r :: rows, h => by
    simp only [List.flatten_cons, List.length_append, List.length_cons, h r (by simp), flat_len (rows := rows) fun x hx => h x (by simp [hx])]
    rw [Nat.add_mul]; omega

/-- A frozen slice's cells in the world. -/
theorem im_cells {w0 w : World} {μ : Ren} {σ : Store} (R : Rel w0 μ σ w) {k : Nat} {rows : List (List AV)} {cap : Cap} {v : Value} (h : VR μ (.im k rows cap) v) :
    ∃ a c' cs, v = .slice a rows.length c' ∧ rows.length ≤ c' ∧ VRs μ rows.flatten cs ∧ cs.length = rows.length * k ∧
      ((rows = [] ∧ cs = []) ∨ ∃ ad, a = some ad ∧ ∀ j v, cs[j]? = some v → w.cell? (ad.add j) = some v) := by
  cases h with
  | im hf hv hk hn hc =>
    rename_i b off c' cs
    refine ⟨_, c', cs, rfl, hn, hv, by rw [← hv.length, flat_len hk], .inr ⟨_, rfl, fun j v e => ?_⟩⟩
    rw [add_none]
    exact hf.cell R e
  | imE hc hz => exact ⟨_, _, [], rfl, Nat.zero_le _, .nil, by simp, .inl ⟨rfl, rfl⟩⟩

theorem aConv_sim {w0 w : World} {μ : Ren} {σ : Store} (R : Rel w0 μ σ w) {src dst : TypeId} {x v : AV} {x' : Value} (hx : VR μ x x') (h : aConv P src dst x σ = some v) :
    ∃ v', (convert src dst x').run P w = .ok v' w ∧ VR μ v v' := by
  unfold aConv at h
  split at h
  · rename_i ds k kk n hs hd
    cases hx; cases h
    exact ⟨.int k (k.wrap n), by simp only [convert, Sem.run_bind, run_underlying hs, run_underlying hd, Result.andThen_ok]; rfl, .int _ _⟩
  · rename_i ds s hs hd
    cases h
    cases hx with
    | str e => exact ⟨_, by simp only [convert, Sem.run_bind, run_underlying hs, run_underlying hd, Result.andThen_ok]; rfl, .str e⟩
  · rename_i e hs hd
    cases hx
    split at h
    · rename_i hu
      cases h
      unfold isU8 at hu
      split at hu
      · rename_i he
        refine ⟨.string .empty, ?_, .str rfl⟩
        simp only [convert, Sem.run_bind, run_underlying hs, run_underlying hd, run_underlying he, Result.andThen_ok]
        rfl
      · cases hu
    · cases h
  · rename_i e i o n cap hs hd
    split at h
    · rename_i hu
      unfold isU8 at hu
      split at hu
      · rename_i he
        split at h
        · rename_i vs hr
          obtain ⟨L, off', c', rfl, hi, hn, hc, hoff⟩ := VR_sl_addr hx
          obtain ⟨cs, h1, h2, h3⟩ := sl_cells (k := 1) R hi hoff (by rw [Nat.mul_one]; exact hr)
          cases hb : bytesOf vs with
          | none => simp [hb] at h
          | some l =>
            simp only [hb, Option.map_some, Option.some.injEq] at h
            subst h
            obtain ⟨ns, e1, e2⟩ := bytesOf_vals h2 hb
            subst e1
            have hl : ns.length = n := by simpa using h1
            refine ⟨.string (ns.foldl (fun r n => r.push (UInt8.ofNat n.toNat)) ByteArray.empty), ?_, .str (by rw [push_all, e2]; rfl)⟩
            simp only [convert, Sem.run_bind, run_underlying hs, run_underlying hd, run_underlying he, Result.andThen_ok]
            refine run_bytesToString w _ n c' ns ?_
            have := run_loadCells_list (P := P) w (⟨L.b, off', none⟩ : Addr) (ns.map (Value.int .u8)) h3
            rw [List.length_map, hl] at this
            exact this
        · cases h
      · cases hu
    · cases h
  · rename_i e k rows cap hs hd
    split at h
    · rename_i hu
      obtain ⟨hu, rfl⟩ := hu
      unfold isU8 at hu
      split at hu
      · rename_i he
        obtain ⟨a, c', cs, rfl, hn, hv, hl, hcase⟩ := im_cells R hx
        cases hb : bytesOf rows.flatten with
        | none => simp [hb] at h
        | some l =>
          simp only [hb, Option.map_some, Option.some.injEq] at h
          subst h
          obtain ⟨ns, e1, e2⟩ := bytesOf_vals hv hb
          subst e1
          have hl' : ns.length = rows.length := by simpa using hl
          rcases hcase with ⟨rfl, e3⟩ | ⟨ad, rfl, h3⟩
          · have hns : ns = [] := by simpa using e3
            subst hns
            subst e2
            refine ⟨.string .empty, ?_, .str rfl⟩
            cases a with
            | none =>
              simp only [convert, Sem.run_bind, run_underlying hs, run_underlying hd, run_underlying he, Result.andThen_ok]
              rfl
            | some ad =>
              simp only [convert, Sem.run_bind, run_underlying hs, run_underlying hd, run_underlying he, Result.andThen_ok]
              exact run_bytesToString w ad 0 c' [] rfl
          · refine ⟨.string (ns.foldl (fun r n => r.push (UInt8.ofNat n.toNat)) ByteArray.empty), ?_, .str (by rw [push_all, e2]; rfl)⟩
            simp only [convert, Sem.run_bind, run_underlying hs, run_underlying hd, run_underlying he, Result.andThen_ok]
            rw [← hl']
            refine run_bytesToString w ad _ c' ns ?_
            have := run_loadCells_list (P := P) w ad (ns.map (Value.int .u8)) h3
            rw [List.length_map] at this
            exact this
      · cases hu
    · cases h
  · cases h

/-! ### Bounds, slices -/
def aInt : AV → Option Int
  | .int _ n => some n
  | _ => none

/-- low, high, max of a slice expression: len, cap (what is surely there), whether the cap is just that. -/
def aBounds (len cap : Nat) (lo hi mx : Option AV) : Option (Nat × Nat × Nat) :=
  match (match mx with | some v => (match aInt v with | some i => if 0 ≤ i ∧ i ≤ cap then some i.toNat else none | none => none) | none => some cap) with
  | none => none
  | some m => match (match hi with | some v => (match aInt v with | some i => if 0 ≤ i ∧ i ≤ m then some i.toNat else none | none => none) | none => if mx.isSome then none else some len) with
    | none => none
    | some h => match (match lo with | some v => (match aInt v with | some i => if 0 ≤ i ∧ i ≤ h then some i.toNat else none | none => none) | none => some 0) with
      | none => none
      | some l => some (l, h, m)

theorem sliceBound_ok {μ : Ren} {v : AV} {v' : Value} (hv : VR μ v v') {i : Int} (hi : aInt v = some i) {y : Nat} (h : 0 ≤ i ∧ i ≤ y) (code : BoundsCode) (w : World) : (Instr.sliceBound v' y code).run P w = .ok i.toNat w := by
  cases v <;> simp [aInt] at hi
  subst hi
  cases hv
  simp only [Instr.sliceBound, asIntOf, Sem.run_bind, Sem.run_pure, Result.andThen_ok, Sem.run_ite, h, and_self, if_true]

inductive VRo (μ : Ren) : Option AV → Option Value → Prop
  | none : VRo μ none none
  | some {v : AV} {v' : Value} (h : VR μ v v') : VRo μ (some v) (some v')

/-- The model's bounds: with a capacity that is not known, cap' stands for cap where no max is given. -/
theorem aBounds_sim {μ : Ren} {isS : Bool} {len cap cap' : Nat} {lo hi mx : Option AV} {lo' hi' mx' : Option Value} (hlo : VRo μ lo lo') (hhi : VRo μ hi hi') (hmx : VRo μ mx mx') (hc : cap ≤ cap')
    {l h m : Nat} (e : aBounds len cap lo hi mx = some (l, h, m)) (hlen : len ≤ cap) (w : World) :
    (Instr.sliceBounds isS len cap' lo' hi' mx').run P w = .ok (l, h, if mx.isSome then m else cap') w ∧ l ≤ h ∧ h ≤ m ∧ m ≤ cap ∧ (mx = none → m = cap) := by
  unfold aBounds at e
  split at e
  · cases e
  · rename_i m0 hm
    split at e
    · cases e
    · rename_i h0 hh
      split at e
      · cases e
      · rename_i l0 hl
        simp only [Option.some.injEq, Prod.mk.injEq] at e
        obtain ⟨rfl, rfl, rfl⟩ := e
        have key : ∀ {v : AV} {y r : Nat}, (match aInt v with | some i => if 0 ≤ i ∧ i ≤ (y : Int) then some i.toNat else none | none => none) = some r → ∃ i, aInt v = some i ∧ (0 ≤ i ∧ i ≤ (y : Int)) ∧ r = i.toNat := by
          intro v y r hr
          split at hr
          · rename_i i hi
            split at hr
            · rename_i hb; cases hr; exact ⟨i, hi, hb, rfl⟩
            · cases hr
          · cases hr
        have hmm : (match mx' with | some v => Instr.sliceBound v cap' (if isS then .slice3Acap else .slice3Alen) | none => pure cap').run P w = .ok (if mx.isSome then m0 else cap') w ∧ m0 ≤ cap ∧ (mx = none → m0 = cap) := by
          cases hmx with
          | none => simp only [Option.some.injEq] at hm; subst hm; exact ⟨rfl, Nat.le_refl _, fun _ => rfl⟩
          | some hv =>
            obtain ⟨i, h1, h2, h3⟩ := key hm
            subst h3
            exact ⟨sliceBound_ok hv h1 ⟨h2.1, by omega⟩ _ w, by omega, fun h => by cases h⟩
        obtain ⟨r1, r2, r3⟩ := hmm
        have hhh : (match hi', mx' with | some v, some _ => Instr.sliceBound v (if mx.isSome then m0 else cap') .slice3B | some v, none => Instr.sliceBound v (if mx.isSome then m0 else cap') (if isS then .sliceAcap else .sliceAlen) | none, none => pure len | none, some _ => stuck "Slice: max without high").run P w = .ok h0 w ∧ h0 ≤ m0 := by
          cases hhi with
          | none =>
            cases hmx with
            | none => simp only [Option.isSome_none, Bool.false_eq_true, if_false, Option.some.injEq] at hh; subst hh; exact ⟨rfl, by have := r3 rfl; omega⟩
            | some hv => simp at hh
          | some hv =>
            obtain ⟨i, h1, h2, h3⟩ := key hh
            subst h3
            have hb : 0 ≤ i ∧ i ≤ ((if mx.isSome then m0 else cap' : Nat) : Int) := ⟨h2.1, by split <;> omega⟩
            cases hmx with
            | none => exact ⟨sliceBound_ok hv h1 hb _ w, by omega⟩
            | some _ => exact ⟨sliceBound_ok hv h1 hb _ w, by omega⟩
        obtain ⟨s1, s2⟩ := hhh
        have hll : (match lo' with | some v => Instr.sliceBound v h0 (if mx'.isSome then .slice3C else .sliceB) | none => pure 0).run P w = .ok l0 w ∧ l0 ≤ h0 := by
          cases hlo with
          | none => simp only [Option.some.injEq] at hl; subst hl; exact ⟨rfl, Nat.zero_le _⟩
          | some hv =>
            obtain ⟨i, h1, h2, h3⟩ := key hl
            subst h3
            exact ⟨sliceBound_ok hv h1 h2 _ w, by omega⟩
        obtain ⟨t1, t2⟩ := hll
        refine ⟨?_, t2, s2, r2, r3⟩
        clear hm hh hl key
        cases hmx <;> cases hhi <;> cases hlo <;> dsimp only at r1 s1 t1 <;>
          simp only [Option.isSome_none, Option.isSome_some, Bool.false_eq_true, if_false, if_true] at r1 s1 t1 ⊢ <;>
          simp only [Instr.sliceBounds, Sem.run_bind, r1, s1, t1, Result.andThen_ok, Sem.run_pure, Option.isSome_none, Option.isSome_some, Bool.false_eq_true, if_false, if_true] <;>
          simp_all

end
end Go.Proofs.Ytbkmjmhoclflnaa.Fw
