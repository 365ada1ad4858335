/- The abstract store; the relation to the model's values and worlds. -/
import Derived.Test.YtbkmjmhoclflnaaFw0
namespace Go.Proofs.Ytbkmjmhoclflnaa.Fw
open Go Go.RowKit
set_option linter.unusedVariables false
set_option linter.unusedSimpArgs false

/-- Where an abstract block lies: the block, the offset of its first cell, how many cells the block has. -/
structure Loc where
  b : Nat
  d : Nat
  z : Nat

/-- Where the objects lie; and what is frozen: the first cells of a block, for good. -/
structure Ren where
  ren : Nat → Option Loc
  fz : Nat → Option (List Value)
instance : CoeFun Ren (fun _ => Nat → Option Loc) := ⟨Ren.ren⟩

/-- More is frozen. -/
def Ren.fle (μ μ' : Ren) : Prop := ∀ b zs, μ.fz b = some zs → ∃ ys, μ'.fz b = some (zs ++ ys)
theorem Ren.fle_refl (μ : Ren) : μ.fle μ := fun _ zs h => ⟨[], by simpa using h⟩
theorem Ren.fle_trans {a b c : Ren} (h : a.fle b) (k : b.fle c) : a.fle c := fun x zs e => by
  obtain ⟨ys, e1⟩ := h x zs e
  obtain ⟨ws, e2⟩ := k x _ e1
  exact ⟨ys ++ ws, by rw [e2, List.append_assoc]⟩
theorem Ren.fle_of_eq {a b : Ren} (h : b.fz = a.fz) : a.fle b := fun x zs e => ⟨[], by rw [h]; simpa using e⟩

structure Ren.le (μ μ' : Ren) : Prop where
  ren : ∀ i L, μ i = some L → μ' i = some L
  fz : μ.fle μ'
theorem Ren.le_refl (μ : Ren) : μ.le μ := ⟨fun _ _ h => h, μ.fle_refl⟩
theorem Ren.le_trans {a b c : Ren} (h : a.le b) (k : b.le c) : a.le c := ⟨fun i L e => k.ren i L (h.ren i L e), Ren.fle_trans h.fz k.fz⟩

/-- A stretch of what is frozen. -/
def Froz (μ : Ren) (b off : Nat) (cs : List Value) : Prop := ∃ zs, μ.fz b = some zs ∧ off + cs.length ≤ zs.length ∧ (zs.drop off).take cs.length = cs
theorem Froz.mono {μ μ' : Ren} (hm : μ.fle μ') {b off : Nat} {cs : List Value} (h : Froz μ b off cs) : Froz μ' b off cs := by
  obtain ⟨zs, h1, h2, h3⟩ := h
  obtain ⟨ys, e⟩ := hm b zs h1
  refine ⟨zs ++ ys, e, by simp; omega, ?_⟩
  rw [List.drop_append_of_le_length (by omega), List.take_append_of_le_length (by simp; omega)]
  exact h3
theorem Froz.get {μ : Ren} {b off : Nat} {cs : List Value} (h : Froz μ b off cs) : ∃ zs, μ.fz b = some zs ∧ ∀ j v, cs[j]? = some v → zs[off + j]? = some v := by
  obtain ⟨zs, h1, h2, h3⟩ := h
  refine ⟨zs, h1, fun j v e => ?_⟩
  have hj := (List.getElem?_eq_some_iff.1 e).1
  rw [← h3, List.getElem?_take_of_lt hj, List.getElem?_drop] at e
  exact e
theorem Froz.part {μ : Ren} {b off : Nat} {cs : List Value} (h : Froz μ b off cs) (d n : Nat) : Froz μ b (off + d) ((cs.drop d).take n) ∨ cs.length < d := by
  by_cases hd : cs.length < d
  · exact .inr hd
  refine .inl ?_
  obtain ⟨zs, h1, h2, h3⟩ := h
  refine ⟨zs, h1, by simp; omega, ?_⟩
  conv => rhs; rw [← h3]
  rw [List.drop_take, List.drop_drop, List.take_take]
  congr 1
  simp

def CapOk : Cap → Loc → Nat → Nat → Nat → Prop
  | .exact c, L, o, off', c' => c' = c ∧ (c' = 0 ∨ off' = L.d + o)
  | .spare es, L, o, off', c' => c' = 0 ∨ (off' = L.d + o ∧ L.d + o + c' * es ≤ L.z)
  | .ro, L, o, off', c' => c' = 0 ∨ off' = L.d + o
  | .tok _, _, _, _, _ => False

/-- The capacity of a frozen slice (of cells of k; it begins at off in block b, its last element ends at e): the token's holder may lay more behind it. -/
def ImCap (μ : Ren) : Cap → Nat → Nat → Nat → Nat → Nat → Prop
  | .exact c, _, _, _, _, c' => c' = c
  | .ro, _, _, _, _, _ => True
  | .tok t, k, b, off, e, c' => ∃ L, μ t = some L ∧ L.b = b ∧ L.d = e ∧ off + c' * k ≤ L.z
  | .spare _, _, _, _, _, _ => False
theorem ImCap.mono {μ μ' : Ren} (hm : μ.le μ') {cap : Cap} {k b off e c' : Nat} (h : ImCap μ cap k b off e c') : ImCap μ' cap k b off e c' := by
  cases cap with
  | exact c => exact h
  | ro => exact h
  | spare s => exact h
  | tok t => obtain ⟨L, h1, h2⟩ := h; exact ⟨L, hm.ren _ _ h1, h2⟩
def imE : Cap → Nat → Prop
  | .exact c, c' => c' = c
  | .ro, _ => True
  | _, _ => False

mutual
inductive VR (μ : Ren) : AV → Value → Prop
  | bool (b : Bool) : VR μ (.bool b) (.bool b)
  | int (k : IntKind) (n : Int) : VR μ (.int k n) (.int k n)
  | str {s : List UInt8} {s' : ByteArray} (h : s'.data.toList = s) : VR μ (.str s) (.string s')
  | ptrNil : VR μ .ptrNil (.pointer none)
  | ptr {i o : Nat} {L : Loc} (h : μ i = some L) : VR μ (.ptr i o) (.pointer (some ⟨L.b, L.d + o, none⟩))
  | slNil : VR μ .slNil (.slice none 0 0)
  | sl {i o n : Nat} {cap : Cap} {L : Loc} {off' c' : Nat} (h : μ i = some L) (hn : n ≤ c') (hc : CapOk cap L o off' c') : VR μ (.sl i o n cap) (.slice (some ⟨L.b, off', none⟩) n c')
  | mapNil : VR μ .mapNil (.map none)
  | map {i : Nat} {L : Loc} (h : μ i = some L) : VR μ (.map i) (.map (some L.b))
  | fnNil : VR μ .fnNil .nilFunc
  | fn {f : Fn} {xs ys : List AV} {xs' ys' : Array Value} (h1 : VRs μ xs xs'.toList) (h2 : VRs μ ys ys'.toList) : VR μ (.fn f xs ys) (.func f xs' ys')
  | ifaceNil : VR μ .ifaceNil .nilIface
  | iface {t : TypeId} {v : AV} {v' : Value} (h : VR μ v v') : VR μ (.iface t v) (.iface t v')
  | agg {cs : List AV} {cs' : Array Value} (h : VRs μ cs cs'.toList) : VR μ (.agg cs) (.agg cs')
  | tup {vs : List AV} {vs' : Array Value} (h : VRs μ vs vs'.toList) : VR μ (.tup vs) (.tuple vs')
  | im {k b off c' : Nat} {rows : List (List AV)} {cap : Cap} {cs : List Value} (hf : Froz μ b off cs) (hv : VRs μ rows.flatten cs) (hk : ∀ r ∈ rows, r.length = k) (hn : rows.length ≤ c') (hc : ImCap μ cap k b off (off + rows.length * k) c') : VR μ (.im k rows cap) (.slice (some ⟨b, off, none⟩) rows.length c')
  | imE {k c' : Nat} {cap : Cap} {a : Option Addr} (hc : imE cap c') (hz : a = none → c' = 0) : VR μ (.im k [] cap) (.slice a 0 c')
  | imp {b off o : Nat} {row : List AV} {cs : List Value} (hf : Froz μ b off cs) (hv : VRs μ row cs) : VR μ (.imp row o) (.pointer (some ⟨b, off + o, none⟩))
  | sle {a : Addr} {c' : Nat} : VR μ .sle (.slice (some a) 0 c')
  | bad {v : Value} : VR μ .bad v
inductive VRs (μ : Ren) : List AV → List Value → Prop
  | nil : VRs μ [] []
  | cons {x : AV} {y : Value} {xs : List AV} {ys : List Value} (h : VR μ x y) (t : VRs μ xs ys) : VRs μ (x :: xs) (y :: ys)
end

theorem VR.mono {μ μ' : Ren} (hm : μ.le μ') {x : AV} {y : Value} (h : VR μ x y) : VR μ' x y := by
  refine VR.rec (motive_1 := fun x y _ => VR μ' x y) (motive_2 := fun xs ys _ => VRs μ' xs ys) ?_ ?_ ?_ ?_ ?_ ?_ ?_ ?_ ?_ ?_ ?_ ?_ ?_ ?_ ?_ ?_ ?_ ?_ ?_ ?_ ?_ ?_ h
  · exact fun b => .bool b
  · exact fun k n => .int k n
  · exact fun h => .str h
  · exact .ptrNil
  · exact fun h => .ptr (hm.ren _ _ h)
  · exact .slNil
  · exact fun h hn hc => .sl (hm.ren _ _ h) hn hc
  · exact .mapNil
  · exact fun h => .map (hm.ren _ _ h)
  · exact .fnNil
  · exact fun _ _ h1 h2 => .fn h1 h2
  · exact .ifaceNil
  · exact fun _ h => .iface h
  · exact fun _ h => .agg h
  · exact fun _ h => .tup h
  · exact fun hf hv hk hn hc ih => .im (hf.mono hm.fz) ih hk hn (hc.mono hm)
  · exact fun hc hz => .imE hc hz
  · exact fun hf hv ih => .imp (hf.mono hm.fz) ih
  · exact .sle
  · exact .bad
  · exact .nil
  · exact fun _ _ h t => .cons h t

theorem VRs.mono {μ μ' : Ren} (hm : μ.le μ') : ∀ {xs : List AV} {ys : List Value}, VRs μ xs ys → VRs μ' xs ys
  | _, _, .nil => .nil
  | _, _, .cons h t => .cons (h.mono hm) (t.mono hm)

theorem VRs.length {μ : Ren} : ∀ {xs : List AV} {ys : List Value}, VRs μ xs ys → xs.length = ys.length
  | _, _, .nil => rfl
  | _, _, .cons _ t => by simp [t.length]

theorem VRs.get {μ : Ren} : ∀ {xs : List AV} {ys : List Value}, VRs μ xs ys → ∀ {j : Nat} {x : AV}, xs[j]? = some x → ∃ y, ys[j]? = some y ∧ VR μ x y
  | _, _, .nil, _, _, h => by simp at h
  | _, _, .cons h t, 0, x, e => by
    simp only [List.getElem?_cons_zero, Option.some.injEq] at e
    subst e
    exact ⟨_, rfl, h⟩
  | _, _, .cons h t, j + 1, x, e => by
    simp only [List.getElem?_cons_succ] at e
    obtain ⟨y, hy, hv⟩ := t.get e
    exact ⟨y, by simpa using hy, hv⟩

theorem VRs.of_get {μ : Ren} : ∀ {xs : List AV} {ys : List Value}, xs.length = ys.length → (∀ (j : Nat) (x : AV) (y : Value), xs[j]? = some x → ys[j]? = some y → VR μ x y) → VRs μ xs ys
  | [], [], _, _ => .nil
  | [], _ :: _, h, _ => by simp at h
  | _ :: _, [], h, _ => by simp at h
  | x :: xs, y :: ys, h, hg => .cons (hg 0 x y rfl rfl) (VRs.of_get (by simpa using h) fun j a b h1 h2 => hg (j + 1) a b (by simpa using h1) (by simpa using h2))

theorem VRs.append {μ : Ren} : ∀ {xs xs2 : List AV} {ys ys2 : List Value}, VRs μ xs ys → VRs μ xs2 ys2 → VRs μ (xs ++ xs2) (ys ++ ys2)
  | _, _, _, _, .nil, k => k
  | _, _, _, _, .cons h t, k => .cons h (t.append k)

theorem VRs.take {μ : Ren} : ∀ {xs : List AV} {ys : List Value}, VRs μ xs ys → ∀ n, VRs μ (xs.take n) (ys.take n)
  | _, _, _, 0 => by simpa using .nil
  | _, _, .nil, n + 1 => by simpa using .nil
  | _, _, .cons h t, n + 1 => by simpa using .cons h (t.take n)

theorem VRs.drop {μ : Ren} : ∀ {xs : List AV} {ys : List Value}, VRs μ xs ys → ∀ n, VRs μ (xs.drop n) (ys.drop n)
  | _, _, h, 0 => by simpa using h
  | _, _, .nil, n + 1 => by simpa using .nil
  | _, _, .cons h t, n + 1 => by simpa using t.drop n

theorem VRs.set {μ : Ren} : ∀ {xs : List AV} {ys : List Value}, VRs μ xs ys → ∀ (n : Nat) {x : AV} {y : Value}, VR μ x y → VRs μ (xs.set n x) (ys.set n y)
  | _, _, .nil, n, _, _, _ => by simpa using .nil
  | _, _, .cons h t, 0, _, _, k => by simpa using .cons k t
  | _, _, .cons h t, n + 1, _, _, k => by simpa using .cons h (t.set n k)

theorem VRs.replicate {μ : Ren} {x : AV} {y : Value} (h : VR μ x y) : ∀ n, VRs μ (List.replicate n x) (List.replicate n y)
  | 0 => .nil
  | n + 1 => .cons h (VRs.replicate h n)

theorem VRs.flatMapRep {μ : Ren} {zs : List AV} {zs' : List Value} (h : VRs μ zs zs') : ∀ n, VRs μ (List.replicate n zs).flatten (List.replicate n zs').flatten
  | 0 => by simpa using .nil
  | n + 1 => by simpa [List.replicate_succ] using h.append (VRs.flatMapRep h n)

/-! ### Objects and the store -/

inductive AObj where
  | cells (vs : List AV) (ty : TypeId)
  | ro (rd : Nat → Option AV)
  | map (es : List (AV × AV × Nat)) (clock : Nat)
  | mit (m : Option Nat) (since : Nat) (seen : List Nat) (stepped : Nat)
  | sit (s : List UInt8) (pos : Nat)
  | frozen (vs : List AV) (ty : TypeId)
  | tok
  | dead

abbrev Store := List AObj


def AObj.mut : AObj → Bool
  | .ro _ | .dead | .frozen .. => false
  | _ => true
def AObj.isTok : AObj → Bool
  | .tok => true
  | _ => false

def Fine (fr : Nat × Nat) (z : Nat) : Prop := fr.1 = fr.2 ∨ z ≤ fr.1

inductive MRs (μ : Ren) : List (AV × AV × Nat) → List MapEntry → Prop
  | nil : MRs μ [] []
  | cons {k v : AV} {k' v' : Value} {b : Nat} {es : List (AV × AV × Nat)} {es' : List MapEntry} (hk : VR μ k k') (hv : VR μ v v') (t : MRs μ es es') : MRs μ ((k, v, b) :: es) (⟨k', v', b⟩ :: es')

theorem MRs.mono {μ μ' : Ren} (hm : μ.le μ') : ∀ {xs : List (AV × AV × Nat)} {ys : List MapEntry}, MRs μ xs ys → MRs μ' xs ys
  | _, _, .nil => .nil
  | _, _, .cons h k t => .cons (h.mono hm) (k.mono hm) (t.mono hm)

def Cells (μ : Ren) (L : Loc) (vs : List AV) (ty : TypeId) (w : World) : Prop :=
  ∃ cs fr, w.heap[L.b]? = some (.cells cs ty fr) ∧ cs.size = L.z ∧ L.d + vs.length ≤ L.z ∧ Fine fr cs.size ∧ VRs μ vs ((cs.toList.drop L.d).take vs.length)

/-- How an object of the store lies in the world. w0: the world at the beginning, of which nothing is written. -/
def ORel (w0 : World) (μ : Ren) (L : Loc) : AObj → World → Prop
  | .cells vs ty, w => w0.heap.size ≤ L.b ∧ Cells μ L vs ty w
  | .ro rd, _ => L.b < w0.heap.size ∧ L.d = 0 ∧ ∃ cs ty fr, w0.heap[L.b]? = some (.cells cs ty fr) ∧ ∀ o v, rd o = some v → ∃ v', cs[o]? = some v' ∧ VR μ v v'
  | .map es clock, w => w0.heap.size ≤ L.b ∧ ∃ ces, w.heap[L.b]? = some (.map ces clock) ∧ MRs μ es ces.toList
  | .mit m since seen stepped, w => w0.heap.size ≤ L.b ∧ L.d = 0 ∧ ∃ m', w.heap[L.b]? = some (.mapIter m' since seen.toArray stepped) ∧ (match m, m' with | none, none => True | some i, some b => ∃ Lm, μ i = some Lm ∧ Lm.b = b | _, _ => False)
  | .sit s pos, w => w0.heap.size ≤ L.b ∧ L.d = 0 ∧ ∃ s', w.heap[L.b]? = some (.stringIter s' pos) ∧ s'.data.toList = s
  | .frozen vs _, _ => ∃ cs, Froz μ L.b L.d cs ∧ VRs μ vs cs
  | .tok, w => w0.heap.size ≤ L.b ∧ L.d ≤ L.z ∧ ∃ cs ty fr, w.heap[L.b]? = some (.cells cs ty fr) ∧ cs.size = L.z ∧ Fine fr cs.size
  | .dead, _ => True

theorem Cells.mono {μ μ' : Ren} (hm : μ.le μ') {L : Loc} {vs : List AV} {ty : TypeId} {w : World} (h : Cells μ L vs ty w) : Cells μ' L vs ty w := by
  obtain ⟨cs, fr, h1, h2, h3, h4, h5⟩ := h
  exact ⟨cs, fr, h1, h2, h3, h4, h5.mono hm⟩

theorem ORel.mono {w0 : World} {μ μ' : Ren} (hm : μ.le μ') {L : Loc} {o : AObj} {w : World} (h : ORel w0 μ L o w) : ORel w0 μ' L o w := by
  cases o with
  | cells vs ty => exact ⟨h.1, h.2.mono hm⟩
  | ro rd =>
    obtain ⟨h1, h2, cs, ty, fr, h3, h4⟩ := h
    exact ⟨h1, h2, cs, ty, fr, h3, fun o v e => let ⟨v', a, b⟩ := h4 o v e; ⟨v', a, b.mono hm⟩⟩
  | map es clock =>
    obtain ⟨h1, ces, h2, h3⟩ := h
    exact ⟨h1, ces, h2, h3.mono hm⟩
  | mit m since seen stepped =>
    obtain ⟨h1, hd, m', h2, h3⟩ := h
    refine ⟨h1, hd, m', h2, ?_⟩
    cases m <;> cases m' <;> simp only at h3 ⊢
    obtain ⟨Lm, a, b⟩ := h3
    exact ⟨Lm, hm.ren _ _ a, b⟩
  | sit s pos => exact h
  | frozen vs ty => obtain ⟨cs, h1, h2⟩ := h; exact ⟨cs, h1.mono hm.fz, h2.mono hm⟩
  | tok => exact h
  | dead => exact h

/-- An object's relation hangs on its own block alone. -/
theorem ORel.frame {w0 : World} {μ : Ren} {L : Loc} {o : AObj} {w w' : World} (h : ORel w0 μ L o w) (hb : o.mut = true → w'.heap[L.b]? = w.heap[L.b]?) : ORel w0 μ L o w' := by
  cases o with
  | cells vs ty =>
    obtain ⟨h1, cs, fr, h2, h3⟩ := h
    exact ⟨h1, cs, fr, by rw [hb rfl]; exact h2, h3⟩
  | ro rd => exact h
  | map es clock =>
    obtain ⟨h1, ces, h2, h3⟩ := h
    exact ⟨h1, ces, by rw [hb rfl]; exact h2, h3⟩
  | mit m since seen stepped =>
    obtain ⟨h1, hd, m', h2, h3⟩ := h
    exact ⟨h1, hd, m', by rw [hb rfl]; exact h2, h3⟩
  | sit s pos =>
    obtain ⟨h1, hd, s', h2, h3⟩ := h
    exact ⟨h1, hd, s', by rw [hb rfl]; exact h2, h3⟩
  | frozen vs ty => exact h
  | tok =>
    obtain ⟨h1, h2, cs, ty, fr, h3, h4⟩ := h
    exact ⟨h1, h2, cs, ty, fr, by rw [hb rfl]; exact h3, h4⟩
  | dead => trivial

theorem ORel.ge {w0 : World} {μ : Ren} {L : Loc} {o : AObj} {w : World} (h : ORel w0 μ L o w) (hm : o.mut = true) : w0.heap.size ≤ L.b := by
  cases o <;> first | exact h.1 | simp [AObj.mut] at hm

def Ren.bare (μ : Ren) : Ren := ⟨fun _ => none, μ.fz⟩
theorem Ren.bare_le (μ : Ren) : μ.bare.le μ := ⟨fun _ _ e => (by cases e), Ren.fle_of_eq rfl⟩
theorem Ren.bare_mono {μ μ' : Ren} (h : μ.fle μ') : μ.bare.le μ'.bare := ⟨fun _ _ e => (by cases e), h⟩
/-- The package's tables: frozen cells. -/
def Globs (μ : Ren) : Prop := ∀ g row, globs g = some row → ∃ cs, Froz μ g 0 cs ∧ VRs μ.bare row cs
theorem Globs.fmono {μ μ' : Ren} (hm : μ.fle μ') (h : Globs μ) : Globs μ' := fun g row e => by
  obtain ⟨cs, h1, h2⟩ := h g row e
  exact ⟨cs, h1.mono hm, h2.mono (Ren.bare_mono hm)⟩
theorem Globs.mono {μ μ' : Ren} (hm : μ.le μ') (h : Globs μ) : Globs μ' := h.fmono hm.fz

structure Rel (w0 : World) (μ : Ren) (σ : Store) (w : World) : Prop where
  below : Below w0.heap.size w0 w
  obj : ∀ i L o, μ i = some L → σ[i]? = some o → ORel w0 μ L o w
  inj : ∀ i j Li Lj oi oj, i ≠ j → μ i = some Li → μ j = some Lj → σ[i]? = some oi → σ[j]? = some oj → oi.mut = true → oj.mut = true → Li.b ≠ Lj.b
  dom : ∀ i L, μ i = some L → i < σ.length ∧ L.b < w.heap.size
  frz : ∀ b zs, μ.fz b = some zs → ∃ cs ty fr, w.heap[b]? = some (.cells cs ty fr) ∧ ∃ ys, cs.toList = zs ++ ys
  sep : ∀ i L o, μ i = some L → σ[i]? = some o → o.mut = true → o.isTok = false → μ.fz L.b = none
  tok : ∀ i L o, μ i = some L → σ[i]? = some o → o.isTok = true → ∃ zs, μ.fz L.b = some zs ∧ zs.length = L.d
  glb : Globs μ

theorem Rel.fzlt {w0 : World} {μ : Ren} {σ : Store} {w : World} (h : Rel w0 μ σ w) {b : Nat} {zs : List Value} (hb : μ.fz b = some zs) : b < w.heap.size := by
  obtain ⟨cs, ty, fr, h1, _⟩ := h.frz b zs hb
  exact (Array.getElem?_eq_some_iff.1 h1).1
theorem Rel.fznew {w0 : World} {μ : Ren} {σ : Store} {w : World} (h : Rel w0 μ σ w) {b : Nat} (hb : w.heap.size ≤ b) : μ.fz b = none := by
  cases e : μ.fz b with
  | none => rfl
  | some zs => have := h.fzlt e; omega

theorem Rel.drew {w0 : World} {μ : Ren} {σ : Store} {w : World} (h : Rel w0 μ σ w) : Rel w0 μ σ w.drew :=
  ⟨h.below.drew, fun i L o a b => (h.obj i L o a b).frame fun _ => rfl, h.inj, h.dom, h.frz, h.sep, h.tok, h.glb⟩

def Ren.push (μ : Ren) (i : Nat) (L : Loc) : Ren := ⟨fun j => if j = i then some L else μ j, μ.fz⟩
theorem Ren.push_at (μ : Ren) (i : Nat) (L : Loc) (j : Nat) : (μ.push i L) j = if j = i then some L else μ j := rfl
theorem Ren.push_ne {μ : Ren} {i j : Nat} {L : Loc} (h : j ≠ i) : (μ.push i L) j = μ j := by rw [Ren.push_at, if_neg h]
theorem Ren.push_fz (μ : Ren) (i : Nat) (L : Loc) : (μ.push i L).fz = μ.fz := rfl
theorem Ren.push_le {μ : Ren} {i : Nat} {L : Loc} (h : μ i = none) : μ.le (μ.push i L) := by
  refine ⟨fun j L' e => ?_, Ren.fle_of_eq rfl⟩
  rw [Ren.push_at]
  split
  · subst_vars; rw [h] at e; cases e
  · exact e
theorem Ren.push_self {μ : Ren} {i : Nat} {L : Loc} : (μ.push i L) i = some L := by simp [Ren.push]

/-- A new object in the store, and a new block. -/
theorem Rel.new {w0 : World} {μ : Ren} {σ : Store} {w w' : World} {i : Nat} {o : AObj} (h : Rel w0 μ σ w) (hi : μ i = none) (hlt : i < σ.length) (ho : σ[i]? = some o) (hot : o.isTok = false) {L : Loc} (hL : L.b = w.heap.size) (hb : Below w.heap.size w w')
    (hs : w.heap.size < w'.heap.size) (hnew : ORel w0 (μ.push i L) L o w') : Rel w0 (μ.push i L) σ w' := by
  have hle := Ren.push_le (L := L) hi
  have hw0 : w0.heap.size ≤ w.heap.size := h.below.size
  refine ⟨h.below.trans (hb.mono hw0), ?_, ?_, ?_, ?_, ?_, ?_, h.glb.mono hle⟩
  · intro j Lj oj hj hoj
    by_cases e : j = i
    · subst e
      rw [Ren.push_self] at hj
      cases hj
      rw [ho] at hoj
      cases hoj
      exact hnew
    · have hj' : μ j = some Lj := by rwa [Ren.push_ne e] at hj
      exact ((h.obj j Lj oj hj' hoj).mono hle).frame fun _ => hb.block _ (h.dom j Lj hj').2
  · intro a b La Lb oa ob hne ha hb' hoa hob hma hmb
    by_cases e : a = i
    · subst e
      rw [Ren.push_self] at ha
      cases ha
      have hb2 : μ b = some Lb := by rwa [Ren.push_ne (Ne.symm hne)] at hb'
      have := (h.dom b Lb hb2).2
      omega
    · have ha2 : μ a = some La := by rwa [Ren.push_ne e] at ha
      have hda := (h.dom a La ha2).2
      by_cases e2 : b = i
      · subst e2
        rw [Ren.push_self] at hb'
        cases hb'
        omega
      · have hb2 : μ b = some Lb := by rwa [Ren.push_ne e2] at hb'
        exact h.inj a b La Lb oa ob hne ha2 hb2 hoa hob hma hmb
  · intro j Lj hj
    by_cases e : j = i
    · subst e
      rw [Ren.push_self] at hj
      cases hj
      exact ⟨hlt, by omega⟩
    · have hj' : μ j = some Lj := by rwa [Ren.push_ne e] at hj
      have := h.dom j Lj hj'
      exact ⟨this.1, by have := hb.size; omega⟩
  · intro b zs e
    rw [Ren.push_fz] at e
    obtain ⟨cs, ty, fr, h1, h2⟩ := h.frz b zs e
    exact ⟨cs, ty, fr, by rw [hb.block _ (h.fzlt e)]; exact h1, h2⟩
  · intro j Lj oj hj hoj hm ht
    rw [Ren.push_fz]
    by_cases e : j = i
    · subst e
      rw [Ren.push_self] at hj
      cases hj
      exact h.fznew (by omega)
    · exact h.sep j Lj oj (by rwa [Ren.push_ne e] at hj) hoj hm ht
  · intro j Lj oj hj hoj ht
    rw [Ren.push_fz]
    by_cases e : j = i
    · subst e
      rw [ho] at hoj
      cases hoj
      rw [hot] at ht
      cases ht
    · exact h.tok j Lj oj (by rwa [Ren.push_ne e] at hj) hoj ht

/-- The store grows by objects that lie nowhere yet. -/
theorem Rel.more {w0 : World} {μ : Ren} {σ : Store} {w : World} (h : Rel w0 μ σ w) (l : List AObj) : Rel w0 μ (σ ++ l) w := by
  have hg : ∀ i L, μ i = some L → (σ ++ l)[i]? = σ[i]? := fun i L e => List.getElem?_append_left (h.dom i L e).1
  refine ⟨h.below, fun i L o a b => h.obj i L o a (by rw [← hg i L a]; exact b), ?_, fun i L e => ⟨by have := (h.dom i L e).1; simp; omega, (h.dom i L e).2⟩, h.frz, fun i L o a b => h.sep i L o a (by rw [← hg i L a]; exact b), fun i L o a b => h.tok i L o a (by rw [← hg i L a]; exact b), h.glb⟩
  intro i j Li Lj oi oj hne hi hj hoi hoj
  rw [hg i Li hi] at hoi
  rw [hg j Lj hj] at hoj
  exact h.inj i j Li Lj oi oj hne hi hj hoi hoj

theorem Rel.fresh {w0 : World} {μ : Ren} {σ : Store} {w : World} (h : Rel w0 μ σ w) : μ σ.length = none := by
  cases e : μ σ.length with
  | none => rfl
  | some L => exact absurd (h.dom _ L e).1 (Nat.lt_irrefl _)

/-- A new object at the store's end. -/
theorem Rel.alloc {w0 : World} {μ : Ren} {σ : Store} {w w' : World} {o : AObj} (h : Rel w0 μ σ w) (hot : o.isTok = false) {L : Loc} (hL : L.b = w.heap.size) (hb : Below w.heap.size w w')
    (hs : w.heap.size < w'.heap.size) (hnew : ORel w0 (μ.push σ.length L) L o w') : Rel w0 (μ.push σ.length L) (σ ++ [o]) w' :=
  (h.more [o]).new h.fresh (by simp) (by simp) hot hL hb hs hnew

/-- A written object: the others' blocks are other blocks. -/
theorem Rel.upd {w0 : World} {μ : Ren} {σ : Store} {w w' : World} {i : Nat} {o o' : AObj} {L : Loc} (h : Rel w0 μ σ w) (hi : μ i = some L) (ho : σ[i]? = some o) (hm : o.mut = true) (hnt : o.isTok = false) (hnt' : o'.isTok = false)
    (hb : ∀ k, k ≠ L.b → w'.heap[k]? = w.heap[k]?) (hsz : w'.heap.size = w.heap.size) (ht : w'.tape = w.tape) (hos : w'.os = w.os) (hout : w'.output = w.output)
    (hnew : ORel w0 μ L o' w') : Rel w0 μ (σ.set i o') w' := by
  have hge := (h.obj i L o hi ho).ge hm
  have hlt : i < σ.length := (h.dom i L hi).1
  have hz := h.sep i L o hi ho hm hnt
  refine ⟨h.below.trans ⟨hos, ht, hout, by omega, fun k hk => hb k (by omega)⟩, ?_, ?_, fun j Lj e => ⟨by simpa using (h.dom j Lj e).1, by have := (h.dom j Lj e).2; omega⟩, ?_, ?_, ?_, h.glb⟩
  · intro j Lj oj hj hoj
    by_cases e : j = i
    · subst e
      rw [hi] at hj
      cases hj
      rw [List.getElem?_set_self hlt] at hoj
      cases hoj
      exact hnew
    · rw [List.getElem?_set_ne (Ne.symm e)] at hoj
      refine (h.obj j Lj oj hj hoj).frame fun hmj => hb _ ?_
      exact h.inj j i Lj L oj o e hj hi hoj ho hmj hm
  · intro a b La Lb oa ob hne ha hb' hoa hob hma hmb
    have key : ∀ (k : Nat) (ok : AObj), (σ.set i o')[k]? = some ok → ok.mut = true → ∃ ok' : AObj, σ[k]? = some ok' ∧ ok'.mut = true := by
      intro k ok e em
      by_cases e2 : k = i
      · subst e2; exact ⟨o, ho, hm⟩
      · rw [List.getElem?_set_ne (Ne.symm e2)] at e; exact ⟨ok, e, em⟩
    obtain ⟨oa', h1, h2⟩ := key a oa hoa hma
    obtain ⟨ob', h3, h4⟩ := key b ob hob hmb
    exact h.inj a b La Lb oa' ob' hne ha hb' h1 h3 h2 h4
  · intro b zs e
    have hne : b ≠ L.b := by rintro rfl; rw [hz] at e; cases e
    obtain ⟨cs, ty, fr, h1, h2⟩ := h.frz b zs e
    exact ⟨cs, ty, fr, by rw [hb b hne]; exact h1, h2⟩
  · intro j Lj oj hj hoj hmj htj
    by_cases e : j = i
    · subst e; rw [hi] at hj; cases hj; exact hz
    · rw [List.getElem?_set_ne (Ne.symm e)] at hoj; exact h.sep j Lj oj hj hoj hmj htj
  · intro j Lj oj hj hoj htj
    by_cases e : j = i
    · subst e
      rw [List.getElem?_set_self hlt] at hoj
      cases hoj
      rw [hnt'] at htj
      cases htj
    · rw [List.getElem?_set_ne (Ne.symm e)] at hoj; exact h.tok j Lj oj hj hoj htj

/-- An object that is left: nothing is known of it. -/
theorem Rel.kill {w0 : World} {μ : Ren} {σ : Store} {w : World} (h : Rel w0 μ σ w) (i : Nat) : Rel w0 μ (σ.set i .dead) w := by
  have old : ∀ (k : Nat) (ok : AObj), (σ.set i .dead)[k]? = some ok → ok = .dead ∨ σ[k]? = some ok := by
    intro k ok e
    rw [List.getElem?_set] at e
    split at e
    · split at e
      · cases e; exact .inl rfl
      · cases e
    · exact .inr e
  refine ⟨h.below, ?_, ?_, fun j Lj e => ⟨by simpa using (h.dom j Lj e).1, (h.dom j Lj e).2⟩, h.frz, ?_, ?_, h.glb⟩
  · intro j Lj oj hj hoj
    rcases old j oj hoj with rfl | e
    · trivial
    · exact h.obj j Lj oj hj e
  · intro a b La Lb oa ob hne ha hb hoa hob hma hmb
    rcases old a oa hoa with rfl | e1
    · cases hma
    · rcases old b ob hob with rfl | e2
      · cases hmb
      · exact h.inj a b La Lb oa ob hne ha hb e1 e2 hma hmb
  · intro j Lj oj hj hoj hm ht
    rcases old j oj hoj with rfl | e
    · cases hm
    · exact h.sep j Lj oj hj e hm ht
  · intro j Lj oj hj hoj ht
    rcases old j oj hoj with rfl | e
    · cases ht
    · exact h.tok j Lj oj hj e ht

end Go.Proofs.Ytbkmjmhoclflnaa.Fw
